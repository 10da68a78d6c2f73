/-
  host: a segment comes in: toListener, nobody, Input.
-/
import Derived.Test.Qxb6500424aGreatHoF
set_option linter.unusedVariables false
set_option linter.unusedSimpArgs false
open Go.Vc
namespace Go.Proofs.Qxb6500424aGreat
section
variable {w w' w0 : World} {B : HB} {h : HS} {n : Int}
theorem hostF_drop (B : HB) (h : HS) (k : Nat) (hk : k < 8) : ∀ j, j < 18 → (if j = 3 + k then Value.int .i64 (h.dr k + 1) else hostF B h j) = hostF B (dropH h k) j := fun j hj => by
  unfold hostF dropH
  by_cases q : j = 3 + k
  · rw [if_pos q, if_neg (by omega), if_neg (by omega), if_neg (by omega), if_pos (by omega)]
    simp [show j - 3 = k by omega]
  · rw [if_neg q]
    by_cases q2 : 3 ≤ j ∧ j < 11
    · rw [if_neg (by omega), if_neg (by omega), if_neg (by omega), if_pos (by omega), if_neg (by omega), if_neg (by omega), if_neg (by omega), if_pos (by omega)]
      simp [show j - 3 ≠ k by omega]
    · by_cases q3 : j < 3
      · have : j = 0 ∨ j = 1 ∨ j = 2 := by omega
        rcases this with z | z | z <;> simp [z]
      · have h0 : ¬ j = 0 := by omega
        have h1 : ¬ j = 1 := by omega
        have h2 : ¬ j = 2 := by omega
        have h3 : ¬ j < 11 := by omega
        simp only [if_neg h0, if_neg h1, if_neg h2, if_neg h3]
theorem HsOk.drop (ok : HsOk n h) (k : Nat) : HsOk (n + 1) (dropH h k) := by
  have k' := ok.mono (m := n + 1) (by omega)
  refine ⟨k'.addr, k'.La, k'.L, k'.nx, k'.cr, k'.sk, k'.cs, k'.clk, k'.lost, fun j hj => ?_, k'.nsd⟩
  have := ok.dr j hj
  show 0 ≤ (if j = k then h.dr j + 1 else h.dr j) ∧ (if j = k then h.dr j + 1 else h.dr j) ≤ n + 1
  split <;> omega
/-- A counter goes up. -/
theorem drop_ok {k : Nat} {a : Addr} {f : Addr → Addr} {P : Prop} {K : World → Prop} (kk : HostAt w B h) (ok : HsOk n h) (hn : n ≤ 288230376151711744) (hk : k < 8) (ea : a = ⟨B.hp, 3 + k, none⟩) (eb : f ⟨B.hp, 0, none⟩ = ⟨B.hp, 3 + k, none⟩) (hP : P) (hK : ∀ w', HostAt w' B (dropH h k) → Ext [B.hp] w w' → K w') : LdI .i64 a w fun x => Pn (some ⟨B.hp, 0, none⟩) fun a2 => P ∧ Sts [.int .i64 (IntKind.i64.wrap (x + 1))] (f a2) 0 w K := by
  subst ea
  have hd := ok.dr k hk
  refine LdI.fn (v := h.dr k) kk.own (by omega) ?_ ?_
  · unfold hostF
    rw [if_neg (by omega), if_neg (by omega), if_neg (by omega), if_pos (by omega)]
    simp
  · refine Pn.mk ⟨hP, ?_⟩
    rw [eb, w64 (by omega) (by omega)]
    exact kk.st (h' := dropH h k) (by omega) rfl (hostF_drop B h k hk) rfl rfl rfl rfl rfl rfl fun w' _ h2 h3 => hK w' h2 h3
theorem HostAt.drop8 (k : HostAt w B h) : HostAt w B (dropH h 8) := by
  refine ⟨?_, k.L, k.P, k.T, k.C, k.inj⟩
  have : fnArr 18 (hostF B (dropH h 8)) = fnArr 18 (hostF B h) := fnArr_congr fun j hj => by
    unfold hostF dropH
    by_cases q1 : j < 11
    · have hne : ¬ j - 3 = 8 := by omega
      simp only [if_neg hne]
    · simp only [if_neg q1]
  rw [this]
  exact k.own
theorem HsOk.drop8 (k : HsOk n h) : HsOk n (dropH h 8) := ⟨k.addr, k.La, k.L, k.nx, k.cr, k.sk, k.cs, k.clk, k.lost, fun j hj => by
  have hne : ¬ j = 8 := by omega
  show 0 ≤ (if j = 8 then h.dr j + 1 else h.dr j) ∧ (if j = 8 then h.dr j + 1 else h.dr j) ≤ n
  rw [if_neg hne]; exact k.dr j hj, k.nsd⟩
theorem add2 (b x y : Nat) : Addr.add (Addr.add ⟨b, 0, none⟩ x) y = ⟨b, x + y, none⟩ := by rw [add_mk, add_mk, Nat.zero_add]
theorem bneT {x y : Int} (h : (x != y) = true) : x ≠ y := by simpa using h
theorem bneF {x y : Int} (h : (x != y) = false) : ¬ x ≠ y := by simpa using h
/-- A segment for nobody. -/
theorem nobody_ok {s : SegV} {b : Option Addr} {R : Int → Int → Int → Int → Int → Int → Option Addr → Nat → Nat → World → Prop} (hl : s.2.length ≤ 12)
    (hR : ∀ k w', w.heap.size ≤ k → Bf w' k [] → Ext [] w w' → R (nobodyS s).1.sp (nobodyS s).1.dp (nobodyS s).1.sq (nobodyS s).1.ak (nobodyS s).1.fl (nobodyS s).1.wn (some ⟨k, 0, none⟩) 0 0 w') :
    host_nobody.Call s.1.sp s.1.dp s.1.sq s.1.ak s.1.fl s.1.wn b s.2.length s.2.length w R := by
  apply host_nobody.sound
  unfold host_nobody.B0
  refine New.mk fun s_ w1 es hs1 os he1 => New.mk fun b2 w2 eb hs2 ob he2 => ?_
  have os2 := he2.own os (by simp)
  refine LdI.mk os2 rfl (LdI.mk os2 rfl (LdI.mk os2 rfl (New.mk fun b11 w3 e11 hs3 o11 he3 => New.mk fun r_ w4 er hs4 or he4 => ?_)))
  refine Sts.full (vs := [.int .i64 s.1.dp, .int .i64 s.1.sp, .int .i64 s.1.ak, .int .i64 0, .int .i64 8, .int .i64 0, .slice (some ⟨b11, 0, none⟩) 0 0]) or rfl rfl fun w5 hs5 o5 he5 => ?_
  have z1 := he1.size
  have E4 : Ext [] w w4 := ((he1.trans he2).trans he3).trans he4
  have E5 : Ext [] w w5 := E4.trans' he5 (fun y hy hl => by simp at hy; omega)
  have os5 := he5.own (he4.own (he3.own os2 (by simp)) (by simp)) (by simp; omega)
  have ob5 := he5.own (he4.own (he3.own ob (by simp)) (by simp)) (by simp; omega)
  have hb5 : Bf w5 b11 [] := by
    have h3 : Bf w3 b11 [] := ⟨o11, fun x hx => by cases hx⟩
    exact (h3.ext0 he4).ext he5 (by simp; omega)
  have fA : fAnd s.1.fl 2 = IntKind.i64.wrap (BitVec.ofInt IntKind.i64.bits s.1.fl &&& BitVec.ofInt IntKind.i64.bits (2 : Int)).toNat := rfl
  refine LdI.mk os5 rfl ?_
  refine Bm.mk (fun q => ?_) (fun q => ?_)
  · have q' : fAnd s.1.fl 2 ≠ 0 := bneT (x := fAnd s.1.fl 2) q
    have e : nobodyS s = (⟨s.1.dp, s.1.sp, s.1.ak, 0, 8, 0⟩, []) := by unfold nobodyS; rw [if_pos q']
    rw [e] at hR
    refine retSeg (H := ⟨s.1.dp, s.1.sp, s.1.ak, 0, 8, 0⟩) (b0 := some ⟨b11, 0, none⟩) (l0 := 0) (c0 := 0) (T := 177) (K := fun y0 y1 y2 y3 y4 y5 y6 y7 y8 w1 => R y0 y1 y2 y3 y4 y5 y6 y7 y8 w1) o5 ob5 rfl fun w6 he6 => ?_
    exact hR b11 w6 (by omega) (hb5.ext he6 (by simp; omega)) (E5.trans' he6 (fun y hy hl => by simp at hy; omega))
  · have q' : ¬ fAnd s.1.fl 2 ≠ 0 := bneF (x := fAnd s.1.fl 2) q
    have e : nobodyS s = (⟨s.1.dp, s.1.sp, 0, sqAdd s.1.sq (nobN s), 10, 0⟩, []) := by unfold nobodyS; rw [if_neg q']
    rw [e] at hR
    have fin : ∀ n : Int, n = nobN s → host_nobody.B2 s_ b2 r_ n w5 R := fun n hn => by
      unfold host_nobody.B2
      refine Sts.mk o5 (by simp) rfl fun w6 hs6 o6 he6 => Sts.mk o6 (by simp [size_putArr]) rfl fun w7 hs7 o7 he7 => ?_
      have E7 : Ext [r_] w5 w7 := he6.trans he7
      refine LdI.mk (E7.own os5 (by simp; omega)) rfl (seqAdd_ok (Sts.mk o7 (by simp [size_putArr]) rfl fun w8 hs8 o8 he8 => ?_))
      have E8 := E7.trans he8
      rw [hn] at o8
      refine retSeg (H := ⟨s.1.dp, s.1.sp, 0, sqAdd s.1.sq (nobN s), 10, 0⟩) (b0 := some ⟨b11, 0, none⟩) (l0 := 0) (c0 := 0) (T := 177) (K := fun y0 y1 y2 y3 y4 y5 y6 y7 y8 w1 => R y0 y1 y2 y3 y4 y5 y6 y7 y8 w1) o8 (E8.own ob5 (by simp; omega)) rfl fun w9 he9 => ?_
      exact hR b11 w9 (by omega) ((hb5.ext E8 (by simp; omega)).ext he9 (by simp; omega)) ((E5.trans' E8 (fun y hy hl => by simp at hy; omega)).trans' he9 (fun y hy hl => by simp at hy; omega))
    have fin1 : ∀ n : Int, 0 ≤ n → n ≤ 100 → n + (if fAnd s.1.fl 4 ≠ 0 then 1 else 0) = nobN s → host_nobody.B1 s_ b2 r_ n w5 R := fun n h0 h1 hn => by
      unfold host_nobody.B1
      refine LdI.mk os5 rfl (Bm.mk (fun z => ?_) (fun z => ?_))
      · have z' : fAnd s.1.fl 4 ≠ 0 := bneT (x := fAnd s.1.fl 4) z
        rw [if_pos z'] at hn
        rw [w64 (by omega) (by omega)]
        exact fin _ hn
      · have z' : ¬ fAnd s.1.fl 4 ≠ 0 := bneF (x := fAnd s.1.fl 4) z
        rw [if_neg z'] at hn
        exact fin _ (by omega)
    refine LdL.mk os5 rfl (LdI.mk os5 rfl (Bm.mk (fun z => ?_) (fun z => ?_)))
    · have z' : fAnd s.1.fl 1 ≠ 0 := bneT (x := fAnd s.1.fl 1) z
      rw [w64 (by omega) (by omega)]
      exact fin1 _ (by omega) (by omega) (by unfold nobN; rw [if_pos z'])
    · have z' : ¬ fAnd s.1.fl 1 ≠ 0 := bneF (x := fAnd s.1.fl 1) z
      exact fin1 _ (by omega) (by omega) (by unfold nobN; rw [if_neg z']; omega)
theorem childA_nsd (lp rh rp : Int) (K : Sk.SkS) : (Sk.childA lp rh rp K).2.nsd ≤ K.nsd + 1 := by
  unfold Sk.childA
  repeat' split
  all_goals first | exact Int.le_refl _ | (show K.nsd ≤ K.nsd + 1; omega)
theorem childA_err {lp rh rp : Int} {K : Sk.SkS} (h : (Sk.childA lp rh rp K).1.2 ≠ 0) : (Sk.childA lp rh rp K).2 = K := by
  unfold Sk.childA at h ⊢
  repeat' split
  all_goals first | rfl | skip
  rename_i c1 c2 c3 c4 c5
  rw [if_neg c1, if_neg c2, if_neg c3, if_neg c4, if_neg c5] at h
  exact absurd rfl h
/-- A SYN for a listener. -/
theorem toLis_ok {src : Int} {s : SegV} {k : Nat} {ob : Option Addr} {ol oc : Nat} {F : List (List Int × Nat)} {R : Option Addr → Nat → Nat → World → Prop}
    (hE : Ext B.all w0 w) (hh : HostAt w B h) (ok : HsOk n h) (hn : n ≤ 144115188075855872) (hF : FrL w ob ol oc w0.heap.size F) (hol : ol ≤ 900)
    (hkind : ∀ a, Sk.getE (Sk.childA s.1.dp src s.1.sp h.t.K).2.E (Sk.childA s.1.dp src s.1.sp h.t.K).1.1 = some a → (Sk.childA s.1.dp src s.1.sp h.t.K).1.2 = 0 → a.1.kind = 2)
    (hR : Post w0 B (F.map (·.1)) (sendAllH (dropH { h with t := (toLisT h.clk src s h.t).1 } (toLisT h.clk src s h.t).2.2) (toLisT h.clk src s h.t).2.1) R) :
    host_Host_toListener.Call (some ⟨B.hp, 0, none⟩) ob ol oc src s.1.sp s.1.dp s.1.sq s.1.ak s.1.fl s.1.wn (some ⟨k, 0, none⟩) s.2.length s.2.length w R := by
  apply host_Host_toListener.sound
  unfold host_Host_toListener.B0
  refine New.mk fun s_ w1 es hs1 os he1 => Pn.mk ?_
  have os1 : Own w1 s_ (segC (s, k)).toArray 177 := os
  have E1 : Ext [] w w1.drew := he1.trans (Ext.drew _ _)
  have k1 := hh.ext0 E1
  refine hostLdP (o := 17) k1 (by omega) rfl (LdI.mk os1.drew rfl (LdI.mk os1.drew rfl ?_))
  have hnsd := ok.nsd
  refine Sk.realChild_ok k1.T ok.sk (by omega) fun w2 hT2 he2 => ?_
  have k2 := k1.setT hT2 he2
  obtain ⟨T, F0, C0', o0, ht, _⟩ := k1.T
  have ty2 : Tys w1.drew [B.tb] [T_sock_Table] := Tys.one ht
  have F2 := (hF.ext0 E1).keepT he2 ty2 (by decide) (by decide)
  have X2 : Ext B.all w0 w2 := extVia (extVia hE E1 (fun y hy => by cases hy)) he2 (fun y hy => by simp at hy; subst hy; left; simp [HB.all])
  have os2 := ownT he2 ty2 os1.drew (by decide)
  have hcl := childA_nsd s.1.dp src s.1.sp h.t.K
  have ok2 : HsOk (n + 1) { h with t := ⟨(Sk.childA s.1.dp src s.1.sp h.t.K).2, h.t.C⟩ } := (ok.mono (by omega)).setK (Sk.childA_ok ok.sk _ _ _) (by omega)
  unfold toLisT at hR
  refine Bm.mk (fun ce => ?_) (fun ce => ?_)
  · have ce' : (Sk.childA s.1.dp src s.1.sp h.t.K).1.2 ≠ 0 := bneT ce
    rw [if_pos ce'] at hR
    have eK := childA_err ce'
    rw [eK] at k2
    refine Pn.mk ⟨by decide, ?_⟩
    refine drop_ok (k := 5) (n := n) k2.drew ok (by omega) (by omega) (add2 _ _ _) (add2 _ _ _) (by decide) fun w3 k3 he3 => ?_
    exact hR ob ol oc F w3 ((F2.ext0 (Ext.drew _ _)).keepT he3 (Tys.one k2.drew.own) (by decide) (by decide)) (by simp [sendAllH]) k3 (extVia (extVia X2 (Ext.drew [] _) (fun y hy => by cases hy)) he3 (fun y hy => by simp at hy; subst hy; left; simp [HB.all]))
  have ce' : ¬ (Sk.childA s.1.dp src s.1.sp h.t.K).1.2 ≠ 0 := bneF ce
  have ce0 : (Sk.childA s.1.dp src s.1.sp h.t.K).1.2 = 0 := by simpa using ce'
  rw [if_neg ce'] at hR
  refine Pn.mk (hostLdP (o := 17) k2 (by omega) rfl ?_)
  refine Sk.realGet_ok k2.T ok2.sk fun w4 he4 => New.mk fun en w5 een hs5 oen he5 => ?_
  have E5 : Ext [] w2 w5 := he4.trans he5
  have z4 := he4.size
  refine Sts.full (vs := Sk.entVs (Sk.getV (Sk.childA s.1.dp src s.1.sp h.t.K).2.E (Sk.childA s.1.dp src s.1.sp h.t.K).1.1).1) oen rfl rfl fun w6 hs6 o6 he6 => ?_
  have E6 : Ext [] w2 w6 := E5.trans' he6 (fun y hy hl => by simp at hy; omega)
  have k6 := k2.ext0 E6
  have F6 := F2.ext0 E6
  have X6 : Ext B.all w0 w6 := extVia X2 E6 (fun y hy => by cases hy)
  cases hg : Sk.getE (Sk.childA s.1.dp src s.1.sp h.t.K).2.E (Sk.childA s.1.dp src s.1.sp h.t.K).1.1 with
  | none =>
    rw [getV_none hg]
    rw [hg] at hR
    exact Bm.pos rfl (hR ob ol oc F w6 F6 (by simp [sendAllH]) k6.drop8 X6)
  | some a =>
    rw [getV_some hg] at o6 ⊢
    rw [hg] at hR
    have ha := getE_mem hg
    have hka := hkind a hg ce0
    have con := (ok2.sk.ei.ok a ha.1).con hka
    have hs0 : 0 ≤ a.1.slot := con.2.2.2.2.2.2.1
    have hs4' : a.1.slot < 4 := con.2.2.2.2.2.2.2.1
    have hsl : a.1.slot.toNat < 4 := by omega
    refine Bm.neg rfl (LdI.mk o6.drew rfl (Pn.mk ⟨⟨hs0, hs4'⟩, hostCx k6.drew hs0 hs4' (Pn.mk (hostLdI (o := 1) k6.drew (by omega) rfl ⟨by decide, ?_⟩))⟩))
    have os6 : Own w6.drew s_ (segC (s, k)).toArray 177 := Own.drew (E6.own os2 (by simp))
    refine LdI.mk os6 rfl (LdI.mk os6 rfl (LdI.mk os6 rfl (LdI.mk os6 rfl (LdI.mk os6 rfl (LdI.mk os6 rfl (LdL.mk os6 rfl ?_))))))
    have hclk := ok.clk
    have etm : h.clk.tmod 256 = h.clk % 256 := Int.tmod_eq_emod_of_nonneg hclk.1
    have eclk : ({ h with t := ⟨(Sk.childA s.1.dp src s.1.sp h.t.K).2, h.t.C⟩ } : HS).clk = h.clk := rfl
    rw [etm]
    refine cOpenP_ok (hd := s.1) (k6.drew.C _ hsl) ?_
    intro sb sl sc E w7 hS7 hG7 hC7 he7 hl7
    have k7 := k6.drew.setC hsl hC7 he7
    have ok7 : HsOk (n + 1) { h with t := ⟨(Sk.childA s.1.dp src s.1.sp h.t.K).2, updX h.t.C a.1.slot.toNat (openPF (h.clk % 256) s.1 (h.t.C a.1.slot.toNat)).C⟩ } := HsOk.setC ok2 (openPF_ok (ok.cs _ hsl))
    have E7 : Ext [B.cx a.1.slot.toNat, B.cs a.1.slot.toNat, B.cr a.1.slot.toNat] w6 w7 := (Ext.drew _ _).trans he7
    have ty7 : Tys w6 [B.cx a.1.slot.toNat, B.cs a.1.slot.toNat, B.cr a.1.slot.toNat] [T_conn_Conn, T_seg_SendBuf, T_seg_RecvBuf] := (k6.C _ hsl).tys
    have F7 := F6.keepT E7 ty7 (by decide) (by decide)
    have X7 : Ext B.all w0 w7 := extVia X6 E7 (fun y hy => by
      left
      simp only [List.mem_cons, List.not_mem_nil, or_false] at hy
      rcases hy with rfl | rfl | rfl
      · exact HB.mcx hsl
      · exact HB.mcs hsl
      · exact HB.mcr hsl)
    have o7 : Own w7 en (Sk.entVs a.1).toArray 66 := ownT E7 ty7 o6 (by decide)
    refine Bm.mk (fun q => ?_) (fun q => ?_)
    · have q' : (openPF (h.clk % 256) s.1 (h.t.C (slotN a))).e ≠ 0 := bneT q
      have hR' : Post w0 B (F.map (·.1)) (sendAllH (dropH { h with t := (if (openPF (h.clk % 256) s.1 (h.t.C (slotN a))).e ≠ 0 then (⟨(Sk.childA s.1.dp src s.1.sp h.t.K).2, updX h.t.C (slotN a) (openPF (h.clk % 256) s.1 (h.t.C (slotN a))).C⟩, [], 8) else (⟨(Sk.childA s.1.dp src s.1.sp h.t.K).2, updX h.t.C (slotN a) (openPF (h.clk % 256) s.1 (h.t.C (slotN a))).C⟩, (openPF (h.clk % 256) s.1 (h.t.C (slotN a))).G.map (stampS a.1), 8) : TC × List OutS × Nat).1 } (if (openPF (h.clk % 256) s.1 (h.t.C (slotN a))).e ≠ 0 then (⟨(Sk.childA s.1.dp src s.1.sp h.t.K).2, updX h.t.C (slotN a) (openPF (h.clk % 256) s.1 (h.t.C (slotN a))).C⟩, [], 8) else (⟨(Sk.childA s.1.dp src s.1.sp h.t.K).2, updX h.t.C (slotN a) (openPF (h.clk % 256) s.1 (h.t.C (slotN a))).C⟩, (openPF (h.clk % 256) s.1 (h.t.C (slotN a))).G.map (stampS a.1), 8) : TC × List OutS × Nat).2.2) (if (openPF (h.clk % 256) s.1 (h.t.C (slotN a))).e ≠ 0 then (⟨(Sk.childA s.1.dp src s.1.sp h.t.K).2, updX h.t.C (slotN a) (openPF (h.clk % 256) s.1 (h.t.C (slotN a))).C⟩, [], 8) else (⟨(Sk.childA s.1.dp src s.1.sp h.t.K).2, updX h.t.C (slotN a) (openPF (h.clk % 256) s.1 (h.t.C (slotN a))).C⟩, (openPF (h.clk % 256) s.1 (h.t.C (slotN a))).G.map (stampS a.1), 8) : TC × List OutS × Nat).2.1) R := hR
      rw [if_pos q'] at hR'
      exact hR' ob ol oc F w7 F7 (by simp [sendAllH]) k7.drop8 X7
    · have q' : ¬ (openPF (h.clk % 256) s.1 (h.t.C (slotN a))).e ≠ 0 := bneF q
      have hR' : Post w0 B (F.map (·.1)) (sendAllH (dropH { h with t := (if (openPF (h.clk % 256) s.1 (h.t.C (slotN a))).e ≠ 0 then (⟨(Sk.childA s.1.dp src s.1.sp h.t.K).2, updX h.t.C (slotN a) (openPF (h.clk % 256) s.1 (h.t.C (slotN a))).C⟩, [], 8) else (⟨(Sk.childA s.1.dp src s.1.sp h.t.K).2, updX h.t.C (slotN a) (openPF (h.clk % 256) s.1 (h.t.C (slotN a))).C⟩, (openPF (h.clk % 256) s.1 (h.t.C (slotN a))).G.map (stampS a.1), 8) : TC × List OutS × Nat).1 } (if (openPF (h.clk % 256) s.1 (h.t.C (slotN a))).e ≠ 0 then (⟨(Sk.childA s.1.dp src s.1.sp h.t.K).2, updX h.t.C (slotN a) (openPF (h.clk % 256) s.1 (h.t.C (slotN a))).C⟩, [], 8) else (⟨(Sk.childA s.1.dp src s.1.sp h.t.K).2, updX h.t.C (slotN a) (openPF (h.clk % 256) s.1 (h.t.C (slotN a))).C⟩, (openPF (h.clk % 256) s.1 (h.t.C (slotN a))).G.map (stampS a.1), 8) : TC × List OutS × Nat).2.2) (if (openPF (h.clk % 256) s.1 (h.t.C (slotN a))).e ≠ 0 then (⟨(Sk.childA s.1.dp src s.1.sp h.t.K).2, updX h.t.C (slotN a) (openPF (h.clk % 256) s.1 (h.t.C (slotN a))).C⟩, [], 8) else (⟨(Sk.childA s.1.dp src s.1.sp h.t.K).2, updX h.t.C (slotN a) (openPF (h.clk % 256) s.1 (h.t.C (slotN a))).C⟩, (openPF (h.clk % 256) s.1 (h.t.C (slotN a))).G.map (stampS a.1), 8) : TC × List OutS × Nat).2.1) R := hR
      rw [if_neg q'] at hR'
      exact emit_post X7 k7.drop8 ok7.drop8 (by omega) F7 hol hS7 hG7 hl7 o7 hR'
end
end Go.Proofs.Qxb6500424aGreat
