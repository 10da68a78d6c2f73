/-
  host: Input.
-/
import Derived.Test.Qxb6500424aGreatHoG
import Derived.Test.Qxb6500424aGreatHpN
set_option linter.unusedVariables false
set_option linter.unusedSimpArgs false
open Go.Vc
namespace Go.Proofs.Qxb6500424aGreat
section
variable {w w' w0 : World} {B : HB} {h : HS} {n : Int}
theorem FrL.new {k lo : Nat} (h : Own w k #[] 81) (hk : lo ≤ k) : FrL w (some ⟨k, 0, none⟩) 0 0 lo [] :=
  ⟨⟨rfl, Nat.le_refl _, .inr ⟨k, #[], rfl, h, by simp, rfl⟩⟩, fun e he => (by cases he), .nil, fun e he => (by cases he), fun y hy => (by simp [rowBlk] at hy; omega), by omega⟩
theorem look_kind {K : Sk.SkS} {lp rh rp : Int} (hK : Sk.SkOk K) (h0 : Sk.lookE K.E lp rh rp ≠ 0) : ∀ a, Sk.getE K.E (Sk.lookE K.E lp rh rp) = some a → a.1.kind = 2 := fun a ha => by
  obtain ⟨hm, hs⟩ := getE_mem ha
  obtain ⟨b, hb, hp⟩ : ∃ b ∈ K.E, Sk.lookP lp rh rp b = true := by
    apply Classical.byContradiction
    intro hn
    exact h0 (Sk.lookE_none fun b hb hp => hn ⟨b, hb, hp⟩)
  have := Sk.lookE_some hK.ei hb hp
  rw [this] at hs
  rw [hK.ei.uniq hm hb hs]
  exact (Sk.lookP_iff.1 hp).1
theorem child_kind {K : Sk.SkS} {lp rh rp : Int} (hK : Sk.SkOk K) : ∀ a, Sk.getE (Sk.childA lp rh rp K).2.E (Sk.childA lp rh rp K).1.1 = some a → (Sk.childA lp rh rp K).1.2 = 0 → a.1.kind = 2 := fun a ha he => by
  unfold Sk.childA at ha he
  by_cases c1 : Sk.lisE K.E lp = 0
  · rw [if_pos c1] at he; cases he
  rw [if_neg c1] at ha he
  by_cases c2 : rh < 1 ∨ 255 < rh
  · rw [if_pos c2] at he; cases he
  rw [if_neg c2] at ha he
  by_cases c3 : rp < 1 ∨ 15 < rp
  · rw [if_pos c3] at he; cases he
  rw [if_neg c3] at ha he
  by_cases c4 : Sk.lookE K.E lp rh rp ≠ 0
  · rw [if_pos c4] at he; cases he
  rw [if_neg c4] at ha he
  by_cases c5 : 2 ≤ (K.E.filter (Sk.kidOf (Sk.lisE K.E lp))).length ∨ Sk.lowE K.E = -1
  · rw [if_pos c5] at he; cases he
  rw [if_neg c5] at ha
  have := getE_new (S := K) (e := ⟨0, 2, lp, rh, rp, Sk.lowE K.E, Sk.lisE K.E lp, false⟩) hK
  have ha' : Sk.getE (K.E ++ [({ (⟨0, 2, lp, rh, rp, Sk.lowE K.E, Sk.lisE K.E lp, false⟩ : Sk.Ent) with sd := K.nsd }, 0)]) K.nsd = some a := ha
  rw [this] at ha'
  cases ha'
  rfl
/-- The segment has no row and no listener. -/
theorem in2_ok {src : Int} {s : SegV} {k d s_ : Nat} {x1 x2 : Int} {xb : Option Addr} {xl xc : Nat} {ob : Option Addr} {R : Option Addr → Nat → Nat → World → Prop}
    (hE : Ext B.all w0 w) (hh : HostAt w B h) (ok : HsOk n h) (hn : n ≤ 144115188075855872) (hF : FrL w ob 0 0 w0.heap.size []) (hl : s.2.length ≤ 12) (os : Own w s_ (segC (s, k)).toArray 177) (od : Own w d #[.int .i64 src, .int .i64 x1, .int .i64 x2, .slice xb xl xc] 173)
    (h0 : Sk.lookE h.t.K.E s.1.dp src s.1.sp = 0) (h1 : ¬ (s.1.fl = 1 ∧ Sk.lisE h.t.K.E s.1.dp ≠ 0)) (hR : Post w0 B [] (inTopH h src s) R) :
    host_Host_Input.B2 (some ⟨B.hp, 0, none⟩) ob 0 0 d s_ w R := by
  unfold host_Host_Input.B2
  unfold inTopH inSegT at hR
  rw [if_neg (by simp [h0]), if_neg h1] at hR
  have X1 : Ext B.all w0 w.drew := extVia hE (Ext.drew [] _) (fun y hy => by cases hy)
  refine LdI.mk os rfl (Bm.mk (fun q => ?_) (fun q => ?_))
  · have q' : fAnd s.1.fl 8 ≠ 0 := bneT (x := fAnd s.1.fl 8) q
    rw [if_pos q'] at hR
    refine Pn.mk ⟨by decide, drop_ok (k := 6) hh.drew ok (by omega) (by omega) (add2 _ _ _) (add2 _ _ _) (by decide) fun w3 k3 he3 => ?_⟩
    exact hR ob 0 0 [] w3 ((hF.ext0 (Ext.drew _ _)).keepT he3 (Tys.one hh.drew.own) (by decide) (by decide)) (by simp [sendAllH]) k3 (extVia X1 he3 (fun y hy => by simp at hy; subst hy; left; simp [HB.all]))
  · have q' : ¬ fAnd s.1.fl 8 ≠ 0 := bneF (x := fAnd s.1.fl 8) q
    rw [if_neg q'] at hR
    refine Pn.mk ⟨by decide, drop_ok (k := 7) hh.drew ok (by omega) (by omega) (add2 _ _ _) (add2 _ _ _) (by decide) fun w2 k2 he2 => ?_⟩
    have E2 : Ext [B.hp] w w2 := (Ext.drew _ _).trans he2
    have ty : Tys w [B.hp] [T_host_Host] := Tys.one hh.own
    have os2 := ownT E2 ty os (by decide)
    have od2 := ownT E2 ty od (by decide)
    have F2 := hF.keepT E2 ty (by decide) (by decide)
    have X2 : Ext B.all w0 w2 := extVia hE E2 (fun y hy => by simp at hy; subst hy; left; simp [HB.all])
    refine LdI.mk os2 rfl (LdI.mk os2 rfl (LdI.mk os2 rfl (LdI.mk os2 rfl (LdI.mk os2 rfl (LdI.mk os2 rfl (LdL.mk os2 rfl ?_))))))
    refine nobody_ok (s := s) hl fun kb w3 hkb hb3 he3 => New.mk fun r_ w4 er hs4 or he4 => ?_
    refine Sts.full (vs := [.int .i64 (nobodyS s).1.sp, .int .i64 (nobodyS s).1.dp, .int .i64 (nobodyS s).1.sq, .int .i64 (nobodyS s).1.ak, .int .i64 (nobodyS s).1.fl, .int .i64 (nobodyS s).1.wn, .slice (some ⟨kb, 0, none⟩) 0 0]) or rfl rfl fun w5 hs5 o5 he5 => ?_
    have z3 := he3.size
    have E4 : Ext [] w2 w4 := he3.trans he4
    have E5 : Ext [] w2 w5 := E4.trans' he5 (fun y hy hl => by simp at hy; omega)
    refine LdI.mk (E5.own od2 (by simp)) rfl (LdI.mk o5 rfl (LdI.mk o5 rfl (LdI.mk o5 rfl (LdI.mk o5 rfl (LdI.mk o5 rfl (LdI.mk o5 rfl (LdL.mk o5 rfl ?_)))))))
    have hb5 : Bf w5 kb [] := (hb3.ext0 he4).ext he5 (by simp; have := hb3.lt; omega)
    have hD0 : (nobodyS s).2 = [] := by unfold nobodyS; split <;> rfl
    refine send_ok (o := (src, nobodyS s)) (extVia X2 E5 (fun y hy => by cases hy)) (k2.ext0 E5) (ok.drop 7) (by omega) (F2.ext0 E5) (by omega) (by rw [hD0]; exact hb5.rd0) (by rw [hD0]; rfl) (fun e he => by cases he) fun b' l' c' F' w' f1 f2 f3 f4 f5 f6 => ?_
    refine hR b' l' c' F' w' f1 ?_ ?_ f4
    · rw [f2]; simp [sendAllH]
    · simpa [sendAllH] using f3
/-- The datagram. -/
theorem in1_ok {r : Ip.InR} {b' ob : Option Addr} {l' d : Nat} {R : Option Addr → Nat → Nat → World → Prop}
    (hE : Ext B.all w0 w) (hh : HostAt w B h) (ok : HsOk n h) (hn : n ≤ 72057594037927936) (hF : FrL w ob 0 0 w0.heap.size []) (hd : Bs w b' l' l' r.data) (hl : l' ≤ 1000000) (od : Own w d #[.int .i64 r.src, .int .i64 r.dst, .int .i64 r.proto, .slice b' l' l'] 173)
    (hR : Post w0 B [] (inIpH h r) R) : host_Host_Input.B1 (some ⟨B.hp, 0, none⟩) ob 0 0 r.err d w R := by
  unfold host_Host_Input.B1
  unfold inIpH at hR
  have X1 : Ext B.all w0 w.drew := extVia hE (Ext.drew [] _) (fun y hy => by cases hy)
  have dr : ∀ {j : Nat} {wz w3 : World}, Ext [] w wz → HostAt w3 B (dropH h j) → Ext [B.hp] wz w3 → Post w0 B [] (dropH h j, []) R → R ob 0 0 w3 := fun {j wz w3} he k3 he3 hp => by
    exact hp ob 0 0 [] w3 ((hF.ext0 he).keepT he3 (Tys.one (hh.ext0 he).own) (by decide) (by decide)) (by simp) k3 (extVia (extVia hE he (fun y hy => by cases hy)) he3 (fun y hy => by simp at hy; subst hy; left; simp [HB.all]))
  refine Bm.mk (fun q => ?_) (fun q => ?_)
  · have q' : r.err ≠ 0 := bneT q
    rw [if_pos q'] at hR
    exact Pn.mk ⟨by decide, drop_ok (k := 2) hh.drew ok (by omega) (by omega) (add2 _ _ _) (add2 _ _ _) (by decide) fun w3 k3 he3 => dr (Ext.drew [] _) k3 he3 hR⟩
  have q' : ¬ r.err ≠ 0 := bneF q
  rw [if_neg q'] at hR
  refine LdI.mk od rfl (Bm.mk (fun q2 => ?_) (fun q2 => ?_))
  · have q2' : r.proto ≠ 6 := bneT q2
    rw [if_pos q2'] at hR
    exact Pn.mk ⟨by decide, drop_ok (k := 3) hh.drew ok (by omega) (by omega) (add2 _ _ _) (add2 _ _ _) (by decide) fun w3 k3 he3 => dr (Ext.drew [] _) k3 he3 hR⟩
  have q2' : ¬ r.proto ≠ 6 := bneF q2
  rw [if_neg q2'] at hR
  have hdl : r.data.length = l' := hd.1.symm
  refine LdI.mk od rfl (LdI.mk od rfl (LdL.mk od rfl ?_))
  have hseg0 : Value.cells (.agg #[]) = Value.cells (.agg #[]) := rfl
  refine realDecode_ok hd.rd hdl (Nat.le_refl _) (fun he w3 he3 => New.mk fun s_ w4 es hs4 os he4 => ?_) (fun he h8 h20 k w3 hk hb3 he3 => New.mk fun s_ w4 es hs4 os he4 => ?_)
  · rw [if_pos he] at hR
    refine Sts.full (vs := [.int .i64 0, .int .i64 0, .int .i64 0, .int .i64 0, .int .i64 0, .int .i64 0, .slice none 0 0]) os rfl rfl fun w5 hs5 o5 he5 => ?_
    have z3 := he3.size
    have E5 : Ext [] w w5 := (he3.trans he4).trans' he5 (fun y hy hl => by simp at hy; omega)
    refine Bm.pos (by simpa using he) (Pn.mk ⟨by decide, drop_ok (k := 4) (hh.ext0 E5).drew ok (by omega) (by omega) (add2 _ _ _) (add2 _ _ _) (by decide) fun w6 k6 he6 => dr (E5.trans (Ext.drew [] _)) k6 he6 hR⟩)
  · rw [if_neg (by simp [he])] at hR
    have hs2 : (r.data.drop 8).length = l' - 8 := by simp; omega
    refine Sts.full (vs := [.int .i64 (decHd r.data).sp, .int .i64 (decHd r.data).dp, .int .i64 (decHd r.data).sq, .int .i64 (decHd r.data).ak, .int .i64 (decHd r.data).fl, .int .i64 (decHd r.data).wn, .slice (some ⟨k, 0, none⟩) (l' - 8) (l' - 8)]) os rfl rfl fun w5 hs5 o5 he5 => ?_
    have z3 := he3.size
    have E5 : Ext [] w w5 := (he3.trans he4).trans' he5 (fun y hy hl => by simp at hy; omega)
    have o5' : Own w5 s_ (segC ((decHd r.data, r.data.drop 8), k)).toArray 177 := by
      unfold segC
      rw [hs2]
      exact o5
    have hb5 : Bf w5 k (r.data.drop 8) := (hb3.ext0 he4).ext he5 (by simp; have := hb3.lt; omega)
    have hlen12 : (r.data.drop 8).length ≤ 12 := by omega
    generalize hseg : ((decHd r.data, r.data.drop 8) : SegV) = s at hR o5'
    have hb5' : Bf w5 k s.2 := by rw [← hseg]; exact hb5
    have hl12 : s.2.length ≤ 12 := by rw [← hseg]; exact hlen12
    have od5 := E5.own od (by simp)
    have k5 := hh.ext0 E5
    have F5 := hF.ext0 E5
    have X5 : Ext B.all w0 w5 := extVia hE E5 (fun y hy => by cases hy)
    refine Bm.neg rfl (Pn.mk (hostLdP (o := 17) k5.drew (by omega) rfl (LdI.mk o5'.drew rfl (LdI.mk od5.drew rfl (LdI.mk o5'.drew rfl ?_)))))
    obtain ⟨T, F0, C0', o0, ht, hrel⟩ := k5.drew.T
    refine Sk.lookup_ok ht hrel ok.sk fun w7 he7 => ?_
    have E7 : Ext [] w5 w7 := (Ext.drew _ _).trans he7
    have k7 := k5.ext0 E7
    have F7 := F5.ext0 E7
    have X7 := extVia X5 E7 (fun y hy => by cases hy)
    have o7 := E7.own o5' (by simp)
    have od7 := E7.own od5 (by simp)
    have hb7 := hb5'.ext0 E7
    have eT : (inTopH h r.src s) = sendAllH (dropH { h with t := (inSegT h.clk r.src s h.t).1 } (inSegT h.clk r.src s h.t).2.2) (inSegT h.clk r.src s h.t).2.1 := rfl
    refine Bm.mk (fun q3 => ?_) (fun q3 => ?_)
    · have q3' : Sk.lookE h.t.K.E s.1.dp r.src s.1.sp ≠ 0 := bneT q3
      refine LdI.mk o7 rfl (LdI.mk o7 rfl (LdI.mk o7 rfl (LdI.mk o7 rfl (LdI.mk o7 rfl (LdI.mk o7 rfl (LdL.mk o7 rfl ?_))))))
      refine toRow_ok (s := s) X7 k7 ok (by omega) F7 (by omega) hb7 hl12 (look_kind ok.sk q3') ?_
      intro b1 l1 c1 F1 w8 f1 f2 f3 f4
      have eI : inSegT h.clk r.src s h.t = ((toRowT (Sk.lookE h.t.K.E s.1.dp r.src s.1.sp) s h.t).1, (toRowT (Sk.lookE h.t.K.E s.1.dp r.src s.1.sp) s h.t).2, 8) := by unfold inSegT; rw [if_pos q3']
      rw [eT, eI] at hR
      have ed : sendAllH (dropH { h with t := (toRowT (Sk.lookE h.t.K.E s.1.dp r.src s.1.sp) s h.t).1 } 8) (toRowT (Sk.lookE h.t.K.E s.1.dp r.src s.1.sp) s h.t).2 = (dropH (sendAllH { h with t := (toRowT (Sk.lookE h.t.K.E s.1.dp r.src s.1.sp) s h.t).1 } (toRowT (Sk.lookE h.t.K.E s.1.dp r.src s.1.sp) s h.t).2).1 8, (sendAllH { h with t := (toRowT (Sk.lookE h.t.K.E s.1.dp r.src s.1.sp) s h.t).1 } (toRowT (Sk.lookE h.t.K.E s.1.dp r.src s.1.sp) s h.t).2).2) := sendAllH_drop _ _ _
      have hR' : Post w0 B [] (sendAllH (dropH { h with t := (toRowT (Sk.lookE h.t.K.E s.1.dp r.src s.1.sp) s h.t).1 } 8) (toRowT (Sk.lookE h.t.K.E s.1.dp r.src s.1.sp) s h.t).2) R := hR
      rw [ed] at hR'
      exact hR' b1 l1 c1 F1 w8 f1 f2 f3.drop8 f4
    · have q3' : ¬ Sk.lookE h.t.K.E s.1.dp r.src s.1.sp ≠ 0 := bneF q3
      have l0 : Sk.lookE h.t.K.E s.1.dp r.src s.1.sp = 0 := by simpa using q3'
      refine LdI.mk o7 rfl (Bm.mk (fun q4 => ?_) (fun q4 => ?_))
      · have q4' : s.1.fl = 1 := by simpa using q4
        refine Pn.mk (hostLdP (o := 17) k7.drew (by omega) rfl (LdI.mk o7.drew rfl ?_))
        refine Sk.realListener_ok k7.drew.T ok.sk (Bm.mk (fun q5 => ?_) (fun q5 => ?_))
        · have q5' : Sk.lisE h.t.K.E s.1.dp ≠ 0 := bneT q5
          refine LdI.mk od7.drew rfl (LdI.mk o7.drew rfl (LdI.mk o7.drew rfl (LdI.mk o7.drew rfl (LdI.mk o7.drew rfl (LdI.mk o7.drew rfl (LdI.mk o7.drew rfl (LdL.mk o7.drew rfl ?_)))))))
          refine toLis_ok (s := s) (extVia X7 (Ext.drew [] _) (fun y hy => by cases hy)) k7.drew ok (by omega) (F7.ext0 (Ext.drew _ _)) (by omega) (child_kind ok.sk) ?_
          have eI : inSegT h.clk r.src s h.t = toLisT h.clk r.src s h.t := by unfold inSegT; rw [if_neg q3', if_pos ⟨q4', q5'⟩]
          rw [eT, eI] at hR
          exact hR
        · have q5' : ¬ Sk.lisE h.t.K.E s.1.dp ≠ 0 := bneF q5
          exact in2_ok (s := s) (extVia X7 (Ext.drew [] _) (fun y hy => by cases hy)) k7.drew ok (by omega) (F7.ext0 (Ext.drew _ _)) hl12 o7.drew od7.drew l0 (fun z => q5' z.2) hR
      · have q4' : s.1.fl ≠ 1 := by simpa using q4
        exact in2_ok (s := s) X7 k7 ok (by omega) F7 hl12 o7 od7 l0 (fun z => q4' z.1) hR
theorem HsOk.link (ok : HsOk n h) (c : Int) (A : List Ip.AR) : HsOk (n + 1) { h with L := h.L.bump c, A := A } := by
  have k' := ok.mono (m := n + 1) (by omega)
  exact ⟨k'.addr, by show (h.L.bump c).addr = h.addr; rw [Fm.LinkS.bump_addr]; exact ok.La, ok.L.bump c, k'.nx, k'.cr, k'.sk, k'.cs, k'.clk, k'.lost, k'.dr, k'.nsd⟩
/-- The datagram's length. -/
theorem inF_len {a : Int} {A : List Ip.AR} {v : List Int} (hA : ∀ r ∈ A, r.cell.length = 40) (hv : v.length ≤ 100) : (Ip.inF a A v).data.length ≤ 100 := by
  have fr : ∀ (r : Ip.AR) (o : Bool), (Ip.fragR a A v r o).data.length ≤ 100 := fun r o => by
    unfold Ip.fragR
    split
    · simp [Ip.noneR]
    split
    · show ((Ip.nextRow r v).cell.take (Ip.nextRow r v).total.toNat).length ≤ 100
      rw [List.length_take]
      have : (Ip.nextRow r v).cell.length = 40 := by simp [Ip.nextRow, Ip.layC]
      omega
    · simp [Ip.noneR]
  unfold Ip.inF
  repeat' split
  all_goals first | (simp [Ip.noneR]; done) | exact fr _ _ | skip
  show (v.drop 8).length ≤ 100
  simp
  omega
theorem input_ok {raw : List Int} {k : Nat} {R : Option Addr → Nat → Nat → World → Prop} (hh : HostAt w B h) (ok : HsOk n h) (hn : n ≤ 36028797018963968) (hk : Bf w k raw) (hl : raw.length ≤ 1000000)
    (hR : Post w B [] (inputH h raw) R) : host_Host_Input.Call (some ⟨B.hp, 0, none⟩) (some ⟨k, 0, none⟩) raw.length raw.length w R := by
  apply host_Host_Input.sound
  unfold host_Host_Input.B0
  refine New.mk fun b12 w1 eb hs1 ob he1 => Pn.mk (hostLdP (o := 11) (hh.ext0 he1) (by omega) rfl ?_)
  have k1 := hh.ext0 he1
  have F1 : FrL w1 (some ⟨b12, 0, none⟩) 0 0 w.heap.size [] := FrL.new ob (by omega)
  unfold inputH at hR
  refine Fm.realDecode_ok (n := n) k1.L ok.L (by omega) (hk.ext0 he1).rd0 rfl (Nat.le_refl _) (by omega) (fun k' o' q => by
    simp only [Option.some.injEq, Addr.mk.injEq] at q
    obtain ⟨rfl, _⟩ := q
    exact Own.ne_type (hk.ext0 he1).1 k1.L (by decide)) ?_
  have hLa : h.L.addr = h.addr := ok.La
  rw [hLa]
  have hpl : (Fm.decR h.addr raw).pay.length ≤ 30 := by
    unfold Fm.decR
    split
    · simp
    split
    · simp
    · rename_i q _
      have := Fm.frameErr_zero (p := raw) (by simpa using q)
      simp
      omega
  generalize Fm.decR h.addr raw = D at hR hpl
  intro b' l' w2 hb2 hge2 hL2 he2
  have k2 := k1.setL hL2 he2
  have ty2 : Tys w1 [B.lk] [T_frame_Link] := Tys.one k1.L
  have F2 := F1.keepT he2 ty2 (by decide) (by decide)
  have E1 : Ext B.all w w1 := he1.nil
  have X2 : Ext B.all w w2 := extVia E1 he2 (fun y hy => by simp at hy; subst hy; left; simp [HB.all])
  refine New.mk fun f_ w3 ef hs3 of he3 => ?_
  refine Sts.full (vs := [.int .i64 D.dst, .int .i64 D.src, .int .i64 D.typ, .slice b' l' l']) of rfl rfl fun w4 hs4 o4 he4 => ?_
  have z1 := he1.size
  have z2 := he2.size
  have E4 : Ext [] w2 w4 := he3.trans' he4 (fun y hy hl => by simp at hy; omega)
  have k4 := k2.ext0 E4
  have F4 := F2.ext0 E4
  have X4 : Ext B.all w w4 := extVia X2 E4 (fun y hy => by cases hy)
  have ok4 : HsOk (n + 1) { h with L := h.L.bump D.cls } := ok.link D.cls h.A
  have dr : ∀ {j : Nat} {w5 : World}, HostAt w5 B (dropH { h with L := h.L.bump D.cls } j) → Ext [B.hp] w4.drew w5 → Post w B [] (dropH { h with L := h.L.bump D.cls } j, []) R → R (some ⟨b12, 0, none⟩) 0 0 w5 := fun {j w5} k5 he5 hp =>
    hp (some ⟨b12, 0, none⟩) 0 0 [] w5 ((F4.ext0 (Ext.drew _ _)).keepT he5 (Tys.one k4.drew.own) (by decide) (by decide)) (by simp) k5 (extVia (extVia X4 (Ext.drew [] _) (fun y hy => by cases hy)) he5 (fun y hy => by simp at hy; subst hy; left; simp [HB.all]))
  refine Bm.mk (fun q => ?_) (fun q => ?_)
  · have q' : D.err ≠ 0 := bneT q
    rw [if_pos q'] at hR
    exact Pn.mk ⟨by decide, drop_ok (k := 0) k4.drew ok4 (by omega) (by omega) (by rw [add_mk]) (by show Addr.add _ 3 = _; rw [add_mk]) (by decide) fun w5 k5 he5 => dr k5 he5 hR⟩
  have q' : ¬ D.err ≠ 0 := bneF q
  rw [if_neg q'] at hR
  refine LdI.mk o4 rfl (Bm.mk (fun q2 => ?_) (fun q2 => ?_))
  · have q2' : D.typ ≠ 1 := bneT q2
    rw [if_pos q2'] at hR
    exact Pn.mk ⟨by decide, drop_ok (k := 1) k4.drew ok4 (by omega) (by omega) (add2 _ _ _) (add2 _ _ _) (by decide) fun w5 k5 he5 => dr k5 he5 hR⟩
  have q2' : ¬ D.typ ≠ 1 := bneF q2
  rw [if_neg q2'] at hR
  have k4d := k4.drew
  have hb4 : Bs w4.drew b' l' l' D.pay := (hb2.ext0 E4).ext0 (Ext.drew _ _)
  have hl' : D.pay.length = l' := hb2.1.symm
  refine Pn.mk (hostLdP (o := 12) k4d (by omega) rfl (LdL.mk o4.drew rfl ?_))
  obtain ⟨S, hip, hrel, ea, en, ec⟩ := k4d.P.ex
  have hrw : ∀ r ∈ h.A, r.cell.length = 40 := fun r hr => (hrel.rwf r hr).len
  have hnb : ∀ {wz : World}, Ip.RealAt wz B.ip S → Bs wz b' l' l' D.pay → ∀ (k' o' : Nat), b' = some ⟨k', o', none⟩ → k' ≠ B.ip := fun {wz} hi hb k' o' q => by
    rcases hb.2 with ⟨z, _⟩ | ⟨kk, z, e, hf, _⟩
    · rw [z] at q; cases q
    · rw [e] at q
      simp only [Option.some.injEq, Addr.mk.injEq] at q
      obtain ⟨rfl, _⟩ := q
      exact Own.ne_type hf.1 hi (by decide)
  have haddr : S.addr = h.addr := ea
  have hlen := inF_len (a := h.addr) (v := D.pay) hrw (by omega)
  -- behind ip's Input
  have fin : ∀ {wz w7 : World} {b7 : Option Addr} {l7 : Nat}, Ext [] w4 wz → Ip.InPost wz B.ip S (Ip.inF h.addr h.A D.pay) b7 l7 w7 → ∀ {d_ : Nat} {w9 : World}, w4.heap.size ≤ d_ → d_ ∉ rowBlk b7 → Ext [d_] w7 w9 → Own w9 d_ #[.int .i64 (Ip.inF h.addr h.A D.pay).src, .int .i64 (Ip.inF h.addr h.A D.pay).dst, .int .i64 (Ip.inF h.addr h.A D.pay).proto, .slice b7 l7 l7] 173 → host_Host_Input.B1 (some ⟨B.hp, 0, none⟩) (some ⟨b12, 0, none⟩) 0 0 (Ip.inF h.addr h.A D.pay).err d_ w9 R := fun {wz w7 b7 l7} hez hpost {d_ w9} hd1 hd2 E9 od => by
    obtain ⟨S', hip7, hrel7, ea7, en7, ec7, hb7, hge7, he7⟩ := hpost
    have kz := k4.ext0 hez
    obtain ⟨S0, hip0, _⟩ := kz.P.ex
    have k7 := kz.setP (nx := h.nx) (cr := h.cr) (A := (Ip.inF h.addr h.A D.pay).tab) ⟨S', hip7, hrel7, by rw [ea7]; exact ea, by rw [en7]; exact en, by rw [ec7]; exact ec⟩ he7
    have F7 := (F4.ext0 hez).keepT he7 (Tys.one hip0) (by decide) (by decide)
    have X7 : Ext B.all w w7 := extVia (extVia X4 hez (fun y hy => by cases hy)) he7 (fun y hy => by simp at hy; subst hy; left; simp [HB.all])
    have hl7 : l7 = (Ip.inF h.addr h.A D.pay).data.length := hb7.1
    have F9 : FrL w9 (some ⟨b12, 0, none⟩) 0 0 w.heap.size [] := ⟨F7.row.ext E9 (fun y hy hx => by simp [rowBlk] at hy; simp at hx; have := F4.row.lt b12 (by simp [rowBlk]); omega), fun e he => (by cases he), .nil, fun e he => (by cases he), F7.blk, F7.cap⟩
    have k9 := k7.keep E9 (fun y hy hx => by simp at hx; have := k4.lt y hy; omega)
    have zw4 := X4.size
    exact in1_ok (r := Ip.inF h.addr h.A D.pay) (extVia X7 E9 (fun y hy => by simp at hy; right; omega)) k9 (ok.link D.cls _) (by omega) F9 (hb7.ext E9 (fun kk e hx => by simp at hx; subst hx; exact hd2 (by rw [e]; simp [rowBlk]))) (by omega) od hR
  refine ⟨?_, ?_⟩
  · refine Ip.realInput_ok hip hrel hb4.rd hl' (Nat.le_refl _) (by omega) (hnb hip hb4) ?_
    rw [haddr]
    intro b7 l7 w7 hpost
    refine New.mk fun d_ w8 ed hs8 od he8 => ?_
    refine Sts.full (vs := [.int .i64 (Ip.inF h.addr h.A D.pay).src, .int .i64 (Ip.inF h.addr h.A D.pay).dst, .int .i64 (Ip.inF h.addr h.A D.pay).proto, .slice b7 l7 l7]) od rfl rfl fun w9 hs9 o9 he9 => ?_
    have hp := hpost
    obtain ⟨S', _, _, _, _, _, hb7, hge7, he7⟩ := hp
    have z7 := he7.size
    have zd := (Ext.drew [] w4).size
    refine fin (Ext.drew [] _) hpost (by omega) (fun q => ?_) ((he8.nil (T := [d_])).trans he9) o9
    rcases hb7.2 with ⟨z, _⟩ | ⟨kk, z, e, hf, _⟩
    · rw [z] at q; simp [rowBlk] at q
    · rw [e] at q; simp [rowBlk] at q
      have := hf.lt
      omega
  · refine New.mk fun d_ w10 ed hs10 od he10 => ⟨(he10.own o4.drew (by simp)).cell rfl, ?_, ?_⟩
    · rw [add_mk, Nat.zero_add]
      exact Own.cell (k4d.ext0 he10).own (by rw [fnArr_get _ (by omega)]; rfl)
    · have hip10 := he10.own hip (by simp)
      have hb10 := hb4.ext0 he10
      refine Ip.realInput_ok hip10 hrel hb10.rd hl' (Nat.le_refl _) (by omega) (hnb hip10 hb10) ?_
      rw [haddr]
      intro b7 l7 w7 hpost
      obtain ⟨S', i1, i2, i3, i4, i5, i6, i7, he7⟩ := hpost
      have od7 := he7.own od (by simp; exact Own.ne_type od hip10 (by decide))
      refine Sts.full (vs := [.int .i64 (Ip.inF h.addr h.A D.pay).src, .int .i64 (Ip.inF h.addr h.A D.pay).dst, .int .i64 (Ip.inF h.addr h.A D.pay).proto, .slice b7 l7 l7]) od7 rfl rfl fun w9 hs9 o9 he9 => ?_
      refine fin ((Ext.drew [] _).trans he10) ⟨S', i1, i2, i3, i4, i5, i6, i7, he7⟩ (by have := (Ext.drew [] w4).size; omega) (fun q => ?_) he9 o9
      have := i7 d_ q
      have := od.lt
      omega
end
end Go.Proofs.Qxb6500424aGreat
