/-
  nodelaw: the steps of the walk.
-/
import Derived.Test.Qxb6500430aGreatNdS
set_option linter.unusedVariables false
set_option linter.unusedSimpArgs false
open Go.Vc
namespace Go.Proofs.Qxb6500430aGreat
open Kv
section
variable {w0 w w' : World} {N : Int} {ρ : MR} {ω ω' : WR} {idv : Int} {r : RR}
variable {sb : Option Addr} {n c : Nat} {steady quiet : Bool} {i : Int} {N1 : NW} {R : Int → Int → World → Prop}
theorem NReal.low {lo lo' p s kp k l t d e : Nat} {D0 D : DiskS} {N : Int} {L0 : LogS} {F : List Nat} {A : AbsS} {n : NS} {S : List LogS} {raw : Nat → Value} {Rs : List Rep} (h : NReal w lo p kp k s l t d e D0 N L0 D F A n S raw Rs) (hl : lo' ≤ lo) : NReal w lo' p kp k s l t d e D0 N L0 D F A n S raw Rs :=
  ⟨h.nd, h.sm, h.kv, h.en, h.raw, h.rl, fun y hy => Nat.le_trans hl (h.ge y hy)⟩
theorem NMod.low {lo lo' p kp s q me : Nat} {M : MSt} {n : NS} (h : NMod w lo p kp s q me M n) (hl : lo' ≤ lo) : NMod w lo' p kp s q me M n := ⟨h.nd, h.mr, h.kv, fun y hy => Nat.le_trans hl (h.ge y hy)⟩
theorem nextB {p p2 nl : Nat} {w9 : World} (hi0 : 0 ≤ i ∧ i < 4398046511104) {nb : Option Addr} {nc : Nat}
    (hgo : ∀ {w9 : World} {p p2 : Nat} {nb : Option Addr} {nl nc : Nat}, LawE w0 ρ.bb ρ.ws ρ.wm N p p2 nb nl nc w9 → N1 sb n c steady quiet ρ.bb (some ⟨p, 0, none⟩) (some ⟨p2, 0, none⟩) ρ.ws ρ.wm nb nl nc (i + 1) w9) (h9 : LawE w0 ρ.bb ρ.ws ρ.wm N p p2 nb nl nc w9) :
    nodelaw_walk.B6 sb n c steady quiet ρ.bb (some ⟨p, 0, none⟩) (some ⟨p2, 0, none⟩) ρ.ws ρ.wm nb nl nc i w9 N1 R := by
  unfold nodelaw_walk.B6
  rw [w64 (by omega) (by omega)]
  exact hgo h9
theorem kNew_ok {o : Nat} {op : OpV} (hi0 : 0 ≤ i ∧ i < 4398046511104) (hN0 : 0 ≤ N) (h : LawI w0 w N ρ ω idv r) (oo : Own w o (opC op) T_api_Op)
    (hgo : ∀ {w9 : World} {p p2 : Nat} {nb : Option Addr} {nl nc : Nat}, LawE w0 ρ.bb ρ.ws ρ.wm (N + 13) p p2 nb nl nc w9 → N1 sb n c steady quiet ρ.bb (some ⟨p, 0, none⟩) (some ⟨p2, 0, none⟩) ρ.ws ρ.wm nb nl nc (i + 1) w9) :
    LdI .i64 ⟨o, 1, none⟩ w fun x68 =>
      nodelaw_Ground.Call x68 w fun r69_0 r69_1 r69_2 w3 =>
      Sts [.pointer r69_0, .pointer r69_1, .int .i64 r69_2] ⟨ρ.bb, 0, none⟩ 0 w3 fun w4 =>
      kv_New.Call  w4 fun r70 w5 =>
      LdP ⟨ρ.bb, 1, none⟩ w5 fun x72 =>
      node_New.Call x72 r70 w5 fun r74 w6 =>
      LdI .i64 ⟨o, 1, none⟩ w6 fun x76 =>
      nodem_New.Call x76 w6 fun r77 w7 =>
      LdP ⟨ρ.bb, 0, none⟩ w7 fun x78_0 =>
      LdP ⟨ρ.bb, 1, none⟩ w7 fun x78_1 =>
      LdI .i64 ⟨ρ.bb, 2, none⟩ w7 fun x78_2 =>
      nodelaw_Steps.Call x78_0 x78_1 x78_2 w7 fun r79 w8 =>
      Bm (r79 != (0 : Int)) (
        R i i w8) (
        Bm (!quiet) (
          LdP ⟨ρ.bb, 0, none⟩ w8 fun x88_0 =>
          LdP ⟨ρ.bb, 1, none⟩ w8 fun x88_1 =>
          LdI .i64 ⟨ρ.bb, 2, none⟩ w8 fun x88_2 =>
          nodelaw_Seen.Call r74 r77 x88_0 x88_1 x88_2 (0 : Int) (ByteArray.mk #[]) w8 fun r89 w9 =>
          nodelaw_walk.B3 sb n c steady quiet ρ.bb r74 r77 ρ.ws ρ.wm ρ.nb ρ.K.length ρ.nc i (!r89) w9 N1 R) (
          nodelaw_walk.B3 sb n c steady quiet ρ.bb r74 r77 ρ.ws ρ.wm ρ.nb ρ.K.length ρ.nc i false w8 N1 R)) := by
  have z0 := h.ext.size
  refine LdI.mk oo rfl (gGround_ok fun d' s' l' t' e' F' A' w3 hF rest3 p3 he3 => (h.mc.ext0 he3).stB fun w4 mc4 he4 x4 => Kv.realNew_ok fun kp' w5 hkp rk5 he5 => ?_)
  have z3 := he3.size
  have z4 := he4.size
  have z5 := he5.size
  have mc5 := mc4.ext0 he5
  have rest5 := (rest3.extT x4 (by decide)).ext0 he5
  refine LdP.mk mc5.ob rfl ?_
  apply node_New.sound
  unfold node_New.B0
  refine nopen_ok (lo := w0.heap.size) (i := op.a) rest5 L0_ok p3 rk5 (by omega) (fun y hy => ?_) fun p' k' raw' w6 hp' re6 f6 => ?_
  · simp only [List.mem_cons] at hy
    rcases hy with q | q
    · omega
    · have := hF y (by simp only [List.mem_cons]; exact q)
      omega
  have X6 : ExtT w w6 ([T_nodelaw_Below] ++ NT) := (((ExtT.nil he3 _).trans (x4.mono (by decide))).trans (ExtT.nil he5 _)).trans (f6.ty.mono (by decide))
  have oo6 : Own w6 o (opC op) T_api_Op := X6.own oo (by decide)
  have z6 := f6.size
  refine LdI.mk oo6 rfl (nmnew_ok (lo := w0.heap.size) (by omega) fun p2' kp2' s2' q2' me2' M' w7 hp2 mo7 hA0 hH hge2 he7 => ?_)
  have re7 := re6.ext0 he7
  have mc7 := (mc5.extT f6.ty (by decide)).ext0 he7
  have hbb := h.mc.ge ρ.bb (.inl rfl)
  have E5 : Ext [] w0 w5 := ((h.ext.trans he3).trans' he4 (fun y hy hl => by simp at hy; omega)).trans he5
  have E7 : Ext [] w0 w7 := (Above.base E5 f6.ab).trans he7
  have X7 : ExtT w w7 ([T_nodelaw_Below] ++ NT) := X6.trans (ExtT.nil he7 _)
  have h7 : LawI w0 w7 N ρ ω op.a ⟨p', kp', k', s', l', t', d', e', freshDisk, 0, L0, freshDisk, F', A', openN op.a L0, [], raw', [], p2', kp2', s2', q2', me2', M'⟩ :=
    ⟨⟨re7, mo7, open_ok' op.a L0_ok, hA0, by rw [hH]; rfl, fun X hX => (by simp at hX; rw [hX]; exact L0_ok), by simp, by simp [freshDisk], by simpa using hN0⟩, mc7, h.wx.extT X7 (by decide) (by decide), X7.own h.ow (by decide), X7.own h.om (by decide), by show (openN op.a L0).Y.e.id = _; rw [openN_Y]; exact openY_id op.a L0_ok, E7⟩
  have go : ∀ {w9 : World} {tt : Bool}, tt = false → Ext [] w7 w9 → nodelaw_walk.B3 sb n c steady quiet ρ.bb (some ⟨p', 0, none⟩) (some ⟨p2', 0, none⟩) ρ.ws ρ.wm ρ.nb ρ.K.length ρ.nc i tt w9 N1 R := fun {w9 tt} htt he9 => by
    unfold nodelaw_walk.B3
    exact Bm.neg htt (nextB hi0 hgo ⟨ρ, ω, op.a, _, rfl, rfl, rfl, rfl, rfl, rfl, rfl, rfl, (h7.ext0 he9).mono (by omega)⟩)
  refine LdP.mk mc7.ob rfl (LdP.mk mc7.ob rfl (LdI.mk mc7.ob rfl (gSteps_ok re7.sm.rest.real.st.dk fun w8 he8 => Bm.neg rfl ?_)))
  have h8 := h7.ext0 he8
  refine Bm.mk (fun _ => ?_) fun _ => go rfl he8
  exact LdP.mk h8.mc.ob rfl (LdP.mk h8.mc.ob rfl (LdI.mk h8.mc.ob rfl (gSeen_ok (D := freshDisk) h8.sd.re h8.sd.mo h8.sd.ok fun w9 he9 => go rfl (he8.trans he9))))
theorem kEv_ok {o : Nat} {op : OpV} (hi0 : 0 ≤ i ∧ i < 4398046511104) (hN : N + 13 ≤ 4611686018427387904) (h : LawI w0 w N ρ ω idv r) (oo : Own w o (opC op) T_api_Op) (hwf : op.Wf)
    (hgo : ∀ {w9 : World} {p p2 : Nat} {nb : Option Addr} {nl nc : Nat}, LawE w0 ρ.bb ρ.ws ρ.wm (N + 13) p p2 nb nl nc w9 → N1 sb n c steady quiet ρ.bb (some ⟨p, 0, none⟩) (some ⟨p2, 0, none⟩) ρ.ws ρ.wm nb nl nc (i + 1) w9) {K : Nat → Nat → World → Prop} {Q : World → Prop}
    (hK : ∀ (rr : RR) w17 d' e' (ω' : WR), LawI w0 w17 (N + 13) ρ ω idv rr → rr.p = r.p → rr.p2 = r.p2 → (rr.M.H = [] → rr.D.log = []) → Was w17 w0.heap.size ρ ω' → (∀ k, ω.kx.foot k → ¬ ω'.kx.foot k ∧ ¬ ω'.ky.foot k) → Own w17 d' (kdC ω'.kx).toArray T_api_Did → Own w17 e' (kdC ω'.ky).toArray T_api_Did → e' ≠ ρ.ws → d' ∉ rowBlk ρ.nb → e' ∉ rowBlk ρ.nb → Own w17 o (opC op) T_api_Op → K d' e' w17) :
    LdP ⟨ρ.bb, 0, none⟩ w fun x97_0 =>
        LdP ⟨ρ.bb, 1, none⟩ w fun x97_1 =>
        LdI .i64 ⟨ρ.bb, 2, none⟩ w fun x97_2 =>
        nodelaw_Mark.Call x97_0 x97_1 x97_2 w fun w10 =>
        nodem_Node_Mark.Call (some ⟨r.p2, 0, none⟩) w10 fun w11 =>
        LdI .i64 ⟨o, 0, none⟩ w11 fun x102_0 =>
        LdI .i64 ⟨o, 1, none⟩ w11 fun x102_1 =>
        LdI .i64 ⟨o, 2, none⟩ w11 fun x102_2 =>
        LdI .i64 ⟨o, 3, none⟩ w11 fun x102_3 =>
        LdS ⟨o, 4, none⟩ w11 fun x102_4 =>
        LdS ⟨o, 5, none⟩ w11 fun x102_5 =>
        nodelaw_EventReal.Call (some ⟨r.p, 0, none⟩) x102_0 x102_1 x102_2 x102_3 x102_4 x102_5 w11 fun r103_0 r103_1_b r103_1_l r103_1_c r103_2_b r103_2_l r103_2_c w12 =>
        New (.cells #[.int .i64 (0 : Int), .slice none 0 0, .slice none 0 0] T_api_Did) w12 fun d_ w13 =>
        Sts [.int .i64 r103_0, .slice r103_1_b r103_1_l r103_1_c, .slice r103_2_b r103_2_l r103_2_c] ⟨d_, 0, none⟩ 0 w13 fun w14 =>
        LdI .i64 ⟨o, 0, none⟩ w14 fun x105_0 =>
        LdI .i64 ⟨o, 1, none⟩ w14 fun x105_1 =>
        LdI .i64 ⟨o, 2, none⟩ w14 fun x105_2 =>
        LdI .i64 ⟨o, 3, none⟩ w14 fun x105_3 =>
        LdS ⟨o, 4, none⟩ w14 fun x105_4 =>
        LdS ⟨o, 5, none⟩ w14 fun x105_5 =>
        nodelaw_EventModel.Call (some ⟨r.p2, 0, none⟩) x105_0 x105_1 x105_2 x105_3 x105_4 x105_5 w14 fun r106_0 r106_1_b r106_1_l r106_1_c r106_2_b r106_2_l r106_2_c w15 =>
        New (.cells #[.int .i64 (0 : Int), .slice none 0 0, .slice none 0 0] T_api_Did) w15 fun e_ w16 =>
        Sts [.int .i64 r106_0, .slice r106_1_b r106_1_l r106_1_c, .slice r106_2_b r106_2_l r106_2_c] ⟨e_, 0, none⟩ 0 w16 fun w17 =>
        LdI .i64 ⟨d_, 0, none⟩ w17 fun x107_0 =>
        LdL ⟨d_, 1, none⟩ w17 fun x107_1_b x107_1_l x107_1_c =>
        LdL ⟨d_, 2, none⟩ w17 fun x107_2_b x107_2_l x107_2_c =>
        LdI .i64 ⟨e_, 0, none⟩ w17 fun x108_0 =>
        LdL ⟨e_, 1, none⟩ w17 fun x108_1_b x108_1_l x108_1_c =>
        LdL ⟨e_, 2, none⟩ w17 fun x108_2_b x108_2_l x108_2_c =>
        nodelaw_SameDid.Call x107_0 x107_1_b x107_1_l x107_1_c x107_2_b x107_2_l x107_2_c x108_0 x108_1_b x108_1_l x108_1_c x108_2_b x108_2_l x108_2_c w17 fun r109 w18 =>
        Bm (!r109) (Q w18) (K d_ e_ w18) := by
  have z0 := h.ext.size
  refine LdP.mk h.mc.ob rfl (LdP.mk h.mc.ob rfl (LdI.mk h.mc.ob rfl (gMark_ok h.sd.re.sm.rest.real.st.dk fun w10 F1 hD1 he1 hg1 => ?_)))
  obtain ⟨re10, f10⟩ := h.sd.re.mark hD1 he1 hg1 z0
  have z10 := f10.size
  refine nmmark_ok (h.sd.mo.extT f10.ty (by decide)) (by omega) fun M1 w11 mo11 hA0 hH f11 => ?_
  have re11 := re10.extT f11.ty (by decide)
  have z11 := f11.size
  have F11 : Fr BT w0.heap.size w w11 := (f10.mono (by decide)).trans (f11.mono (by decide))
  have oo11 : Own w11 o (opC op) T_api_Op := F11.ty.own oo (by decide)
  have nn := h.sd.nn
  have ef := ev_facts (o := op) h.sd.ok
  refine LdI.mk oo11 rfl (LdI.mk oo11 rfl (LdI.mk oo11 rfl (LdI.mk oo11 rfl (LdS.mk oo11 rfl (LdS.mk oo11 rfl (evReal_ok re11 h.sd.ok rfl (by omega) (by omega) hwf fun D' F' A' raw' Rs' ob oc rb rc w12 dd12 re12 f12 => NewSet.mk rfl rfl fun d' w14 hd' hs14 od14 he14 => ?_))))))
  have z12 := f12.size
  have z14 := he14.size
  have X14 : ExtT w11 w14 NT := f12.ty.trans (ExtT.nil he14 _)
  have oo14 : Own w14 o (opC op) T_api_Op := X14.own oo11 (by decide)
  have mo14 := mo11.extT X14 (by decide)
  refine LdI.mk oo14 rfl (LdI.mk oo14 rfl (LdI.mk oo14 rfl (LdI.mk oo14 rfl (LdS.mk oo14 rfl (LdS.mk oo14 rfl (evModel_ok mo14 h.sd.ok hH (by omega) hwf fun M2 ob2 oc2 rb2 rc2 w15 dd15 mo15 a15 hh15 f15 => NewSet.mk rfl rfl fun e' w17 he' hs17 oe17 he17 => ?_))))))
  have z15 := f15.size
  have z17 := he17.size
  have X17 : ExtT w14 w17 MNT := f15.ty.trans (ExtT.nil he17 _)
  have od17 := X17.own od14 (by decide)
  have dd17 : DidAt w17 w11.heap.size ob oc rb rc (outG (evN op r.n).G) (evN op r.n).R := (dd12.ext0 he14).extT X17 (by decide) (by decide)
  have de17 : DidAt w17 w14.heap.size ob2 oc2 rb2 rc2 (outG (evN op r.n).G) (evN op r.n).R := dd15.ext0 he17
  have F17 : Fr BT w0.heap.size w w17 := ((F11.trans ((f12.mono (by decide)).trans (Fr.of0 he14))).trans ((f15.mono (by decide)).trans (Fr.of0 he17)))
  refine LdI.mk od17 rfl (LdL.mk od17 rfl (LdL.mk od17 rfl (LdI.mk oe17 rfl (LdL.mk oe17 rfl (LdL.mk oe17 rfl (sameDid_ok dd17 de17 ef.gl ef.rl fun w18 he18 => Bm.neg rfl ?_))))))
  have F18 : Fr BT w0.heap.size w w18 := F17.trans (Fr.of0 he18)
  have re18 := ((re12.ext0 he14).extT X17 (by decide)).ext0 he18
  have mo18 := (mo15.ext0 he17).ext0 he18
  have hHH : M2.H.map (·.2) = (evN op r.n).S.map gs := by rw [hh15, hH]; rfl
  have hlog : D'.log.length ≤ 400 := by
    have q1 := re12.sm.log
    have q2 := ef.slen
    have q3 : (DiskS.marked r.D).log.length = 0 := rfl
    omega
  have ofx : ∀ y, (WR.kx ⟨(evN op r.n).err, ob, oc, rb, rc, ob2, oc2, rb2, rc2, outG (evN op r.n).G, (evN op r.n).R⟩).foot y → w11.heap.size ≤ y := fun y hy => by
    rcases hy with q | q
    · exact dd17.og y q
    · exact dd17.rg y q
  have ofy : ∀ y, (WR.ky ⟨(evN op r.n).err, ob, oc, rb, rc, ob2, oc2, rb2, rc2, outG (evN op r.n).G, (evN op r.n).R⟩).foot y → w14.heap.size ≤ y := fun y hy => by
    rcases hy with q | q
    · exact de17.og y q
    · exact de17.rg y q
  have hwl := h.ow.lt
  have hel : e' ≠ ρ.ws := by omega
  have nlt := h.mc.nrow.lt
  refine hK ⟨r.p, r.kp, r.k, r.s, r.l, r.t, r.d, r.e, r.D.marked, r.N0 + (r.S.length : Int), r.n.Y.L, D', F', A', (evN op r.n).n, (evN op r.n).S, raw', Rs', r.p2, r.kp2, r.s2, r.q2, r.me2, M2⟩ w18 d' e' ⟨(evN op r.n).err, ob, oc, rb, rc, ob2, oc2, rb2, rc2, outG (evN op r.n).G, (evN op r.n).R⟩ ?_ rfl rfl ?_ ?_ ?_ (he18.own od17 (by simp)) (he18.own oe17 (by simp)) hel (fun q => by have := nlt d' q; omega) (fun q => by have := nlt e' q; omega) (F18.ty.own oo (by decide))
  · refine ⟨⟨re18, mo18, ef.ok, by rw [a15]; exact hA0, hHH, ef.aok, ef.slen, hlog, ?_⟩, h.mc.extT F18.ty (by decide), h.wx.extT F18.ty (by decide) (by decide), F18.ty.own h.ow (by decide), F18.ty.own h.om (by decide), by show (evN op r.n).n.Y.e.id = _; rw [ef.id]; exact h.id, Above.base h.ext F18.ab⟩
    show r.N0 + (r.S.length : Int) + ((evN op r.n).S.length : Int) ≤ N + 13
    have := ef.slen
    omega
  · intro hz
    have hz' : M2.H = [] := hz
    rw [hz'] at hHH
    have hS : (evN op r.n).S = [] := by
      have := congrArg List.length hHH
      exact List.eq_nil_of_length_eq_zero (by simpa using this.symm)
    show D'.log = []
    rw [re12.sm.idle hS]
    rfl
  · refine ⟨(dd17.ext0 he18).low (by omega), (de17.ext0 he18).low (by omega), ef.gl, ef.rl, fun k hk hkb => ?_⟩
    have g1 := ofx k hk
    have g2 := h.mc.lt (.inr (.inr hkb))
    omega
  · intro k hk
    have g0 := h.wx.xlt hk
    exact ⟨fun q => by have := ofx k q; omega, fun q => by have := ofy k q; omega⟩
end
end Go.Proofs.Qxb6500430aGreat
