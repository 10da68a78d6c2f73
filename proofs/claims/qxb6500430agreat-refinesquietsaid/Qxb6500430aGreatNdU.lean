/-
  nodelaw: the cut; the walk; the law.
-/
import Derived.Test.Qxb6500430aGreatNdT
import Derived.Test.Qxb6500430aGreatScript
set_option linter.unusedVariables false
set_option linter.unusedSimpArgs false
open Go.Vc
namespace Go.Proofs.Qxb6500430aGreat
open Kv
section
variable {w0 w w' : World} {N : Int} {ρ : MR} {ω ω' : WR} {idv : Int} {r : RR}
variable {sb : Option Addr} {n c : Nat} {steady quiet : Bool} {i : Int} {N1 : NW} {R : Int → Int → World → Prop}
theorem kCut_ok {o : Nat} {op : OpV} (hi0 : 0 ≤ i ∧ i < 4398046511104) (h : LawI w0 w N ρ ω idv r) (oo : Own w o (opC op) T_api_Op)
    (hgo : ∀ {w9 : World} {p p2 : Nat} {nb : Option Addr} {nl nc : Nat}, LawE w0 ρ.bb ρ.ws ρ.wm (N + 13) p p2 nb nl nc w9 → N1 sb n c steady quiet ρ.bb (some ⟨p, 0, none⟩) (some ⟨p2, 0, none⟩) ρ.ws ρ.wm nb nl nc (i + 1) w9) :
    LdP ⟨ρ.bb, 0, none⟩ w fun x194_0 =>
          LdP ⟨ρ.bb, 1, none⟩ w fun x194_1 =>
          LdI .i64 ⟨ρ.bb, 2, none⟩ w fun x194_2 =>
          nodelaw_Steps.Call x194_0 x194_1 x194_2 w fun r195 w24 =>
          LdP ⟨ρ.bb, 0, none⟩ w24 fun x196_0 =>
          LdP ⟨ρ.bb, 1, none⟩ w24 fun x196_1 =>
          LdI .i64 ⟨ρ.bb, 2, none⟩ w24 fun x196_2 =>
          New (.cells #[.pointer none, .pointer none, .int .i64 (0 : Int)] T_nodelaw_Below) w24 fun b0_ w25 =>
          Sts [.pointer x196_0, .pointer x196_1, .int .i64 x196_2] ⟨b0_, 0, none⟩ 0 w25 fun w26 =>
          LdP ⟨b0_, 0, none⟩ w26 fun x197_0 =>
          LdP ⟨b0_, 1, none⟩ w26 fun x197_1 =>
          LdI .i64 ⟨b0_, 2, none⟩ w26 fun x197_2 =>
          LdI .i64 ⟨o, 1, none⟩ w26 fun x199 =>
          nodelaw_After.Call x197_0 x197_1 x197_2 x199 w26 fun r200_0 r200_1 r200_2 w27 =>
          Sts [.pointer r200_0, .pointer r200_1, .int .i64 r200_2] ⟨ρ.bb, 0, none⟩ 0 w27 fun w28 =>
          kv_New.Call  w28 fun r201 w29 =>
          LdP ⟨ρ.bb, 1, none⟩ w29 fun x203 =>
          node_Open.Call x203 r201 w29 fun r205 w30 =>
          LdP ⟨ρ.bb, 0, none⟩ w30 fun x206_0 =>
          LdP ⟨ρ.bb, 1, none⟩ w30 fun x206_1 =>
          LdI .i64 ⟨ρ.bb, 2, none⟩ w30 fun x206_2 =>
          nodelaw_Steps.Call x206_0 x206_1 x206_2 w30 fun r207 w31 =>
          node_Node_Check.Call r205 w31 fun r209 w32 =>
          nodelaw_Match.Call r205 (some ⟨r.p2, 0, none⟩) w32 fun r213 w33 =>
          nodem_Node_Steps.Call (some ⟨r.p2, 0, none⟩) w33 fun r215 w34 =>
          nodem_Node_After.Call (some ⟨r.p2, 0, none⟩) r215 w34 fun r218 w35 =>
          nodelaw_Alike.Call r205 r218 (ByteArray.mk #[]) w35 fun r221 w36 =>
          Bm (!(r209.toList == (ByteArray.mk #[]).toList)) (
            nodelaw_walk.B5 sb n c steady quiet ρ.bb r205 (some ⟨r.p2, 0, none⟩) ρ.ws ρ.wm ρ.nb ρ.K.length ρ.nc i o r195 b0_ r213 r221 true w36 N1 R) (
            LdP ⟨ρ.bb, 0, none⟩ w36 fun x225_0 =>
            LdP ⟨ρ.bb, 1, none⟩ w36 fun x225_1 =>
            LdI .i64 ⟨ρ.bb, 2, none⟩ w36 fun x225_2 =>
            nodelaw_Steps.Call x225_0 x225_1 x225_2 w36 fun r226 w37 =>
            nodelaw_walk.B5 sb n c steady quiet ρ.bb r205 (some ⟨r.p2, 0, none⟩) ρ.ws ρ.wm ρ.nb ρ.K.length ρ.nc i o r195 b0_ r213 r221 (r226 != r207) w37 N1 R) := by
  have z0 := h.ext.size
  refine LdP.mk h.mc.ob rfl (LdP.mk h.mc.ob rfl (LdI.mk h.mc.ob rfl (gSteps_ok h.sd.re.sm.rest.real.st.dk fun w3 he3 => ?_)))
  have h3 := h.ext0 he3
  refine LdP.mk h3.mc.ob rfl (LdP.mk h3.mc.ob rfl (LdI.mk h3.mc.ob rfl (NewSet.mk rfl rfl fun b0 w5 hb0 hs5 ob5 he5 => LdP.mk ob5 rfl (LdP.mk ob5 rfl (LdI.mk ob5 rfl ?_)))))
  have h5 := h3.ext0 he5
  have oo5 : Own w5 o (opC op) T_api_Op := he5.own (he3.own oo (by simp)) (by simp)
  obtain ⟨hgood, A', L', hin, hh, hlk, hfoot0, hwork⟩ := h5.sd.cut op.a
  have okL := h5.sd.aok L' hin
  have okF : LogOk (finL r.L0 r.S) := h5.sd.aok _ (finL_mem r.S r.L0)
  have hlog := h5.sd.log
  have z3 := he3.size
  have z5 := he5.size
  have hbb := h.mc.ge ρ.bb (.inl rfl)
  have hbl := h3.mc.ob.lt
  have hidn : (El.newF idv).id = (El.newF r.n.Y.e.id).id := by rw [h.id, newF_idem]
  refine LdI.mk oo5 rfl (gAfter_ok h5.sd.re.sm.rest.real.st.dk h5.sd.path.mark h5.sd.path.log (by omega) hgood hlk hh okL fun d' s' l' t' e' D' F' A'' w6 hF' rest6 p6 q6 he6 => ?_)
  refine (h5.mc.ext0 he6).stB fun w7 mc7 he7 x7 => Kv.realNew_ok fun kp' w8 hkp rk8 he8 => ?_
  have z6 := he6.size
  have z7 := he7.size
  have z8 := he8.size
  have mc8 := mc7.ext0 he8
  have rest8 := (rest6.extT x7 (by decide)).ext0 he8
  refine LdP.mk mc8.ob rfl (nopen_ok (lo := w5.heap.size) (i := idv) rest8 okL p6 rk8 (by omega) (fun y hy => ?_) fun p' k' raw' w10 hp' re10 f10 => ?_)
  · simp only [List.mem_cons] at hy
    rcases hy with q | q
    · omega
    · exact hF' y (by simp only [List.mem_cons]; exact q)
  have z10 := f10.size
  have mc10 := mc8.extT f10.ty (by decide)
  have E510 : Ext [ρ.bb] w5 w10 := by
    obtain ⟨Z, eZ, hZ⟩ := f10.ab
    exact ((he6.nil.trans he7).trans he8.nil).trans' eZ (fun y hy hl => by have := hZ y hy; omega)
  have x510 : ExtT w5 w10 [T_nodelaw_Below] := ExtT.of E510 (Tys.one h5.mc.ob)
  have ob10 := E510.own ob5 (by simp; omega)
  have oo10 : Own w10 o (opC op) T_api_Op := x510.own oo5 (by decide)
  have old10 := h5.sd.extT x510 (by decide)
  have wx10 := h5.wx.extT x510 (by decide) (by decide)
  have ow10 := x510.own h5.ow (by decide)
  have om10 := x510.own h5.om (by decide)
  have X10 : Ext [] w0 w10 := h5.ext.trans' E510 (fun y hy hl => by simp at hy; omega)
  refine LdP.mk mc10.ob rfl (LdP.mk mc10.ob rfl (LdI.mk mc10.ob rfl (gSteps_ok re10.sm.rest.real.st.dk fun w11 he11 => ncheck_ok (re10.ext0 he11) (open_ok' idv okL) fun w12 he12 => ?_)))
  have E12 := he11.trans he12
  have hml := h.sd.hlen
  have hsl := h.sd.slen
  refine gMatch_ok (i := idv) (re10.ext0 E12) okL (old10.mo.ext0 E12) h.sd.A0 h.sd.H (by omega) h.sd.aok hin h.id fun j w13 hj hjmin he13 => ?_
  have E13 := E12.trans he13
  refine nmsteps_ok (old10.mo.ext0 E13) (nmAfter_ok (i := idv) (L := finL r.L0 r.S) (old10.mo.ext0 E13) (by omega) (by rw [hml]; exact at_get h.sd.A0 h.sd.H (fin_get r.L0 r.S)) okF hidn fun p3 kp3 s3 q3 me3 M3 w15 mo15 _ _ he15 => ?_)
  have E15 := E13.trans he15
  refine nsAlike_ok (re10.ext0 E15) mo15 (open_ok' idv okL) (open_ok' idv okF) fun whole w16 g1 g2 he16 => Bm.neg (by rw [str_e, decide_eq_true rfl]; rfl) ?_
  have E16 := E15.trans he16
  have mc16 := mc10.ext0 E16
  refine LdP.mk mc16.ob rfl (LdP.mk mc16.ob rfl (LdI.mk mc16.ob rfl (gSteps_ok (re10.ext0 E16).sm.rest.real.st.dk fun w17 he17 => ?_)))
  have E17 := E16.trans he17
  have z17 := E17.size
  have oo17 : Own w17 o (opC op) T_api_Op := E17.own oo10 (by simp)
  have b9 : ∀ tt, tt = false → nodelaw_walk.B9 sb n c steady quiet ρ.bb (some ⟨p', 0, none⟩) (some ⟨r.p2, 0, none⟩) ρ.ws ρ.wm ρ.nb ρ.K.length ρ.nc i o b0 (j : Int) tt w17 N1 R := fun tt htt => by
    unfold nodelaw_walk.B9
    refine Bm.neg htt (nmAfter_ok (i := idv) (L := L') (old10.mo.ext0 E17) (by omega) (at_get h.sd.A0 h.sd.H hj) okL hidn fun p2' kp2' s2' q2' me2' M' w18 mo18 hA0 hH he18 => ?_)
    have E18 := E17.trans he18
    have z18 := he18.size
    have mk : ∀ {w19 : World} {lo1 p1 kp1 k1 s1 l1 t1 d1 e1 : Nat} {D1 : DiskS} {F1 : List Nat} {A1 : AbsS} {raw1 : Nat → Value}, Ext [] w0 w19 → w0.heap.size ≤ lo1 → NReal w19 lo1 p1 kp1 k1 s1 l1 t1 d1 e1 D1 N L' D1 F1 A1 (openN idv L') [] raw1 [] → NMod w19 w17.heap.size p2' kp2' s2' q2' me2' M' (openN idv L') → D1.log.length ≤ 12 → MemC w19 w0.heap.size d1 s1 idv ρ → Was w19 w0.heap.size ρ ω → Own w19 ρ.ws (kdC ω.kx).toArray T_api_Did → Own w19 ρ.wm (kdC ω.ky).toArray T_api_Did → LawE w0 ρ.bb ρ.ws ρ.wm (N + 13) p1 p2' ρ.nb ρ.K.length ρ.nc w19 := fun {w19 lo1 p1 kp1 k1 s1 l1 t1 d1 e1 D1 F1 A1 raw1} hx hlo hr hm hlg hmc hwx how hom =>
      ⟨ρ, ω, idv, ⟨p1, kp1, k1, s1, l1, t1, d1, e1, D1, N, L', D1, F1, A1, openN idv L', [], raw1, [], p2', kp2', s2', q2', me2', M'⟩, rfl, rfl, rfl, rfl, rfl, rfl, rfl, rfl, ⟨⟨hr.low hlo, hm.low (by omega), open_ok' idv okL, hA0, by rw [hH]; rfl, fun X hX => (by simp at hX; rw [hX]; exact okL), by simp, by show D1.log.length ≤ 400; omega, by show N + ((0 : Nat) : Int) ≤ N + 13; omega⟩, hmc, hwx, how, hom, by show (openN idv L').Y.e.id = _; rw [openN_Y]; exact openY_id idv okL, hx⟩⟩
    refine Bm.mk (fun _ => ?_) (fun _ => ?_)
    · have ob18 := E18.own ob10 (by simp)
      refine LdP.mk ob18 rfl (LdP.mk ob18 rfl (LdI.mk ob18 rfl (LdI.mk (E18.own oo10 (by simp)) rfl (gAfter_ok (old10.ext0 E18).re.sm.rest.real.st.dk h5.sd.path.mark h5.sd.path.log (by omega) hgood hlk hh okL fun d2 s2 l2 t2 e2 D2 F2 A2 w19 hF2 rest19 p19 q19 he19 => ?_))))
      have E19 := E18.trans he19
      refine (mc10.ext0 E19).stB fun w20 mc20 he20 x20 => Kv.realNew_ok fun kp2 w21 hkp2 rk21 he21 => ?_
      have z19 := he19.size
      have z20 := he20.size
      have z21 := he21.size
      have mc21 := mc20.ext0 he21
      have rest21 := (rest19.extT x20 (by decide)).ext0 he21
      refine LdP.mk mc21.ob rfl (nopen_ok (lo := w18.heap.size) (i := idv) rest21 okL p19 rk21 (by omega) (fun y hy => ?_) fun p4 k4 raw4 w22 hp4 re22 f22 => ?_)
      · simp only [List.mem_cons] at hy
        rcases hy with q | q
        · omega
        · exact hF2 y (by simp only [List.mem_cons]; exact q)
      have E1822 : Ext [ρ.bb] w18 w22 := by
        obtain ⟨Z, eZ, hZ⟩ := f22.ab
        exact ((he19.nil.trans he20).trans he21.nil).trans' eZ (fun y hy hl => by have := hZ y hy; omega)
      have x1822 : ExtT w18 w22 [T_nodelaw_Below] := ExtT.of E1822 (Tys.one (mc10.ext0 E18).ob)
      exact nextB hi0 hgo (mk (lo1 := w18.heap.size) ((X10.trans E18).trans' E1822 (fun y hy hl => by simp at hy; omega)) (by omega) re22 (mo18.extT x1822 (by decide)) q19 (mc21.extT f22.ty (by decide)) ((wx10.ext0 E18).extT x1822 (by decide) (by decide)) (x1822.own (E18.own ow10 (by simp)) (by decide)) (x1822.own (E18.own om10 (by simp)) (by decide)))
    · exact nextB hi0 hgo (mk (lo1 := w5.heap.size) (X10.trans E18) (by omega) (re10.ext0 E18) mo18 q6 (mc10.ext0 E18) (wx10.ext0 E18) (E18.own ow10 (by simp)) (E18.own om10 (by simp)))
  have b8 : ∀ tt, tt = false → nodelaw_walk.B8 sb n c steady quiet ρ.bb (some ⟨p', 0, none⟩) (some ⟨r.p2, 0, none⟩) ρ.ws ρ.wm ρ.nb ρ.K.length ρ.nc i o (r.D.log.length : Int) b0 (j : Int) whole tt w17 N1 R := fun tt htt => by
    unfold nodelaw_walk.B8
    refine Bm.neg htt (LdI.mk oo17 rfl (Bm.ite (fun hge => b9 _ ?_) fun hge => b9 false rfl))
    rw [g2 (by rw [hwork hge])]
    rfl
  unfold nodelaw_walk.B5
  refine Bm.neg (by simp) (Bm.neg (decide_eq_false (by omega)) (LdI.mk oo17 rfl (Bm.ite (fun h0 => b8 _ ?_) fun h0 => b8 false rfl)))
  have hj0 : j = 0 := by
    cases j with
    | zero => rfl
    | succ j =>
      have := hjmin 0 (by omega)
      rw [hfoot0 h0] at this
      exact absurd rfl this
  rw [hj0]
  rfl
theorem b2_ok {ops : Nat → OpV} (hs : ScriptIs w0 sb n ops) (i0 : 0 ≤ i) (hi : i < (n : Int)) (hi2 : i < 4398046511104) (hN0 : 0 ≤ N) (hN : N + 13 ≤ 4611686018427387904) (h : LawI w0 w N ρ ω idv r)
    (hgo : ∀ {w9 : World} {p p2 : Nat} {nb : Option Addr} {nl nc : Nat}, LawE w0 ρ.bb ρ.ws ρ.wm (N + 13) p p2 nb nl nc w9 → N1 sb n c steady quiet ρ.bb (some ⟨p, 0, none⟩) (some ⟨p2, 0, none⟩) ρ.ws ρ.wm nb nl nc (i + 1) w9) :
    nodelaw_walk.B2 sb n c steady quiet ρ.bb (some ⟨r.p, 0, none⟩) (some ⟨r.p2, 0, none⟩) ρ.ws ρ.wm ρ.nb ρ.K.length ρ.nc i true w N1 R := by
  unfold nodelaw_walk.B2
  refine Bm.pos rfl ?_
  have hE' := h.ext
  obtain ⟨xx, rfl, hop⟩ := hs.2 i.toNat (by omega)
  have cl : ∀ {y : Addr} {v : Value}, y.block = (xx.add (i.toNat * 6)).block → w0.cell? y = some v → w.cell? y = some v := fun {y v} hy hv => by
    rw [hE'.cell (by rw [hy]; exact hop.blk) (by simp)]
    exact hv
  have bk : ∀ j, ((xx.add (i.toNat * 6)).add j).block = (xx.add (i.toNat * 6)).block := fun j => by unfold Addr.add; split <;> rfl
  refine Pn.mk ⟨⟨i0, hi⟩, ⟨_, cl rfl hop.k, ⟨_, cl (bk 1) hop.a, ⟨_, cl (bk 2) hop.b, ⟨_, cl (bk 3) hop.c, ⟨_, cl (bk 4) hop.s, ⟨_, cl (bk 5) hop.t, ?_⟩⟩⟩⟩⟩⟩⟩
  refine NewSet.mk rfl rfl fun o w2 ho hs2 oo2 he2 => LdI.mk oo2 rfl ?_
  have h2 := h.ext0 he2
  have wf := hop.wf
  generalize ops i.toNat = op at oo2 wf
  have oo2' : Own w2 o (opC op) T_api_Op := oo2
  have hi0 : 0 ≤ i ∧ i < 4398046511104 := ⟨i0, hi2⟩
  refine Bm.mk (fun _ => kNew_ok hi0 hN0 h2 oo2' hgo) fun _ => LdI.mk oo2' rfl (Bm.mk (fun _ => ?_) fun _ => Bm.mk (fun _ => kCut_ok hi0 h2 oo2' hgo) fun _ => nextB hi0 hgo ⟨ρ, ω, idv, r, rfl, rfl, rfl, rfl, rfl, rfl, rfl, rfl, h2.mono (by omega)⟩)
  exact kEv_ok hi0 hN h2 oo2' wf hgo fun rr w17 d' e' ω' hh hp hp2 hidle wn sep od oe hew hdn hen oo17 => by
    rw [← hp, ← hp2]
    exact share_ok hi0 hh hidle wn sep od oe hew hdn hen oo17 wf hgo
end
theorem walk_ok {w : World} {sb : Option Addr} {n c : Nat} {ops : Nat → OpV} {steady quiet : Bool} {R : Int → Int → World → Prop} (hs : ScriptIs w sb n ops) (hR : ∀ m w', Ext [] w w' → R (-1) m w') : nodelaw_walk.Call sb n c steady quiet w R := by
  apply nodelaw_walk.sound
  unfold nodelaw_walk.B0
  have hnn := hs.1
  refine gGround_ok fun d s l t e F A w1 hF rest1 p1 he1 => NewSet.mk rfl rfl fun b w3 hb hs3 ob3 he3 => Kv.realNew_ok fun kp w4 hkp rk4 he4 => ?_
  have z1 := he1.size
  have z3 := he3.size
  have z4 := he4.size
  have E4 := (he1.trans he3).trans he4
  have ob4 := he4.own ob3 (by simp)
  have rest4 := (rest1.ext0 he3).ext0 he4
  refine LdP.mk ob4 rfl ?_
  apply node_New.sound
  unfold node_New.B0
  refine nopen_ok (lo := w.heap.size) (i := 0) rest4 L0_ok p1 rk4 (by omega) (fun y hy => ?_) fun p k raw w5 hp re5 f5 => ?_
  · simp only [List.mem_cons] at hy
    rcases hy with q | q
    · omega
    · exact hF y (by simp only [List.mem_cons]; exact q)
  have z5 := f5.size
  refine nmnew_ok (lo := w.heap.size) (by omega) fun p2 kp2 s2 q2 me2 M w6 hp2 mo6 hA0 hH hge2 he6 => New.mk fun ws w7 hws hs7 ow7 he7 => New.mk fun wm w8 hwm hs8 om8 he8 => ?_
  have z6 := he6.size
  have z7 := he7.size
  refine Sts.full (he8.own ow7 (by simp)) rfl rfl fun w9 hs9 ow9 he9 => Sts.full (he9.own om8 (by simp; omega)) rfl rfl fun w10 hs10 om10 he10 => ?_
  have E58 : Ext [] w5 w10 := (((he6.trans he7).trans he8).trans' he9 (fun y hy hl => by simp at hy; omega)).trans' he10 (fun y hy hl => by simp at hy; omega)
  have E610 : Ext [] w6 w10 := ((he7.trans he8).trans' he9 (fun y hy hl => by simp at hy; omega)).trans' he10 (fun y hy hl => by simp at hy; omega)
  have ob10 := E58.own (f5.ty.own ob4 (by decide)) (by simp)
  have E10 : Ext [] w w10 := (Above.base E4 f5.ab).trans E58
  have hI : LawI w w10 0 ⟨b, ws, wm, none, 0, []⟩ ⟨0, none, 0, none, 0, none, 0, none, 0, [], []⟩ 0 ⟨p, kp, k, s, l, t, d, e, freshDisk, 0, L0, freshDisk, F, A, openN 0 L0, [], raw, [], p2, kp2, s2, q2, me2, M⟩ := by
    refine ⟨⟨re5.ext0 E58, mo6.ext0 E610, open_ok' 0 L0_ok, hA0, by rw [hH]; rfl, fun X hX => ?_, by simp, by simp [freshDisk], by simp⟩, ⟨ob10, Row.nil _ _ _, fun I hI => (by cases hI), by simp, fun hx => (by cases hx), fun hx => (by cases hx), ?_, ?_, ?_, fun y hy => ?_⟩, ⟨DidAt.nil _ _, DidAt.nil _ _, by simp, by simp, fun y hy => ?_⟩, he10.own ow9 (by simp; omega), om10, ?_, E10⟩
    · simp at hX; rw [hX]; exact L0_ok
    · show ws ≠ wm
      omega
    · show w.heap.size ≤ ws
      omega
    · show w.heap.size ≤ wm
      omega
    · rcases hy with q | q | ⟨I, hI, _⟩
      · have : y = b := q
        omega
      · cases q
      · cases hI
    · rcases hy with q | q <;> cases q
    · show (openN 0 L0).Y.e.id = _
      rw [openN_Y]
      exact openY_id 0 L0_ok
  refine LdP.mk ob10 rfl (LdP.mk ob10 rfl (LdI.mk ob10 rfl (gSteps_ok hI.sd.re.sm.rest.real.st.dk fun w11 he11 => Bm.neg rfl ?_)))
  have hI11 := hI.ext0 he11
  have main : ∀ tt w12, tt = false → LawI w w12 0 ⟨b, ws, wm, none, 0, []⟩ ⟨0, none, 0, none, 0, none, 0, none, 0, [], []⟩ 0 ⟨p, kp, k, s, l, t, d, e, freshDisk, 0, L0, freshDisk, F, A, openN 0 L0, [], raw, [], p2, kp2, s2, q2, me2, M⟩ → nodelaw_walk.B1 sb n c steady quiet b (some ⟨p, 0, none⟩) (some ⟨p2, 0, none⟩) ws wm none 0 0 tt w12 R := by
    intro tt w12 htt hI12
    unfold nodelaw_walk.B1
    refine Bm.neg htt ?_
    unfold nodelaw_walk.L1
    refine ⟨fun m sb' n' c' st' qu' b' x' m' ws' wm' nb' nl' nc' i w' => sb = sb' ∧ n = n' ∧ c = c' ∧ steady = st' ∧ quiet = qu' ∧ b = b' ∧ ws = ws' ∧ wm = wm' ∧ 0 ≤ i ∧ i ≤ n ∧ i ≤ 4398046511104 ∧ m = (n - i).toNat ∧ ∃ p p2, some ⟨p, 0, none⟩ = x' ∧ some ⟨p2, 0, none⟩ = m' ∧ LawE w b ws wm (13 * i) p p2 nb' nl' nc' w', n, ⟨rfl, rfl, rfl, rfl, rfl, rfl, rfl, rfl, by omega, by omega, by omega, by omega, p, p2, rfl, rfl, _, _, _, _, rfl, rfl, rfl, rfl, rfl, rfl, rfl, rfl, hI12.mono (by omega)⟩, ?_⟩
    rintro m sb' n' c' st' qu' b' x' m' ws' wm' nb' nl' nc' i w' ⟨rfl, rfl, rfl, rfl, rfl, rfl, rfl, rfl, i0, i1, i2, rfl, p, p2, rfl, rfl, ρ, ω, idv, r, rfl, rfl, rfl, rfl, rfl, rfl, rfl, rfl, hI⟩
    unfold nodelaw_walk.L1b
    have stop : ∀ tt : Bool, tt = false → ∀ N1, nodelaw_walk.B2 sb n c steady quiet ρ.bb (some ⟨r.p, 0, none⟩) (some ⟨r.p2, 0, none⟩) ρ.ws ρ.wm ρ.nb ρ.K.length ρ.nc i tt w' N1 R := by
      intro tt htt N1
      unfold nodelaw_walk.B2
      generalize (decide (((n : Nat) : Int) < 4398046511104)) = bb
      exact Bm.neg htt (Bm.mk (fun _ => hR _ w' hI.ext) (fun _ => hR _ w' hI.ext))
    by_cases hi : i < (n : Int)
    rotate_left
    · generalize hf : false = ff
      exact Bm.neg (decide_eq_false hi) (stop ff hf.symm _)
    refine Bm.pos (decide_eq_true hi) ?_
    by_cases hi2 : i < 4398046511104
    rotate_left
    · exact stop _ (decide_eq_false hi2) _
    rw [decide_eq_true hi2]
    refine b2_ok hs i0 hi hi2 (by omega) (by omega) hI fun {w9 p p2 nb nl nc} h9 => ⟨(n - (i + 1)).toNat, by omega, rfl, rfl, rfl, rfl, rfl, rfl, rfl, rfl, by omega, by omega, by omega, rfl, p, p2, rfl, rfl, ?_⟩
    rw [show 13 * (i + 1) = 13 * i + 13 by omega]
    exact h9
  refine Bm.mk (fun _ => ?_) (fun _ => main false w11 rfl hI11)
  exact LdP.mk hI11.mc.ob rfl (LdP.mk hI11.mc.ob rfl (LdI.mk hI11.mc.ob rfl (gSeen_ok (D := freshDisk) hI11.sd.re hI11.sd.mo hI11.sd.ok fun w12 he12 => main _ w12 rfl (hI11.ext0 he12))))
theorem refines_law {w : World} {sb : Option Addr} {n c : Nat} {ops : Nat → OpV} (hs : ScriptIs w sb n ops) {R : Bool → World → Prop} (hR : ∀ w', Ext [] w w' → R true w') : nodelaw_Refines.Call sb n c w R := by
  apply nodelaw_Refines.sound
  unfold nodelaw_Refines.B0
  apply nodelaw_RefinesUpTo.sound
  unfold nodelaw_RefinesUpTo.B0
  exact walk_ok hs fun m w' he => hR w' he
theorem refinesSteady_law {w : World} {sb : Option Addr} {n c : Nat} {ops : Nat → OpV} (hs : ScriptIs w sb n ops) {R : Bool → World → Prop} (hR : ∀ w', Ext [] w w' → R true w') : nodelaw_RefinesSteady.Call sb n c w R := by
  apply nodelaw_RefinesSteady.sound
  unfold nodelaw_RefinesSteady.B0
  exact walk_ok hs fun m w' he => hR w' he
theorem refinesQuiet_law {w : World} {sb : Option Addr} {n c : Nat} {ops : Nat → OpV} (hs : ScriptIs w sb n ops) {R : Bool → World → Prop} (hR : ∀ w', Ext [] w w' → R true w') : nodelaw_RefinesQuiet.Call sb n c w R := by
  apply nodelaw_RefinesQuiet.sound
  unfold nodelaw_RefinesQuiet.B0
  apply nodelaw_RefinesQuietUpTo.sound
  unfold nodelaw_RefinesQuietUpTo.B0
  exact walk_ok hs fun m w' he => hR w' he
end Go.Proofs.Qxb6500430aGreat
