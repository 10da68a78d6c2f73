/-
  synclaw: the walk and the law.
-/
import Derived.Test.Qxb6500433aGreatSyZB
set_option linter.unusedVariables false
set_option linter.unusedSimpArgs false
open Go.Vc
namespace Go.Proofs.Qxb6500433aGreat
section
variable {w0 w w' : World} {N : Int} {ρ : MR} {ω ω' : WR} {idv : Int} {x l t d e : Nat} {D : DiskS} {F : List Nat} {A : AbsS} {s q me : Nat} {M : MSt} {Y Y' : YS} {L1 : LogS} {S S' : List LogS} {lo : Nat}
variable {sb : Option Addr} {n c : Nat} {steady quiet : Bool} {i : Int} {N1 : NW} {R : Int → Int → World → Prop}
theorem b2_ok {ops : Nat → OpV} (hs : ScriptIs w0 sb n ops) (i0 : 0 ≤ i) (hi : i < (n : Int)) (hi2 : i < 4398046511104) (hN0 : 0 ≤ N) (hN : N + 1 ≤ 4611686018427387904) (h : LawI w0 w N ρ ω idv x l t d e D F A s q me M Y L1 S)
    (hgo : ∀ {w9 : World} {idv : Int} {x s : Nat} {nb : Option Addr} {nl nc : Nat}, LawE w0 ρ.bb ρ.rg ρ.ws (N + 12) idv x s nb nl nc w9 → N1 sb n c steady quiet idv ρ.bb (some ⟨x, 0, none⟩) (some ⟨s, 0, none⟩) ρ.rg ρ.ws nb nl nc (i + 1) w9) :
    synclaw_walk.B2 sb n c steady quiet idv ρ.bb (some ⟨x, 0, none⟩) (some ⟨s, 0, none⟩) ρ.rg ρ.ws ρ.nb ρ.K.length ρ.nc i true w N1 R := by
  unfold synclaw_walk.B2
  refine Bm.pos rfl ?_
  have hE' := h.ext
  obtain ⟨xx, rfl, hop⟩ := hs.2 i.toNat (by omega)
  have cl : ∀ {y : Addr} {v : Value}, y.block = (xx.add (i.toNat * 6)).block → w0.cell? y = some v → w.cell? y = some v := fun {y v} hy hv => by
    rw [hE'.cell (by rw [hy]; exact hop.blk) (by simp)]
    exact hv
  have bk : ∀ j, ((xx.add (i.toNat * 6)).add j).block = (xx.add (i.toNat * 6)).block := fun j => by unfold Addr.add; split <;> rfl
  refine Pn.mk ⟨⟨i0, hi⟩, ⟨_, cl rfl hop.k, ⟨_, cl (bk 1) hop.a, ⟨_, cl (bk 2) hop.b, ⟨_, cl (bk 3) hop.c, ⟨_, cl (bk 4) hop.s, ⟨_, cl (bk 5) hop.t, ?_⟩⟩⟩⟩⟩⟩⟩
  refine NewSet.mk rfl rfl fun o w2 ho hs2 oo2 he2 => LdI.mk oo2 rfl ?_
  have h2 := h.ext0 he2
  have aa := hop.wf.a
  generalize ops i.toNat = op at oo2 aa
  have oo2' : Own w2 o #[.int .i64 op.k, .int .i64 op.a, .int .i64 op.b, .int .i64 op.c, .string op.s, .string op.t] T_api_Op := oo2
  have hi0 : 0 ≤ i ∧ i < 4398046511104 := ⟨i0, hi2⟩
  have z0 := h.ext.size
  have z2 := he2.size
  have go : ∀ {w9 : World} {x s : Nat}, LawE w0 ρ.bb ρ.rg ρ.ws (N + 12) idv x s ρ.nb ρ.K.length ρ.nc w9 → synclaw_walk.B3 (some xx) n c steady quiet idv ρ.bb (some ⟨x, 0, none⟩) (some ⟨s, 0, none⟩) ρ.rg ρ.ws ρ.nb ρ.K.length ρ.nc i w9 N1 R := fun {w9 x s} h9 => by
    unfold synclaw_walk.B3
    rw [w64 (by omega) (by omega)]
    exact hgo h9
  refine Bm.mk (fun hk6 => ?_) (fun hk6 => ?_)
  · -- a cut
    refine Bm.mk (fun _ => go ⟨ρ, ω, l, t, d, e, D, F, A, q, me, M, Y, L1, S, rfl, rfl, rfl, rfl, rfl, rfl, h2.mono (by omega)⟩) (fun _ => ?_)
    refine LdP.mk h2.mc.ob rfl (LdP.mk h2.mc.ob rfl (wSteps_ok h2.sd.rest.real.st.dk fun w3 he3 => ?_))
    have h3 := h2.ext0 he3
    refine LdP.mk h3.mc.ob rfl (LdP.mk h3.mc.ob rfl (NewSet.mk rfl rfl fun b0 w5 hb0 hs5 ob5 he5 => LdP.mk ob5 rfl (LdP.mk ob5 rfl ?_)))
    have h5 := h3.ext0 he5
    have oo5 := he5.own (he3.own oo2' (by simp)) (by simp)
    obtain ⟨hgood, A', L', hin, hh, hlk, hfoot0, hwork⟩ := h5.sd.cut op.a
    have okL := h5.sd.aok L' hin
    have okF : LogOk (finL L1 S) := h5.sd.aok _ (finL_mem S L1)
    have hlog := h5.sd.log
    have z3 := he3.size
    have z5 := he5.size
    have hbb := h.mc.ge ρ.bb (.inl rfl)
    have hbl := h3.mc.ob.lt
    have hidn : (El.newF idv).id = (El.newF Y.e.id).id := by rw [h.id, newF_idem]
    refine LdI.mk oo5 rfl (wAfter_ok h5.sd.rest.real.st.dk h5.sd.path.mark h5.sd.path.log (by omega) hgood hlk hh okL fun d' l' t' D' F' A'' w6 hF' ht' hl' r6 p6 q6 he6 => ?_)
    refine (h5.mc.ext0 he6).stB (d' := d') (l' := l') fun w7 mc7 he7 => LdP.mk mc7.ob rfl (LdP.mk mc7.ob rfl ?_)
    have tb : Tys w6 [ρ.bb] [T_synclaw_Below] := Tys.one (h5.mc.ext0 he6).ob
    have r7 := r6.extY he7 tb (fun q hq => by simp at hq; subst hq; decide)
    have z6 := he6.size
    have z7 := he7.size
    refine wSteps_ok r7.st.dk fun w8 he8 => El.realNew_ok fun e' w9 hle' re9 he9 => ?_
    have E79 := he8.trans he9
    have mc9 := mc7.ext0 E79
    have z8 := he8.size
    have z9 := he9.size
    refine LdP.mk mc9.ob rfl (openS_ok (r7.ext0 E79) re9 fun x' w10 hx' rest10 he10 => ?_)
    have te := Tys.one re9
    have mc10 := mc9.extT (ExtT.of he10 te) (by decide)
    have z10 := he10.size
    have E510 : Ext [ρ.bb] w5 w10 := ((he6.nil.trans he7).trans E79.nil).trans' he10 (fun y hy hl => by simp at hy; omega)
    have tb5 : Tys w5 [ρ.bb] [T_synclaw_Below] := Tys.one h5.mc.ob
    have x510 : ExtT w5 w10 [T_synclaw_Below] := ExtT.of E510 tb5
    have ob10 := E510.own ob5 (by simp; omega)
    have oo10 := x510.own oo5 (by decide)
    have mr10 := h5.sd.mrest.extT x510 (by decide)
    have old10 := h5.sd.rest.real.extY E510 tb5 (fun q hq => by simp at hq; subst hq; decide)
    have wx10 := h5.wx.extT x510 (by decide) (by decide)
    have ow10 := x510.own h5.ow (by decide)
    have X10 : Ext [] w0 w10 := h5.ext.trans' E510 (fun y hy hl => by simp at hy; omega)
    have zz5 := h5.ext.size
    refine LdP.mk mc10.ob rfl (LdP.mk mc10.ob rfl (wSteps_ok rest10.real.st.dk fun w11 he11 => Bm.neg (by simp) (checkS_ok (rest10.ext0 he11) (open_inv idv okL) fun w12 he12 => ?_)))
    have E12 := he11.trans he12
    have hml := h.sd.hlen
    have hsl := h.sd.slen
    refine wMatch_ok (i := idv) (rest10.ext0 E12) okL (mr10.ext0 E12) h.sd.A0 h.sd.H (by omega) h.sd.aok hin h.id fun j w13 hj hjmin he13 => ?_
    have E13 := E12.trans he13
    refine msteps_ok (mr10.ext0 E13) (mafter_ok (i := idv) (L := finL L1 S) (mr10.ext0 E13) (by omega) (by rw [hml]; exact at_get h.sd.A0 h.sd.H (fin_get L1 S)) okF hidn fun s2 q2 e2 M2 w15 _ _ _ mr15 _ _ he15 => ?_)
    have E15 := E13.trans he15
    refine lawAlike_ok (rest10.ext0 E15) mr15 (open_inv idv okL) (open_inv idv okF) fun whole w16 g1 g2 he16 => Bm.neg (by rw [estr_eq]; rfl) ?_
    have E16 := E15.trans he16
    have mc16 := mc10.ext0 E16
    refine LdP.mk mc16.ob rfl (LdP.mk mc16.ob rfl (wSteps_ok (rest10.ext0 E16).real.st.dk fun w17 he17 => Bm.neg (by simp) (Bm.neg (decide_eq_false (by omega)) ?_)))
    have E17 := E16.trans he17
    have z17 := E17.size
    have oo17 := E17.own oo10 (by simp)
    have b7 : ∀ tt, tt = false → synclaw_walk.B7 (some xx) n c steady quiet idv ρ.bb (some ⟨x', 0, none⟩) (some ⟨s, 0, none⟩) ρ.rg ρ.ws ρ.nb ρ.K.length ρ.nc i o b0 (j : Int) tt w17 N1 R := fun tt htt => by
      unfold synclaw_walk.B7
      refine Bm.neg htt (mafter_ok (i := idv) (L := L') (mr10.ext0 E17) (by omega) (at_get h.sd.A0 h.sd.H hj) okL hidn fun s' q' me' M' w18 hs' hme' hMf mr18 hA0 hH he18 => ?_)
      have E18 := E17.trans he18
      have mk : ∀ {w19 : World} {x2 l2 t2 d2 e2 : Nat} {D2 : DiskS} {F2 : List Nat} {A2 : AbsS}, Ext [] w0 w19 → Rest w19 x2 l2 t2 d2 e2 D2 F2 A2 (openY idv L') → MRest w19 s' q' me' M' (openY idv L') → Path D2 [L'] N → D2.log.length ≤ 12 → MemC w19 w0.heap.size d2 l2 ρ → Was w19 w0.heap.size ρ ω → Own w19 ρ.ws ω.cells T_synclaw_Sent → (∀ k ∈ x2 :: e2 :: l2 :: t2 :: F2, w0.heap.size ≤ k) → LawE w0 ρ.bb ρ.rg ρ.ws (N + 12) idv x2 s' ρ.nb ρ.K.length ρ.nc w19 := fun {w19 x2 l2 t2 d2 e2 D2 F2 A2} hx hr hm hp hlg hmc hwx how hft =>
        ⟨ρ, ω, l2, t2, d2, e2, D2, F2, A2, q', me', M', openY idv L', L', [], rfl, rfl, rfl, rfl, rfl, rfl, ⟨hr, hm, open_inv idv okL, hp.mono (fun x hx => hx) (by omega), rfl, hA0, by rw [hH]; rfl, fun X hX => (by simp at hX; rw [hX]; exact okL), by omega, by simp, fun k hk => by
          simp only [sfoot, List.mem_cons, List.mem_append] at hk
          rcases hk with ee | ee | ee | ee | ee | ee | ee | ee
          · exact hft k (by simp [ee])
          · exact hft k (by simp [ee])
          · exact hft k (by simp [ee])
          · exact hft k (by simp [ee])
          · exact hft k (by simp [ee])
          · omega
          · omega
          · have := hMf k ee; omega⟩, hmc, hwx, how, openY_id idv okL, hx⟩
      refine Bm.mk (fun _ => ?_) (fun _ => ?_)
      · have ob18 := E18.own ob10 (by simp)
        refine LdP.mk ob18 rfl (LdP.mk ob18 rfl (LdI.mk (E18.own oo10 (by simp)) rfl (wAfter_ok (old10.ext0 E18).st.dk h5.sd.path.mark h5.sd.path.log (by omega) hgood hlk hh okL fun d2 l2 t2 D2 F2 A2 w19 hF2 ht2 hl2 r19 p19 q19 he19 => ?_)))
        have E19 := E18.trans he19
        refine (mc10.ext0 E19).stB (d' := d2) (l' := l2) fun w20 mc20 he20 => ?_
        have tb20 : Tys w19 [ρ.bb] [T_synclaw_Below] := Tys.one (mc10.ext0 E19).ob
        have r20 := r19.extY he20 tb20 (fun q hq => by simp at hq; subst hq; decide)
        refine El.realNew_ok fun e2 w21 hle2 re21 he21 => ?_
        have mc21 := mc20.ext0 he21
        refine LdP.mk mc21.ob rfl (openS_ok (r20.ext0 he21) re21 fun x2 w22 hx2 rest22 he22 => ?_)
        have te2 := Tys.one re21
        have z18 := he18.size
        have z19 := he19.size
        have z20 := he20.size
        have z21 := he21.size
        have E1822 : Ext [ρ.bb] w18 w22 := ((he19.nil.trans he20).trans he21.nil).trans' he22 (fun y hy hl => by simp at hy; omega)
        have x1822 : ExtT w18 w22 [T_synclaw_Below] := ExtT.of E1822 (Tys.one (mc10.ext0 E18).ob)
        refine go (mk ((X10.trans E18).trans' E1822 (fun y hy hl => by simp at hy; omega)) rest22 (mr18.extT x1822 (by decide)) p19 q19 (mc21.extT (ExtT.of he22 te2) (by decide)) ((wx10.ext0 E18).extT x1822 (by decide) (by decide)) (x1822.own (E18.own ow10 (by simp)) (by decide)) fun k hk => ?_)
        simp only [List.mem_cons] at hk
        rcases hk with ee | ee | ee | ee | ee
        · omega
        · omega
        · omega
        · omega
        · have := hF2 k ee; omega
      · refine go (mk (X10.trans E18) (rest10.ext0 E18) mr18 p6 q6 (mc10.ext0 E18) (wx10.ext0 E18) (E18.own ow10 (by simp)) fun k hk => ?_)
        simp only [List.mem_cons] at hk
        rcases hk with ee | ee | ee | ee | ee
        · omega
        · omega
        · omega
        · omega
        · have := hF' k ee; omega
    have b4 : ∀ tt, tt = false → synclaw_walk.B4 (some xx) n c steady quiet idv ρ.bb (some ⟨x', 0, none⟩) (some ⟨s, 0, none⟩) ρ.rg ρ.ws ρ.nb ρ.K.length ρ.nc i o (D.log.length : Int) b0 (j : Int) whole tt w17 N1 R := fun tt htt => by
      unfold synclaw_walk.B4
      refine Bm.neg htt (LdI.mk oo17 rfl (Bm.ite (fun hge => b7 _ ?_) fun hge => b7 false rfl))
      rw [g2 (by rw [hwork hge])]
      rfl
    refine LdI.mk oo17 rfl (Bm.ite (fun h0 => b4 _ ?_) fun h0 => b4 false rfl)
    have hj0 : j = 0 := by
      cases j with
      | zero => rfl
      | succ j =>
        have := hjmin 0 (by omega)
        rw [hfoot0 h0] at this
        exact absurd rfl this
    rw [hj0]
    rfl
  · -- no cut
    refine mark_ok h2 fun F' M' w19 h19 x19 => New.mk fun now w20 hnow hs20 on20 he20 => ?_
    have h20 := h19.ext0 he20
    have oo20 := he20.own (x19.own oo2' (by decide)) (by simp)
    have hlog : D.marked.log = [] := rfl
    have z19 := x19.size
    have hnf : ¬ ρ.foot now := fun hf => by have := h19.mc.lt hf; omega
    have b6 : ∀ tt, synclaw_walk.B6 (some xx) n c steady quiet idv ρ.bb (some ⟨x, 0, none⟩) (some ⟨s, 0, none⟩) ρ.rg ρ.ws ρ.nb ρ.K.length ρ.nc i o true false now tt w20 N1 R := fun tt => b6_ok hi0 hN h20 hlog oo20 aa hgo
    refine LdI.mk oo20 rfl (Bm.mk (fun _ => kNew_ok hi0 hN0 h20 oo20 hgo) fun _ => Bm.mk (fun _ => kTick_ok hi0 hN h20 hlog on20 hnf (by omega) hgo) fun _ => Bm.mk (fun _ => kStep_ok hi0 hN h20 hlog on20 hnf (by omega) oo20 hgo) fun _ => Bm.mk (fun _ => b6 _) fun _ => Bm.mk (fun _ => b6 _) fun _ => Bm.mk (fun _ => b6 _) fun _ => b6 _)
end
theorem walk_ok {w : World} {sb : Option Addr} {n c : Nat} {ops : Nat → OpV} {steady quiet : Bool} {R : Int → Int → World → Prop} (hs : ScriptIs w sb n ops) (hR : ∀ m w', Ext [] w w' → R (-1) m w') : synclaw_walk.Call sb n c steady quiet w R := by
  apply synclaw_walk.sound
  unfold synclaw_walk.B0
  have hnn := hs.1
  refine wGround_ok fun d l t F A w1 hF ht hl r1 p1 he1 => NewSet.mk rfl rfl fun b w3 hb hs3 ob3 he3 => El.realNew_ok fun e w4 hle re4 he4 => ?_
  have ob4 := he4.own ob3 (by simp)
  refine LdP.mk ob4 rfl ?_
  apply sync_New.sound
  unfold sync_New.B0
  have z1 := he1.size
  have z3 := he3.size
  have z4 := he4.size
  have r4 := (r1.ext0 he3).ext0 he4
  refine openS_ok r4 re4 fun x w5 hx rest5 he5 => mnew_ok fun s q me M w6 hls hlme hMf mr6 hA0 hH he6 => New.mk fun rg w7 hrg hs7 or7 he7 => New.mk fun ws w8 hws hs8 ow8 he8 => ?_
  have z5 := he5.size
  have z6 := he6.size
  have E58 := (he6.trans he7).trans he8
  have ob5 := ownT he5 (Tys.one re4) ob4 (by decide)
  have ob8 := E58.own ob5 (by simp)
  have rest8 := rest5.ext0 E58
  have mr8 := mr6.ext0 (he7.trans he8)
  have E8 : Ext [] w w8 := (((he1.trans he3).trans he4).trans' he5 (fun y hy hl => by simp at hy; omega)).trans E58
  have or8 : Own w8 rg (msgC zMsg none 0 0).toArray T_api_Msg := he8.own or7 (by simp)
  have hI : LawI w w8 0 ⟨b, rg, ws, zMsg, none, 0, none, 0, []⟩ ⟨none, 0, [], none, 0, []⟩ 0 x l t d e freshDisk F A s q me M (openY 0 L0) L0 [] := by
    refine ⟨⟨rest8, mr8, open_inv 0 L0_ok, p1, rfl, hA0, by rw [hH]; rfl, fun X hX => ?_, by simp [freshDisk], by simp, fun k hk => ?_⟩, ⟨ob8, or8, EA.nil _, Nat.zero_le _, ⟨_, ow8, rfl⟩, Row.nil _ _ _, fun I hI => (by cases hI), by simp, fun k hk hkb => ?_, fun k hk => ?_⟩, Was.nil _ _ _, ow8, openY_id 0 L0_ok, E8⟩
    · simp at hX; rw [hX]; exact L0_ok
    · simp only [sfoot, List.mem_cons, List.mem_append] at hk
      rcases hk with ee | ee | ee | ee | ee | ee | ee | ee
      · omega
      · omega
      · omega
      · omega
      · have := hF k ee; omega
      · omega
      · omega
      · have := hMf k ee; omega
    · obtain ⟨I, hI, _⟩ := hkb
      cases hI
    · rcases hk with z | (z | z) | z | z | ⟨I, hI, _⟩
      · have : k = b := z; omega
      · have : k = rg := z; omega
      · cases z
      · have : k = ws := z; omega
      · cases z
      · cases hI
  refine LdP.mk ob8 rfl (LdP.mk ob8 rfl (wSteps_ok rest8.real.st.dk fun w9 he9 => Bm.neg rfl ?_))
  have hI9 := hI.ext0 he9
  have main : ∀ w10, LawI w w10 0 ⟨b, rg, ws, zMsg, none, 0, none, 0, []⟩ ⟨none, 0, [], none, 0, []⟩ 0 x l t d e freshDisk F A s q me M (openY 0 L0) L0 [] → synclaw_walk.B1 sb n c steady quiet 0 b (some ⟨x, 0, none⟩) (some ⟨s, 0, none⟩) rg ws none 0 0 w10 R := by
    intro w10 hI10
    unfold synclaw_walk.B1 synclaw_walk.L1
    refine ⟨fun m sb' n' c' st' qu' id' b' x' m' rg' ws' nb' nl' nc' i w' => sb = sb' ∧ n = n' ∧ c = c' ∧ steady = st' ∧ quiet = qu' ∧ b = b' ∧ rg = rg' ∧ ws = ws' ∧ 0 ≤ i ∧ i ≤ n ∧ i ≤ 4398046511104 ∧ m = (n - i).toNat ∧ ∃ x s, some ⟨x, 0, none⟩ = x' ∧ some ⟨s, 0, none⟩ = m' ∧ LawE w b rg ws (12 * i) id' x s nb' nl' nc' w', n, ⟨rfl, rfl, rfl, rfl, rfl, rfl, rfl, rfl, by omega, by omega, by omega, by omega, x, s, rfl, rfl, ⟨b, rg, ws, zMsg, none, 0, none, 0, []⟩, ⟨none, 0, [], none, 0, []⟩, l, t, d, e, freshDisk, F, A, q, me, M, openY 0 L0, L0, [], rfl, rfl, rfl, rfl, rfl, rfl, hI10.mono (by omega)⟩, ?_⟩
    rintro m sb' n' c' st' qu' id' b' x' m' rg' ws' nb' nl' nc' i w' ⟨rfl, rfl, rfl, rfl, rfl, rfl, rfl, rfl, i0, i1, i2, rfl, x, s, rfl, rfl, ρ, ω, l, t, d, e, D, F, A, q, me, M, Y, L1, S, rfl, rfl, rfl, rfl, rfl, rfl, hI⟩
    unfold synclaw_walk.L1b
    have stop : ∀ tt : Bool, tt = false → ∀ N1, synclaw_walk.B2 sb n c steady quiet id' ρ.bb (some ⟨x, 0, none⟩) (some ⟨s, 0, none⟩) ρ.rg ρ.ws ρ.nb ρ.K.length ρ.nc i tt w' N1 R := by
      intro tt htt N1
      unfold synclaw_walk.B2
      generalize (decide (((n : Nat) : Int) < 4398046511104)) = bb
      exact Bm.neg htt (Bm.mk (fun _ => hR _ w' hI.ext) (fun _ => hR _ w' hI.ext))
    by_cases hi : i < (n : Int)
    rotate_left
    · generalize hf : false = ff
      exact Bm.neg (decide_eq_false hi) (stop ff hf.symm _)
    refine Bm.pos (decide_eq_true hi) ?_
    by_cases hi2 : i < 4398046511104
    rotate_left
    · exact stop _ (decide_eq_false hi2) _
    rw [decide_eq_true hi2]
    refine b2_ok hs i0 hi hi2 (by omega) (by omega) hI fun {w9 idv x s nb nl nc} h9 => ⟨(n - (i + 1)).toNat, by omega, rfl, rfl, rfl, rfl, rfl, rfl, rfl, rfl, by omega, by omega, by omega, rfl, x, s, rfl, rfl, ?_⟩
    rw [show 12 * (i + 1) = 12 * i + 12 by omega]
    exact h9
  refine Bm.mk (fun _ => ?_) (fun _ => main w9 hI9)
  exact LdP.mk hI9.mc.ob rfl (LdP.mk hI9.mc.ob rfl (wSeen_ok (D := freshDisk) hI9.sd.rest hI9.sd.mrest hI9.sd.ok fun w10 he10 => Bm.neg rfl (main w10 (hI9.ext0 he10))))
theorem refines_law {w : World} {sb : Option Addr} {n c : Nat} {ops : Nat → OpV} (hs : ScriptIs w sb n ops) {R : Bool → World → Prop} (hR : ∀ w', Ext [] w w' → R true w') : synclaw_Refines.Call sb n c w R := by
  apply synclaw_Refines.sound
  unfold synclaw_Refines.B0
  apply synclaw_RefinesUpTo.sound
  unfold synclaw_RefinesUpTo.B0
  exact walk_ok hs fun m w' he => hR w' he
theorem refinesSteady_law {w : World} {sb : Option Addr} {n c : Nat} {ops : Nat → OpV} (hs : ScriptIs w sb n ops) {R : Bool → World → Prop} (hR : ∀ w', Ext [] w w' → R true w') : synclaw_RefinesSteady.Call sb n c w R := by
  apply synclaw_RefinesSteady.sound
  unfold synclaw_RefinesSteady.B0
  exact walk_ok hs fun m w' he => hR w' he
theorem refinesQuiet_law {w : World} {sb : Option Addr} {n c : Nat} {ops : Nat → OpV} (hs : ScriptIs w sb n ops) {R : Bool → World → Prop} (hR : ∀ w', Ext [] w w' → R true w') : synclaw_RefinesQuiet.Call sb n c w R := by
  apply synclaw_RefinesQuiet.sound
  unfold synclaw_RefinesQuiet.B0
  exact walk_ok hs fun m w' he => hR w' he
end Go.Proofs.Qxb6500433aGreat
