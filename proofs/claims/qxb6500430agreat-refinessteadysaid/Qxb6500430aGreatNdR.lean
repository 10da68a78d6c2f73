/-
  nodelaw: the end of a step.
-/
import Derived.Test.Qxb6500430aGreatNdQ
set_option linter.unusedVariables false
set_option linter.unusedSimpArgs false
open Go.Vc
namespace Go.Proofs.Qxb6500430aGreat
open Kv
section
variable {w0 w w' : World} {N : Int} {ρ : MR} {ω ω' : WR} {idv : Int} {r : RR}
variable {sb : Option Addr} {n c : Nat} {steady quiet : Bool} {i : Int} {N1 : NW} {R : Int → Int → World → Prop}
/-- The op's block. -/
abbrev opC (op : OpV) : Array Value := #[.int .i64 op.k, .int .i64 op.a, .int .i64 op.b, .int .i64 op.c, .string op.s, .string op.t]
theorem b4_ok {o d' e' nl : Nat} {op : OpV} {cw cm : Array Value} (hi0 : 0 ≤ i ∧ i < 4398046511104) (sd : Sd w w0.heap.size N r) (hidle : r.M.H = [] → r.D.log = []) (mc : MemC w w0.heap.size r.d r.s idv ρ) (wn : Was w w0.heap.size ρ ω) (od : Own w d' (kdC ω.kx).toArray T_api_Did) (oe : Own w e' (kdC ω.ky).toArray T_api_Did) (ow : Own w ρ.ws cw T_api_Did) (hcw : cw.size = 3) (om : Own w ρ.wm cm T_api_Did) (hcm : cm.size = 3) (hew : e' ≠ ρ.ws) (oo : Own w o (opC op) T_api_Op) (hwf : op.Wf) (hid : r.n.Y.e.id = (El.newF idv).id) (hext : Ext [] w0 w) (hnl : ρ.K.length = nl)
    (hgo : ∀ {w9 : World} {p p2 : Nat} {nb : Option Addr} {nl nc : Nat}, LawE w0 ρ.bb ρ.ws ρ.wm N p p2 nb nl nc w9 → N1 sb n c steady quiet ρ.bb (some ⟨p, 0, none⟩) (some ⟨p2, 0, none⟩) ρ.ws ρ.wm nb nl nc (i + 1) w9) :
    nodelaw_walk.B4 sb n c steady quiet ρ.bb (some ⟨r.p, 0, none⟩) (some ⟨r.p2, 0, none⟩) ρ.ws ρ.wm ρ.nb nl ρ.nc i o d' e' w N1 R := by
  unfold nodelaw_walk.B4
  have e0 : Ext [] w w.drew := Ext.drew [] w
  have odd := e0.own od (by simp)
  have oed := e0.own oe (by simp)
  have owd := e0.own ow (by simp)
  have omd := e0.own om (by simp)
  refine LdI.mk odd rfl (LdL.mk odd rfl (LdL.mk odd rfl (LdI.mk oed rfl (LdL.mk oed rfl (LdL.mk oed rfl (Sts.full (vs := kdC ω.kx) owd (by rw [hcw]; rfl) rfl fun w1 hs1 ow1 he1 => ?_))))))
  have oe1 := he1.own oed (by simpa using hew)
  have om1 := he1.own omd (by simpa using fun q => mc.ne q.symm)
  refine ⟨oe1.cell rfl, oe1.cell rfl, oe1.cell rfl, Sts.full (vs := kdC ω.ky) om1 (by rw [hcm]; rfl) rfl fun w2 hs2 om2 he2 => ?_⟩
  have t1 := Tys.one owd
  have t2 := Tys.one om1
  have x1 : ExtT w.drew w1 [T_api_Did] := ExtT.of he1 t1
  have x2 : ExtT w1 w2 [T_api_Did] := ExtT.of he2 t2
  have X : ExtT w w2 [T_api_Did] := ((ExtT.nil e0 _).trans x1).trans x2
  have mcd := mc.ext0 e0
  have foot1 : ∀ y, y = ρ.ws ∨ y = ρ.wm → y < w.heap.size → ¬ ρ.foot y := fun y hy hl hf => by
    have oy : ∃ cs, Own w y cs T_api_Did := by
      rcases hy with q | q
      · exact ⟨_, q ▸ ow⟩
      · exact ⟨_, q ▸ om⟩
    obtain ⟨cs, oy⟩ := oy
    rcases hf with q | q | ⟨I, hI, q⟩
    · rw [q] at oy
      exact absurd (oy.unique mc.ob).2 (by decide)
    · rcases hy with z | z
      · exact mc.nws (z ▸ q)
      · exact mc.nwm (z ▸ q)
    · obtain ⟨cs', T, ho, hT⟩ := (mc.kp I hI).ty q
      rw [(ho.unique oy).2] at hT
      exact absurd hT (by decide)
  have E2 : Ext [ρ.ws, ρ.wm] w w2 := (e0.nil.trans (he1.mono fun y hy _ => by simp at hy; simp [hy])).trans (he2.mono fun y hy _ => by simp at hy; simp [hy])
  have mc2 : MemC w2 w0.heap.size r.d r.s idv ρ := mc.ext E2 fun y hy hl => foot1 y (by simpa using hy) hl
  have ow2 := he2.own ow1 (by simpa using mc.ne)
  have h2 : LawI w0 w2 N ρ ω idv r := ⟨sd.extT X (by decide), mc2, wn.extT X (by decide) (by decide), ow2, om2, hid, hext.trans' E2 (fun y hy hl => by
    have g1 := mc.gw
    have g2 := mc.gm
    simp at hy
    omega)⟩
  have oo2 : Own w2 o (opC op) T_api_Op := X.own oo (by decide)
  refine LdI.mk oo2 rfl (LdI.mk oo2 rfl (LdI.mk oo2 rfl (LdI.mk oo2 rfl (LdS.mk oo2 rfl (LdS.mk oo2 rfl (look_ok h2.sd.re h2.sd.mo h2.sd.ok hwf fun w3 he3 => Bm.neg rfl ?_))))))
  have h3 := h2.ext0 he3
  refine LdP.mk h3.mc.ob rfl (LdP.mk h3.mc.ob rfl (LdI.mk h3.mc.ob rfl (gIdle_ok h3.sd.re.sm.rest.real.st.dk h3.sd.mo hidle fun w4 he4 => Bm.neg rfl ?_)))
  have h4 := h3.ext0 he4
  refine LdP.mk h4.mc.ob rfl (LdP.mk h4.mc.ob rfl (LdI.mk h4.mc.ob rfl (gSteps_ok h4.sd.re.sm.rest.real.st.dk fun w5 he5 => ?_)))
  have h5 := h4.ext0 he5
  have go : ∀ {w9 : World} {tt : Bool}, tt = false → LawI w0 w9 N ρ ω idv r → nodelaw_walk.B7 sb n c steady quiet ρ.bb (some ⟨r.p, 0, none⟩) (some ⟨r.p2, 0, none⟩) ρ.ws ρ.wm ρ.nb nl ρ.nc i tt w9 N1 R := fun {w9 tt} htt h9 => by
    unfold nodelaw_walk.B7
    refine Bm.neg htt ?_
    unfold nodelaw_walk.B6
    rw [w64 (by omega) (by omega)]
    exact hgo ⟨ρ, ω, idv, r, rfl, rfl, rfl, rfl, hnl, rfl, rfl, rfl, h9⟩
  refine Bm.mk (fun _ => ?_) fun _ => go rfl h5
  have oo5 := ((he3.trans he4).trans he5).own oo2 (by simp)
  exact LdP.mk h5.mc.ob rfl (LdP.mk h5.mc.ob rfl (LdI.mk h5.mc.ob rfl (LdS.mk oo5 rfl (gSeen_ok h5.sd.re h5.sd.mo h5.sd.ok fun w6 he6 => go rfl (h5.ext0 he6)))))
theorem Row.short {b : Option Addr} {l l' c sz : Nat} {T : TypeId} {vs : List Value} (h : Row w b l c sz T vs) (hl : l' ≤ l) : Row w b l' c sz T (vs.take (l' * sz)) := by
  have hm : l' * sz ≤ l * sz := Nat.mul_le_mul_right _ hl
  refine ⟨by rw [List.length_take, h.1]; omega, Nat.le_trans hl h.2.1, ?_⟩
  rcases h.2.2 with z | ⟨k, cs, hb, ho, hs, ht⟩
  · exact .inl z
  · refine .inr ⟨k, cs, hb, ho, hs, ?_⟩
    rw [← ht, List.take_take, Nat.min_eq_left hm]
/-- The stamped lists are kept. -/
theorem keep_ok {I : KD} {o d' e' : Nat} {op : OpV} {cm : Array Value} (hi0 : 0 ≤ i ∧ i < 4398046511104) (sd : Sd w w0.heap.size N r) (hidle : r.M.H = [] → r.D.log = []) (mc : MemC w w0.heap.size r.d r.s idv ρ) (wn : Was w w0.heap.size ρ ω) (od : Own w d' (kdC ω.kx).toArray T_api_Did) (oe : Own w e' (kdC ω.ky).toArray T_api_Did) (ow : Own w ρ.ws (kdC I).toArray T_api_Did) (om : Own w ρ.wm cm T_api_Did) (hcm : cm.size = 3) (hew : e' ≠ ρ.ws) (hdn : d' ∉ rowBlk ρ.nb) (hen : e' ∉ rowBlk ρ.nb) (oo : Own w o (opC op) T_api_Op) (hwf : op.Wf) (hid : r.n.Y.e.id = (El.newF idv).id) (hext : Ext [] w0 w)
    (hI : KpAt w I) (hIg : ∀ k, I.foot k → w0.heap.size ≤ k) (hIw : ∀ k, ω.kx.foot k → ¬ I.foot k)
    (hgo : ∀ {w9 : World} {p p2 : Nat} {nb : Option Addr} {nl nc : Nat}, LawE w0 ρ.bb ρ.ws ρ.wm N p p2 nb nl nc w9 → N1 sb n c steady quiet ρ.bb (some ⟨p, 0, none⟩) (some ⟨p2, 0, none⟩) ρ.ws ρ.wm nb nl nc (i + 1) w9) :
    Bm (decide ((ρ.K.length : Int) ≥ 8)) (nodelaw_walk.L2 sb n c steady quiet ρ.bb (some ⟨r.p, 0, none⟩) (some ⟨r.p2, 0, none⟩) ρ.ws ρ.wm ρ.nb ρ.K.length ρ.nc i o d' e' 0 w N1 R)
      (LdI .i64 ⟨ρ.ws, 0, none⟩ w fun x158_0 => LdL ⟨ρ.ws, 1, none⟩ w fun x158_1_b x158_1_l x158_1_c => LdL ⟨ρ.ws, 2, none⟩ w fun x158_2_b x158_2_l x158_2_c => New (.cells #[.int .i64 x158_0, .slice x158_1_b x158_1_l x158_1_c, .slice x158_2_b x158_2_l x158_2_c] T_api_Did) w fun b159 w22 => Append T_api_Did (.agg #[.int .i64 (0 : Int), .slice none 0 0, .slice none 0 0]) 3 56 ρ.nb ρ.K.length ρ.nc (some ⟨b159, 0, none⟩) 1 w22 fun b160 c160 w23 => nodelaw_walk.B4 sb n c steady quiet ρ.bb (some ⟨r.p, 0, none⟩) (some ⟨r.p2, 0, none⟩) ρ.ws ρ.wm b160 (ρ.K.length + 1) c160 i o d' e' w23 N1 R) := by
  have kl := mc.kl
  have hz := hext.size
  have ewl := ow.lt
  have eml := om.lt
  -- behind the append
  have fin : ∀ {w6 w7 : World} {K0 : List KD} {nb' : Option Addr} {nc' nl : Nat}, Ext (rowBlk ρ.nb) w w6 → (∀ J ∈ K0, J ∈ ρ.K) → K0.length ≤ 7 → nl = K0.length + 1 → Row w7 nb' (K0.length + 1) nc' 3 T_api_Did ((K0 ++ [I]).flatMap kdC) → Ext (rowBlk ρ.nb) w6 w7 → (∀ y ∈ rowBlk nb', y ∈ rowBlk ρ.nb ∨ w6.heap.size ≤ y) → nodelaw_walk.B4 sb n c steady quiet ρ.bb (some ⟨r.p, 0, none⟩) (some ⟨r.p2, 0, none⟩) ρ.ws ρ.wm nb' nl nc' i o d' e' w7 N1 R := fun {w6 w7 K0 nb' nc' nl} he6 hsub hk7 hnl hr he7 hnb => by
    have E7 : Ext (rowBlk ρ.nb) w w7 := he6.trans he7
    have t := Tys.row mc.nrow
    have x7 : ExtT w w7 [T_api_Did] := ExtT.of E7 t
    have z6 := he6.size
    have mc7 : MemC w7 w0.heap.size r.d r.s idv { ρ with nb := nb', nc := nc', K := K0 ++ [I] } := mc.push (I := I) E7 (fun J hJ => by
      rcases List.mem_append.1 hJ with z | z
      · exact .inl (hsub J z)
      · simp at z; exact .inr z) hI hIg (by simpa using hr) (by simp; omega) (fun y hy => by
      rcases hnb y hy with z | z
      · exact .inl z
      · exact .inr (by omega)) (by omega) ewl eml
    have wn7 := wn.extT x7 (by decide) (by decide)
    have wn7' : Was w7 w0.heap.size { ρ with nb := nb', nc := nc', K := K0 ++ [I] } ω := ⟨wn7.mx, wn7.my, wn7.ol, wn7.rl, fun y hy hkb => by
      obtain ⟨J, hJ, hf⟩ := hkb
      rcases List.mem_append.1 hJ with z | z
      · exact wn7.dx y hy ⟨J, hsub J z, hf⟩
      · simp at z; subst z; exact hIw y hy hf⟩
    exact b4_ok (ρ := { ρ with nb := nb', nc := nc', K := K0 ++ [I] }) (nl := nl) hi0 (sd.extT x7 (by decide)) hidle mc7 wn7' (E7.own od hdn) (E7.own oe hen) (E7.own ow mc.nws) rfl (E7.own om mc.nwm) hcm hew (x7.own oo (by decide)) hwf hid (hext.trans' E7 (fun y hy hl => by have := mc.ge y (.inr (.inl hy)); omega)) (by simp; omega) hgo
  refine Bm.ite (fun h8 => ?_) fun h8 => ?_
  rotate_left
  · refine LdI.mk ow rfl (LdL.mk ow rfl (LdL.mk ow rfl (New.mk fun nbk w6 hnbk hs6 on6 he6 => ?_)))
    have row6 := Row.ext mc.nrow he6 (fun _ _ z => by cases z)
    refine Vc.Append.mk (e := T_api_Did) (news := kdC I) row6 (CellsAt.own on6 (fun j v hj => by simpa [kdC] using hj)) rfl rfl rfl (by omega) (by omega) fun b' c' w7 hr he7 hb7 => ?_
    exact fin (w6 := w6) (K0 := ρ.K) he6.nil (fun J hJ => hJ) (by omega) rfl (by rw [List.flatMap_append]; simpa using hr) he7 (fun y hy => (hb7 y hy).imp id (fun z => z.1))
  · -- the oldest is let go
    have hK8 : ρ.K.length = 8 := by omega
    unfold nodelaw_walk.L2
    refine ⟨fun mm sb' n' c' st' qu' b' x' m' ws' wm' nb' nl' nc' i' o' d'' e'' j w' => ∃ p : Nat, p ≤ 7 ∧ mm = 7 - p ∧ sb = sb' ∧ n = n' ∧ c = c' ∧ steady = st' ∧ quiet = qu' ∧ ρ.bb = b' ∧ some ⟨r.p, 0, none⟩ = x' ∧ some ⟨r.p2, 0, none⟩ = m' ∧ ρ.ws = ws' ∧ ρ.wm = wm' ∧ ρ.nb = nb' ∧ ρ.K.length = nl' ∧ ρ.nc = nc' ∧ i = i' ∧ o = o' ∧ d' = d'' ∧ e' = e'' ∧ j = (p : Int) ∧ Row w' ρ.nb ρ.K.length ρ.nc 3 T_api_Did ((ρ.K.tail.take p ++ ρ.K.drop p).flatMap kdC) ∧ Ext (rowBlk ρ.nb) w w', _,
      ⟨0, by omega, rfl, rfl, rfl, rfl, rfl, rfl, rfl, rfl, rfl, rfl, rfl, rfl, rfl, rfl, rfl, rfl, rfl, rfl, rfl, by simpa using mc.nrow, Ext.refl _ _⟩, ?_⟩
    rintro mm sb' n' c' st' qu' b' x' m' ws' wm' nb' nl' nc' i' o' d'' e'' j w1 ⟨p, hp, rfl, rfl, rfl, rfl, rfl, rfl, rfl, rfl, rfl, rfl, rfl, rfl, rfl, rfl, rfl, rfl, rfl, rfl, rfl, row1, he1⟩
    unfold nodelaw_walk.L2b
    have ew : IntKind.i64.wrap ((p : Int) + 1) = ((p + 1 : Nat) : Int) := by rw [w64 (by omega) (by omega)]; omega
    rw [ew]
    have htl : ρ.K.tail.length = 7 := by simp; omega
    have hlen : (ρ.K.tail.take p ++ ρ.K.drop p).length = 8 := by simp; omega
    refine Bm.ite (fun hlt => ?_) fun hge => ?_
    · obtain ⟨J, hJ⟩ := get_lt' (L := ρ.K) (n := p + 1) (by omega)
      have hJ1 : (ρ.K.tail.take p ++ ρ.K.drop p)[p + 1]? = some J := by
        rw [List.getElem?_append_right (by simp; omega)]
        simp only [List.length_take, htl]
        rw [show min p 7 = p by omega, show p + 1 - p = 1 by omega, List.getElem?_drop]
        exact hJ
      obtain ⟨kk, ek, cs, ho, g⟩ := row_fl row1 kdC_len (by omega) hJ1 (by omega)
      refine pnOf ek ⟨⟨by omega, by omega⟩, ?_⟩
      rw [Int.toNat_natCast, add_mk, add_mk, add_mk, Nat.zero_add]
      refine LdI.mk ho (g 0 (by omega)) (LdL.mk ho (g 1 (by omega)) (LdL.mk ho (g 2 (by omega)) ?_))
      refine rowPutN (x' := J) row1 kdC_len (by omega) (by omega) rfl fun k2 w2 ek2 hs2 row2 he2 => ?_
      have hset : (ρ.K.tail.take p ++ ρ.K.drop p).set p J = ρ.K.tail.take (p + 1) ++ ρ.K.drop (p + 1) := by
        have hdp : ρ.K.drop p = ρ.K[p]'(by omega) :: ρ.K.drop (p + 1) := List.drop_eq_getElem_cons (by omega)
        rw [List.set_append_right _ _ (by simp; omega)]
        simp only [List.length_take, htl]
        rw [show p - min p 7 = 0 by omega, hdp, List.set_cons_zero]
        have : ρ.K.tail[p]? = some J := by rw [List.getElem?_tail]; exact hJ
        rw [take_succ' this, List.append_assoc]
        rfl
      rw [hset] at row2
      exact ⟨7 - (p + 1), by omega, p + 1, by omega, rfl, rfl, rfl, rfl, rfl, rfl, rfl, rfl, rfl, rfl, rfl, rfl, rfl, rfl, rfl, rfl, rfl, rfl, rfl, row2, he1.trans (he2.mono fun y hy _ => by simp at hy; rw [hy, ek2]; simp [rowBlk])⟩
    · have hp7 : p = 7 := by omega
      subst hp7
      have e1 : IntKind.i64.wrap ((ρ.K.length : Int) - 1) = ((7 : Nat) : Int) := by rw [w64 (by omega) (by omega)]; omega
      rw [e1, slB0]
      have hrc := mc.nrow.2.1
      have hs1 := he1.size
      have ow1 := he1.own ow mc.nws
      refine ⟨⟨by omega, by omega⟩, LdI.mk ow1 rfl (LdL.mk ow1 rfl (LdL.mk ow1 rfl (New.mk fun nbk w6 hnbk hs6 on6 he6 => ?_)))⟩
      have row6 : Row w6 ρ.nb 7 ρ.nc 3 T_api_Did (ρ.K.tail.flatMap kdC) := by
        have r7 := Row.short (l' := 7) (Row.ext row1 he6 (fun _ _ z => by cases z)) (by omega)
        have ht7 : ρ.K.tail.take 7 = ρ.K.tail := List.take_of_length_le (by omega)
        rw [ht7, List.flatMap_append, List.take_append_of_le_length (by rw [flat_length kdC_len, htl]; omega), List.take_of_length_le (by rw [flat_length kdC_len, htl]; omega)] at r7
        exact r7
      show Append T_api_Did _ 3 56 ρ.nb (((7 : Nat) : Int).toNat - ((0 : Nat) : Int).toNat) ((ρ.nc : Int).toNat - ((0 : Nat) : Int).toNat) _ 1 w6 _
      simp only [Int.toNat_natCast, Nat.sub_zero]
      refine Vc.Append.mk (e := T_api_Did) (news := kdC I) row6 (CellsAt.own on6 (fun j v hj => by simpa [kdC] using hj)) rfl rfl rfl (by omega) (by omega) fun b' c' w7 hr he7 hb7 => ?_
      have hr' : Row w7 b' (ρ.K.tail.length + 1) c' 3 T_api_Did ((ρ.K.tail ++ [I]).flatMap kdC) := by rw [htl, List.flatMap_append]; simpa using hr
      exact fin (w6 := w6) (K0 := ρ.K.tail) (he1.trans he6.nil) (fun J hJ => List.mem_of_mem_tail hJ) (by omega) (by rw [htl]) hr' he7 (fun y hy => (hb7 y hy).imp id (fun z => z.1))
end
end Go.Proofs.Qxb6500430aGreat
