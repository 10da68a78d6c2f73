/-
  synclaw: the plays.
-/
import Derived.Test.Qxb6500433aGreatSyU
set_option linter.unusedVariables false
set_option linter.unusedSimpArgs false
open Go.Vc
namespace Go.Proofs.Qxb6500433aGreat
section
variable {w w1 w2 w' : World} {x l t d e : Nat} {D : DiskS} {F : List Nat} {A : AbsS} {s q me : Nat} {M : MSt} {Y Y' : YS} {L0 : LogS} {S S' : List LogS} {N : Int} {lo : Nat}
/-- Only blocks from lo on are changed. -/
def Above (lo : Nat) (w w' : World) : Prop := ∃ Z, Ext Z w w' ∧ ∀ k ∈ Z, lo ≤ k
theorem Above.of0 {lo : Nat} {w w' : World} (he : Ext [] w w') : Above lo w w' := ⟨[], he, fun k hk => by cases hk⟩
theorem Above.of {lo : Nat} {w w' : World} {Z : List Nat} (he : Ext Z w w') (hz : ∀ k ∈ Z, lo ≤ k) : Above lo w w' := ⟨Z, he, hz⟩
theorem Above.trans {lo : Nat} {w w' w'' : World} (h : Above lo w w') (h' : Above lo w' w'') : Above lo w w'' := by
  obtain ⟨Z, e, z⟩ := h
  obtain ⟨Z', e', z'⟩ := h'
  refine ⟨Z ++ Z', (e.mono fun k hk _ => List.mem_append.2 (.inl hk)).trans (e'.mono fun k hk _ => List.mem_append.2 (.inr hk)), fun k hk => ?_⟩
  rcases List.mem_append.1 hk with y | y
  · exact z k y
  · exact z' k y
theorem Above.base {w0 w w' : World} (h : Ext [] w0 w) (ha : Above w0.heap.size w w') : Ext [] w0 w' := by
  obtain ⟨Z, e, z⟩ := ha
  exact h.trans' e (fun k hk hl => by have := z k hk; omega)
theorem Sides.above (h : Sides w x l t d e D F A s q me M Y Y.L [] N lo) (hr : Ev w x l t d e D F N Y.L w1 Y' [] S') (hm : Mv w1 s q me M Y.L w2 Y' S') : Above lo w w2 := by
  obtain ⟨bx, hx, _⟩ := hr
  obtain ⟨M', hm'⟩ := hm
  refine (Above.of hx.ext fun k hk => h.ge k ?_).trans (Above.of hm'.ext fun k hk => h.ge k ?_)
  · simp only [sfoot, List.mem_cons, List.mem_append] at hk ⊢
    rcases hk with ee | ee | ee | ee | ee <;> simp [ee]
  · simp only [sfoot, List.mem_cons, List.mem_append] at hk ⊢
    rcases hk with ee | ee | ee <;> simp [ee]
theorem Sides.event (h : Sides w x l t d e D F A s q me M Y Y.L [] N lo) (hlog : D.log = []) (hlo : lo ≤ w.heap.size) (hr : Ev w x l t d e D F N Y.L w1 Y' [] S') (x1 : ExtT w w1 CT) (hm : Mv w1 s q me M Y.L w2 Y' S') (x2 : ExtT w1 w2 MT) (hok : YsOk Y') (haok : AllOk S') (hlen : S'.length ≤ 12) :
    ∃ D' F' A' M', Sides w2 x l t d e D' F' A' s q me M' Y' Y.L S' (N + (S'.length : Int)) lo ∧ (M'.H = [] → D'.log = []) := by
  obtain ⟨D', F', A', r, p, ql, g, z⟩ := hr.rest
  obtain ⟨M', m1, mA0, mH, mg, me'⟩ := hm.rest
  have hz := x1.size
  have hfin : Y'.L = finL Y.L S' := by
    obtain ⟨bx, hx, _⟩ := hr
    exact hx.fin
  have hMH : M.H = [] := List.eq_nil_of_length_eq_zero (by have := h.hlen; simpa using this)
  have mH' : M'.H.map (·.2) = S'.map gs := by rw [mH, hMH]; rfl
  refine ⟨D', F', A', M', ⟨r.extT x2 (by decide), m1, hok, p, hfin, by rw [mA0, h.A0], mH', fun X hX => ?_, by rw [hlog] at ql; simp at ql; omega, hlen, fun k hk => ?_⟩, fun hH => ?_⟩
  · rcases List.mem_cons.1 hX with ee | ee
    · rw [ee]; exact h.ok.L
    · exact haok X ee
  · have old : ∀ k', k' ∈ sfoot x l t e F s q me M → lo ≤ k' := h.ge
    simp only [sfoot, List.mem_cons, List.mem_append] at hk old
    rcases hk with ee | ee | ee | ee | ee | ee | ee | ee
    · exact old k (by simp [ee])
    · exact old k (by simp [ee])
    · exact old k (by simp [ee])
    · exact old k (by simp [ee])
    · rcases g k ee with y | y
      · exact old k (by simp [y])
      · omega
    · exact old k (by simp [ee])
    · exact old k (by simp [ee])
    · rcases mg k ee with y | y
      · exact old k (by simp [y])
      · omega
  · have : S' = [] := by
      rw [hH] at mH'
      cases S' with
      | nil => rfl
      | cons a b => cases mH'
    rw [z this, hlog]
theorem Sides.mv1 (h : Sides w x l t d e D F A s q me M Y Y.L [] N lo) (x1 : ExtT w w1 CT) : Mv w1 s q me M Y.L w1 Y [] := (h.mrest.extT x1 (by decide)).mv h.ok.L
/-- What an event leaves. -/
structure Done (w w' : World) (x l t d e : Nat) (s q me : Nat) (Y' : YS) (L0 : LogS) (S' : List LogS) (N : Int) (lo : Nat) (xb yb : Option Addr) (xc yc mid : Nat) (EX EM : List ME) : Prop where
  sides : ∃ D' F' A' M', Sides w' x l t d e D' F' A' s q me M' Y' L0 S' N lo ∧ (M'.H = [] → D'.log = [])
  mx : ML w' xb EX.length xc w.heap.size EX
  mm : ML w' yb EM.length yc mid EM
  same : EX.map (·.1) = EM.map (·.1)
  ent : ∀ y ∈ EX, EntOk y.1
  len : EX.length ≤ 3
  lt : ∀ k, k ∈ rowBlk xb ∨ k ∈ EB EX → k < mid
  mid : w.heap.size ≤ mid
  ext : ExtT w w' SideT
  fr : Above lo w w'
abbrev RS := Option Addr → Nat → Nat → Option Addr → Nat → Nat → Bool → World → Prop
theorem lawEnd {wa w3 : World} {xb yb : Option Addr} {xc yc mid b4 : Nat} {EX EM : List ME} {R : RS} (hs : ∃ D' F' A' M', Sides w3 x l t d e D' F' A' s q me M' Y' L0 S' N lo ∧ (M'.H = [] → D'.log = [])) (mx : ML w3 xb EX.length xc wa.heap.size EX) (mm : ML w3 yb EM.length yc mid EM) (same : EX.map (·.1) = EM.map (·.1)) (ent : ∀ y ∈ EX, EntOk y.1) (len : EX.length ≤ 3) (lt : ∀ k, k ∈ rowBlk xb ∨ k ∈ EB EX → k < mid) (hmid : wa.heap.size ≤ mid) (ext : ExtT wa w3 SideT) (hlo : lo ≤ wa.heap.size) (hfr : Above lo wa w3) (ob : Own w3 b4 #[.slice none 0 0, .slice none 0 0] T_synclaw_Sent) (hb4 : wa.heap.size ≤ b4)
    (hR : ∀ w', Done wa w' x l t d e s q me Y' L0 S' N lo xb yb xc yc mid EX EM → R xb EX.length xc yb EM.length yc true w') :
    synclaw_Apart.Call xb EX.length xc w3 fun r14 w4 => Bm (!r14) (Sts [.slice xb EX.length xc, .slice yb EM.length yc] ⟨b4, 0, none⟩ 0 w4 fun w5 => LdL ⟨b4, 0, none⟩ w5 fun r_0_b r_0_l r_0_c => LdL ⟨b4, 1, none⟩ w5 fun r_1_b r_1_l r_1_c => R r_0_b r_0_l r_0_c r_1_b r_1_l r_1_c false w5)
      (synclaw_SameMsgs.Call xb EX.length xc yb EM.length yc w4 fun r21 w6 => Sts [.slice xb EX.length xc, .slice yb EM.length yc] ⟨b4, 0, none⟩ 0 w6 fun w7 => LdL ⟨b4, 0, none⟩ w7 fun r_0_b_1 r_0_l_1 r_0_c_1 => LdL ⟨b4, 1, none⟩ w7 fun r_1_b_1 r_1_l_1 r_1_c_1 => R r_0_b_1 r_0_l_1 r_0_c_1 r_1_b_1 r_1_l_1 r_1_c_1 r21 w7) := by
  refine apart_ok mx (by omega) ent fun w4 mx4 he4 => ?_
  have t4 : Tys w3 (EB EX) [T_api_Entry] := fun k hk _ => by
    obtain ⟨y, hy, hk2⟩ := mem_EB.1 hk
    obtain ⟨cs, ho⟩ := Row.ty (mx.bd.dat y hy) hk2
    exact ⟨cs, _, ho, by simp⟩
  have ge4 : ∀ k ∈ EB EX, wa.heap.size ≤ k := fun k hk => by
    obtain ⟨y, hy, hk2⟩ := mem_EB.1 hk
    exact mx.bd.ge y hy k hk2
  have mm4 : ML w4 yb EM.length yc mid EM := by
    refine ⟨rowT mm.row he4 t4 (by decide), mm.bd.ext he4 (fun y hy k hk hx => ?_), mm.blk⟩
    have h1 := lt k (.inr hx)
    have h2 := mm.bd.ge y hy k hk
    omega
  refine Bm.neg rfl (sameMsgs_ok mx4 mm4 same (by omega) (fun y hy => by have := (ent y hy).1; omega) fun w6 he6 => ?_)
  have ob6 := he6.own (ownT he4 t4 ob (by decide)) (by simp)
  refine Sts.full ob6 rfl rfl fun w7 hs7 o7 he7 => LdL.mk o7 rfl (LdL.mk o7 rfl (hR w7 ?_))
  have x37 : ExtT w3 w7 [T_api_Entry, T_synclaw_Sent] := (((ExtT.of he4 t4).mono (by simp)).trans (ExtT.nil he6 _)).trans ((ExtT.of he7 (Tys.one ob6)).mono (by simp))
  obtain ⟨D', F', A', M', sd, id⟩ := hs
  have t7 := Tys.one ob6
  refine ⟨⟨D', F', A', M', sd.extT x37 (by decide), id⟩, (mx4.ext0 he6).extT (ExtT.of he7 t7) (by decide) (by decide), (mm4.ext0 he6).extT (ExtT.of he7 t7) (by decide) (by decide), same, ent, len, lt, hmid, ?_, ((hfr.trans (Above.of he4 fun k hk => by have := ge4 k hk; omega)).trans (Above.of0 he6)).trans (Above.of he7 fun k hk => by simp at hk; omega)⟩
  obtain ⟨Z, hz, hzt⟩ := ext
  exact ⟨Z, ((hz.trans' he4 (fun y hy hl => by have := ge4 y hy; omega)).trans he6.nil).trans' he7 (fun y hy hl => by simp at hy; omega), hzt⟩
theorem wTick_ok {R : RS} (h : Sides w x l t d e D F A s q me M Y Y.L [] N lo) (hlog : D.log = []) (hN : N + 1 ≤ 4611686018427387904) (hlo : lo ≤ w.heap.size)
    (hR : ∀ xb yb xc yc mid EX EM w', Done w w' x l t d e s q me (tickY Y).Y Y.L (tickY Y).S (N + ((tickY Y).S.length : Int)) lo xb yb xc yc mid EX EM → R xb EX.length xc yb EM.length yc true w') : synclaw_SameTick.Call (some ⟨x, 0, none⟩) (some ⟨s, 0, none⟩) w R := by
  apply synclaw_SameTick.sound
  unfold synclaw_SameTick.B0
  refine New.mk fun b4 w1 hb4 hs1 ob he1 => ?_
  have h1 := h.ext0 he1
  have z1 := he1.size
  have hMH : M.H = [] := List.eq_nil_of_length_eq_zero (by have := h.hlen; simpa using this)
  refine tick_ok (h1.rest.ev h1.path) h1.ok hN (by rw [hlog]; simp) fun xb xc EX w2 hEX mx hxc hlx ev2 x2 => ?_
  refine mtick_ok (h1.mv1 x2) h1.ok (by rw [hMH]; simp) fun yb yc EM w3 hEM mm hly mv3 x3 => ?_
  obtain ⟨ok', aok'⟩ := tick_inv h.ok
  have hsl : (tickY Y).S.length ≤ 12 := by
    have := persS_len { Y with e := (El.tickF Y.e).2 }
    show (persS { Y with e := (El.tickF Y.e).2 }).length ≤ 12
    omega
  have sd := h1.event hlog (by omega) ev2 x2 mv3 x3 ok' aok' hsl
  have ob3 := x3.own (x2.own ob (by decide)) (by decide)
  have mx3 := mx.extT x3 (by decide) (by decide)
  have mx3' : ML w3 xb EX.length xc w.heap.size EX := ⟨mx3.row, ⟨mx3.bd.dat, mx3.bd.apart, fun y hy k hk => by have := mx3.bd.ge y hy k hk; omega⟩, fun k hk => by have := mx3.blk k hk; omega⟩
  refine lawEnd sd mx3' mm (by rw [hEX, hEM]) (fun y hy => tick_ent h.ok y.1 (by rw [← hEX]; exact List.mem_map.2 ⟨y, hy, rfl⟩)) hlx (fun k hk => ?_) (by have := x2.size; omega) ?_ hlo ((Above.of0 he1).trans (h1.above ev2 mv3)) ob3 (by omega) fun w' dn => hR xb yb xc yc _ EX EM w' dn
  · rcases hk with z | z
    · exact mx.row.lt k z
    · obtain ⟨y, hy, hk2⟩ := mem_EB.1 z
      exact mx.elt hy hk2
  · exact ((ExtT.nil he1 _).trans (x2.mono (fun t ht => List.mem_append.2 (.inl ht)))).trans (x3.mono (fun t ht => List.mem_append.2 (.inr ht)))
theorem wStep_ok {m : MsgV} {rb : Option Addr} {rl rc : Nat} {R : RS} (h : Sides w x l t d e D F A s q me M Y Y.L [] N lo) (hlog : D.log = []) (hN : N + 1 ≤ 4611686018427387904) (hlo : lo ≤ w.heap.size) (hE : EA w rb rl rc m.ents) (hrl : rl ≤ 1000)
    (hR : ∀ xb yb xc yc mid EX EM w', Done w w' x l t d e s q me (stepY m Y).Y Y.L (stepY m Y).S (N + ((stepY m Y).S.length : Int)) lo xb yb xc yc mid EX EM → R xb EX.length xc yb EM.length yc true w') : synclaw_SameStep.Call (some ⟨x, 0, none⟩) (some ⟨s, 0, none⟩) m.kind m.fr m.to m.term m.idx m.lt m.cm m.ok rb rl rc m.data w R := by
  apply synclaw_SameStep.sound
  unfold synclaw_SameStep.B0
  refine New.mk fun rg w1 hrg hs1 org he1 => New.mk fun b6 w2 hb6 hs2 ob he2 => ?_
  have org2 : Own w2 rg (msgC m rb rl rc).toArray T_api_Msg := he2.own org (by simp)
  have E2 := he1.trans he2
  refine ldMsg org2 (copyMsg_ok (EA.ext0 hE E2) hrl fun k1 w3 hk1 ea1 he3 => NewSet.mk rfl rfl fun mn w5 hmn hs5 omn he5 => ?_)
  have E5 := (E2.trans he3).trans he5
  have org5 := (he3.trans he5).own org2 (by simp)
  refine ldMsg org5 (copyMsg_ok (EA.ext0 hE E5) hrl fun k2 w6 hk2 ea2 he6 => NewSet.mk rfl rfl fun ot w8 hot hs8 oot he8 => ?_)
  have E8 := (E5.trans he6).trans he8
  have e58 := he6.trans he8
  have omn8 : Own w8 mn (msgC m (some ⟨k1, 0, none⟩) rl rl).toArray T_api_Msg := e58.own omn (by simp)
  have oot8 : Own w8 ot (msgC m (some ⟨k2, 0, none⟩) rl rl).toArray T_api_Msg := oot
  have org8 := e58.own org5 (by simp)
  have ob8 := ((he3.trans he5).trans e58).own ob (by simp)
  have ea18 : EA w8 (some ⟨k1, 0, none⟩) rl rl m.ents := EA.ext0 ea1 (he5.trans e58)
  have ea28 : EA w8 (some ⟨k2, 0, none⟩) rl rl m.ents := EA.ext0 ea2 he8
  have h8 := h.ext0 E8
  have z8 := E8.size
  have hMH : M.H = [] := List.eq_nil_of_length_eq_zero (by have := h.hlen; simpa using this)
  refine ldMsg omn8 (step_ok (h8.rest.ev h8.path) h8.ok ea18 hrl hN (by rw [hlog]; simp) fun xb xc EX w9 hEX mx hxc hlx ev9 x9 => ?_)
  have oot9 := x9.own oot8 (by decide)
  have ea29 : EA w9 (some ⟨k2, 0, none⟩) rl rl m.ents := x9.row ea28 (by decide)
  refine ldMsg oot9 (mstep_ok (h8.mv1 x9) h8.ok ea29 hrl (by rw [hMH]; simp) fun yb yc EM w10 hEM mm hly mv10 x10 => ?_)
  obtain ⟨ok', aok'⟩ := step_inv (m := m) h.ok
  have sd := h8.event hlog (by omega) ev9 x9 mv10 x10 ok' aok' (step_len h.ok)
  have omn10 := x10.own (x9.own omn8 (by decide)) (by decide)
  have org10 := x10.own (x9.own org8 (by decide)) (by decide)
  have ob10 := x10.own (x9.own ob8 (by decide)) (by decide)
  have ea110 : EA w10 (some ⟨k1, 0, none⟩) rl rl m.ents := x10.row (x9.row ea18 (by decide)) (by decide)
  have earg10 : EA w10 rb rl rc m.ents := x10.row (x9.row (EA.ext0 hE E8) (by decide)) (by decide)
  refine ldMsg omn10 (ldMsg org10 (sameMsg_ok ea110 earg10 hrl fun w11 he11 => Bm.neg rfl ?_))
  have mx10 := (mx.extT x10 (by decide) (by decide)).ext0 he11
  have mx10' : ML w11 xb EX.length xc w.heap.size EX := ⟨mx10.row, ⟨mx10.bd.dat, mx10.bd.apart, fun y hy k hk => by have := mx10.bd.ge y hy k hk; omega⟩, fun k hk => by have := mx10.blk k hk; omega⟩
  obtain ⟨D', F', A', M', sd, idl⟩ := sd
  have sd11 : ∃ D' F' A' M', Sides w11 x l t d e D' F' A' s q me M' (stepY m Y).Y Y.L (stepY m Y).S (N + ((stepY m Y).S.length : Int)) lo ∧ (M'.H = [] → D'.log = []) := ⟨D', F', A', M', sd.ext0 he11, idl⟩
  refine lawEnd sd11 mx10' (mm.ext0 he11) (by rw [hEX, hEM]) (fun y hy => step_ent h.ok y.1 (by rw [← hEX]; exact List.mem_map.2 ⟨y, hy, rfl⟩)) hlx (fun k hk => ?_) (by have := x9.size; omega) ?_ hlo (((Above.of0 E8).trans (h8.above ev9 mv10)).trans (Above.of0 he11)) (he11.own ob10 (by simp)) (by omega) fun w' dn => hR xb yb xc yc _ EX EM w' dn
  · rcases hk with z | z
    · exact mx.row.lt k z
    · obtain ⟨y, hy, hk2⟩ := mem_EB.1 z
      exact mx.elt hy hk2
  · exact (((ExtT.nil E8 _).trans (x9.mono (fun t ht => List.mem_append.2 (.inl ht)))).trans (x10.mono (fun t ht => List.mem_append.2 (.inr ht)))).trans (ExtT.nil he11 _)
/-- A step that is no event. -/
theorem wPlay_ok {o0 o1 o2 o3 : Int} {o4 o5 : ByteArray} {R : Bool → World → Prop} (h : Sides w x l t d e D F A s q me M Y Y.L [] N lo) (hlog : D.log = []) (hN : N + 1 ≤ 4611686018427387904) (hlo : lo ≤ w.heap.size) (hi : -9223372036854775808 ≤ o1 ∧ o1 ≤ 9223372036854775807)
    (hR : ∀ Y' S' D' F' A' M' w', S'.length ≤ 12 → Sides w' x l t d e D' F' A' s q me M' Y' Y.L S' (N + 12) lo → (M'.H = [] → D'.log = []) → Y'.e.id = Y.e.id → ExtT w w' SideT → Above lo w w' → R true w') : synclaw_Play.Call (some ⟨x, 0, none⟩) (some ⟨s, 0, none⟩) o0 o1 o2 o3 o4 o5 w R := by
  apply synclaw_Play.sound
  unfold synclaw_Play.B0
  refine New.mk fun ob w1 hob hs1 oo he1 => ?_
  have h1 := h.ext0 he1
  have z1 := he1.size
  have hMH : M.H = [] := List.eq_nil_of_length_eq_zero (by have := h.hlen; simpa using this)
  have same : ∀ {wx : World}, Ext [] w1 wx → R true wx := fun {wx} he => hR Y [] D F A M wx (by simp) ((h1.ext0 he).mono (by omega)) (fun _ => hlog) rfl (ExtT.nil (he1.trans he) _) (Above.of0 (he1.trans he))
  refine LdI.mk oo rfl (Bm.mk (fun _ => LdS.mk oo rfl ?_) fun _ => Bm.mk (fun _ => LdI.mk oo rfl (LdS.mk oo rfl ?_)) fun _ => Bm.mk (fun _ => LdI.mk oo rfl ?_) fun _ => Bm.mk (fun _ => LdI.mk oo rfl ?_) fun _ => Bm.mk (fun _ => ?_) fun _ => Bm.mk (fun _ => ?_) fun _ => same (Ext.refl _ _))
  · -- Propose
    apply synclaw_SamePropose.sound
    unfold synclaw_SamePropose.B0
    refine propose_ok (h1.rest.ev h1.path) h1.ok (by rw [hlog]; simp) fun w2 ev2 x2 => mpropose_ok (h1.mv1 x2) (by rw [hMH]; simp) fun w3 mv3 x3 => ?_
    obtain ⟨ok', aok'⟩ := propose_inv (d := o4) h.ok
    have hl : (proposeY o4 Y).2.S.length ≤ 1 := by
      unfold proposeY
      repeat' split
      all_goals first | (simp; done) | exact len_append _ _ _
    obtain ⟨D', F', A', M', sd, idl⟩ := h1.event hlog (by omega) ev2 x2 mv3 x3 ok' aok' (by omega)
    refine Bm.pos (by simp) ?_
    rw [beq_self_eq_true]
    refine hR _ _ D' F' A' M' w3 (by omega) (sd.mono (by omega)) idl ?_ (((ExtT.nil he1 _).trans (x2.mono (fun t ht => List.mem_append.2 (.inl ht)))).trans (x3.mono (fun t ht => List.mem_append.2 (.inr ht)))) ((Above.of0 he1).trans (h1.above ev2 mv3))
    unfold proposeY
    repeat' split
    all_goals rfl
  · -- Compact
    apply synclaw_SameCompact.sound
    unfold synclaw_SameCompact.B0
    refine compact_ok (h1.rest.ev h1.path) hN (by rw [hlog]; simp) fun w2 ev2 x2 => mcompact_ok (h1.mv1 x2) (by rw [hMH]; simp) fun w3 mv3 x3 => ?_
    obtain ⟨ok', aok'⟩ := compact_inv (u := o1) (sn := o4) h.ok
    have hl : (compactY o1 o4 Y).2.S.length ≤ 1 := by
      unfold compactY
      split
      · simp
      · exact len_compact _ _ _
    obtain ⟨D', F', A', M', sd, idl⟩ := h1.event hlog (by omega) ev2 x2 mv3 x3 ok' aok' (by omega)
    rw [beq_self_eq_true]
    refine hR _ _ D' F' A' M' w3 (by omega) (sd.mono (by omega)) idl ?_ (((ExtT.nil he1 _).trans (x2.mono (fun t ht => List.mem_append.2 (.inl ht)))).trans (x3.mono (fun t ht => List.mem_append.2 (.inr ht)))) ((Above.of0 he1).trans (h1.above ev2 mv3))
    unfold compactY
    split <;> rfl
  · refine lawAt_ok h1.rest h1.mrest h1.ok.L hi fun xx w2 hx he2 => ?_
    rw [hx.2 rfl]
    exact same he2
  · refine lawTermAt_ok h1.rest h1.mrest h1.ok.L hi fun xx w2 hx he2 => ?_
    rw [hx.2 rfl]
    exact same he2
  · refine lawView_ok h1.rest h1.mrest h1.ok h1.ok.L fun xx w2 _ g2 he2 => ?_
    rw [g2 rfl]
    exact same he2
  · refine checkS_ok h1.rest h1.ok fun w2 he2 => ?_
    rw [estr_eq]
    exact same he2
end
end Go.Proofs.Qxb6500433aGreat
