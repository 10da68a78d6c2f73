/-
  synclaw: New, Tick, Step in the walk.
-/
import Derived.Test.Qxb6500433aGreatSyZA
set_option linter.unusedVariables false
set_option linter.unusedSimpArgs false
open Go.Vc
namespace Go.Proofs.Qxb6500433aGreat
section
variable {w0 w w' : World} {N : Int} {ρ : MR} {ω ω' : WR} {idv : Int} {x l t d e : Nat} {D : DiskS} {F : List Nat} {A : AbsS} {s q me : Nat} {M : MSt} {Y Y' : YS} {L1 : LogS} {S S' : List LogS} {lo : Nat}
variable {sb : Option Addr} {n c : Nat} {steady quiet : Bool} {i : Int} {N1 : NW} {R : Int → Int → World → Prop}
theorem kNew_ok {now o : Nat} {op : OpV} (hi0 : 0 ≤ i ∧ i < 4398046511104) (hN0 : 0 ≤ N) (h : LawI w0 w N ρ ω idv x l t d e D F A s q me M Y L1 S)
    (oo : Own w o #[.int .i64 op.k, .int .i64 op.a, .int .i64 op.b, .int .i64 op.c, .string op.s, .string op.t] T_api_Op)
    (hgo : ∀ {w9 : World} {idv : Int} {x s : Nat} {nb : Option Addr} {nl nc : Nat}, LawE w0 ρ.bb ρ.rg ρ.ws (N + 12) idv x s nb nl nc w9 → N1 sb n c steady quiet idv ρ.bb (some ⟨x, 0, none⟩) (some ⟨s, 0, none⟩) ρ.rg ρ.ws nb nl nc (i + 1) w9) :
    LdI .i64 ⟨o, 1, none⟩ w fun x164 => synclaw_Ground.Call w fun r165_0 r165_1 w21 => Sts [.pointer r165_0, .pointer r165_1] ⟨ρ.bb, 0, none⟩ 0 w21 fun w22 => elect_New.Call x164 w22 fun r167 w23 => LdP ⟨ρ.bb, 1, none⟩ w23 fun x169 => sync_New.Call x169 r167 w23 fun r171 w24 => syncm_New.Call x164 w24 fun r173 w25 =>
      synclaw_walk.B5 sb n c steady quiet x164 ρ.bb r171 r173 ρ.rg ρ.ws ρ.nb ρ.K.length ρ.nc i true false now w25 N1 R := by
  refine LdI.mk oo rfl (wGround_ok fun d' l' t' F' A' w21 hF ht hl r21 p he21 => (h.mc.ext0 he21).stB (d' := d') (l' := l') fun w22 mc22 he22 => El.realNew_ok fun e' w23 he' re23 he23 => ?_)
  have mc23 := mc22.ext0 he23
  refine LdP.mk mc23.ob rfl ?_
  apply sync_New.sound
  unfold sync_New.B0
  have tb := Tys.one (h.mc.ext0 he21).ob
  have r22 := r21.extY he22 tb (fun q hq => by simp at hq; subst hq; decide)
  refine openS_ok (r22.ext0 he23) re23 fun x' w24 hx' rest24 he24 => mnew_ok fun s' q' me' M' w25 hs' hme hMf mr25 hA0 hH he25 => ?_
  have z0 := h.ext.size
  have z21 := he21.size
  have z22 := he22.size
  have z23 := he23.size
  have z24 := he24.size
  have te := Tys.one re23
  have X24 : ExtT w23 w24 [T_synclaw_Below, T_elect_Elect] := (ExtT.of he24 te).mono (by simp)
  have X : ExtT w w25 [T_synclaw_Below, T_elect_Elect] := ((((ExtT.nil he21 _).trans ((ExtT.of he22 tb).mono (by simp))).trans (ExtT.nil he23 _)).trans X24).trans (ExtT.nil he25 _)
  have mc25 := (mc23.extT (ExtT.of he24 te) (by decide)).ext0 he25
  have hbb := h.mc.ge ρ.bb (.inl rfl)
  refine b5_ok (ω' := ω) (D := freshDisk) (M := M') hi0 ⟨⟨rest24.ext0 he25, mr25, open_inv op.a L0_ok, p.mono (fun x hx => hx) (by omega), rfl, hA0, by rw [hH]; rfl, fun X hX => ?_, by simp [freshDisk], by simp, fun k hk => ?_⟩, mc25, h.wx.extT X (by decide) (by decide), X.own h.ow (by decide), openY_id op.a L0_ok, ?_⟩ (fun _ => rfl) false (fun hh => by cases hh) hgo
  · simp at hX; rw [hX]; exact L0_ok
  · simp only [sfoot, List.mem_cons, List.mem_append] at hk
    rcases hk with ee | ee | ee | ee | ee | ee | ee | ee
    · omega
    · omega
    · omega
    · omega
    · have := hF k ee; omega
    · omega
    · omega
    · have := hMf k ee; omega
  · exact ((((h.ext.trans he21).trans' he22 fun k hk hl => by simp at hk; omega).trans he23).trans' he24 fun k hk hl => by simp at hk; omega).trans he25
theorem ML.low {b : Option Addr} {l c lo lo' : Nat} {E : List ME} (h : ML w b l c lo E) (hl : lo' ≤ lo) : ML w b l c lo' E := ⟨h.row, ⟨h.bd.dat, h.bd.apart, fun y hy k hk => Nat.le_trans hl (h.bd.ge y hy k hk)⟩, fun k hk => Nat.le_trans hl (h.blk k hk)⟩
theorem ML.gek {b : Option Addr} {l c lo k : Nat} {E : List ME} (h : ML w b l c lo E) (hk : k ∈ rowBlk b ∨ k ∈ EB E) : lo ≤ k := by
  rcases hk with z | z
  · exact h.blk k z
  · obtain ⟨y, hy, hz⟩ := mem_EB.1 z
    exact h.bd.ge y hy k hz
theorem sentW {now : Nat} {cs : Array Value} {xb yb : Option Addr} {xc yc mid : Nat} {EX EM : List ME} {N' : Int} {w26 : World} {K : World → Prop} (h : LawI w0 w N ρ ω idv x l t d e D F A s q me M Y L1 S) (dn : Done w w26 x l t d e s q me Y' L1 S' N' w0.heap.size xb yb xc yc mid EX EM) (on : Own w now cs T_synclaw_Sent) (hsz : cs.size = 2) (hnow : ¬ ρ.foot now) (hng : w0.heap.size ≤ now) (hid : Y'.e.id = Y.e.id)
    (hK : ∀ D' F' A' M' w27, LawI w0 w27 N' ρ ω idv x l t d e D' F' A' s q me M' Y' L1 S' → (M'.H = [] → D'.log = []) → Was w27 w0.heap.size ρ ⟨xb, xc, EX, yb, yc, EM⟩ → Own w27 now (WR.cells ⟨xb, xc, EX, yb, yc, EM⟩) T_synclaw_Sent → (∀ k, WR.XB ⟨xb, xc, EX, yb, yc, EM⟩ k ∨ WR.YB ⟨xb, xc, EX, yb, yc, EM⟩ k → ¬ ω.XB k) → K w27) :
    Sts [.slice xb EX.length xc, .slice yb EM.length yc] ⟨now, 0, none⟩ 0 w26 K := by
  obtain ⟨D', F', A', M', sd26, idl⟩ := dn.sides
  have on26 := dn.ext.own on (by decide)
  refine Sts.full on26 (by rw [hsz]; rfl) rfl fun w27 hs27 on27 he27 => ?_
  have t27 := Tys.one on26
  have x27 : ExtT w26 w27 [T_synclaw_Sent] := ExtT.of he27 t27
  have z := dn.ext.size
  have z0 := h.ext.size
  have gx : ∀ k, WR.XB ⟨xb, xc, EX, yb, yc, EM⟩ k → w.heap.size ≤ k := fun k hk => dn.mx.gek hk
  have gy : ∀ k, WR.YB ⟨xb, xc, EX, yb, yc, EM⟩ k → mid ≤ k := fun k hk => dn.mm.gek hk
  have hmid := dn.mid
  have mlt : ∀ k, ρ.foot k → k < w.heap.size := fun k hk => h.mc.lt hk
  refine hK D' F' A' M' w27 ⟨sd26.extT x27 (by decide), (h.mc.extT dn.ext (by decide)).ext he27 (fun y hy hl => by simp at hy; rw [hy]; exact hnow), (h.wx.extT dn.ext (by decide) (by decide)).extT x27 (by decide) (by decide), he27.own (dn.ext.own h.ow (by decide)) (by simp; intro ee; exact hnow (ee ▸ .inr (.inr (.inl rfl)))), by rw [hid]; exact h.id, Above.base h.ext (dn.fr.trans (Above.of he27 fun k hk => by simp at hk; omega))⟩ idl ⟨(dn.mx.extT x27 (by decide) (by decide)).low z0, (dn.mm.extT x27 (by decide) (by decide)).low (by omega), dn.same, dn.ent, dn.len, fun k hx hy => ?_, fun k hx => ⟨fun hr => ?_, fun hkb => ?_⟩, fun k hy hr => ?_⟩ on27 (fun k hk hX => ?_)
  · have := dn.lt k hx
    have := gy k hy
    omega
  · have := gx k hx
    have := mlt k (.inr (.inl hr))
    omega
  · have := gx k hx
    have := mlt k (.inr (.inr (.inr (.inr hkb))))
    omega
  · have := gy k hy
    have := mlt k (.inr (.inl hr))
    omega
  · have := h.wx.lt (.inl hX)
    rcases hk with z | z
    · have := gx k z; omega
    · have := gy k z; omega
theorem kTick_ok {now : Nat} (hi0 : 0 ≤ i ∧ i < 4398046511104) (hN : N + 1 ≤ 4611686018427387904) (h : LawI w0 w N ρ ω idv x l t d e D F A s q me M Y Y.L []) (hlog : D.log = []) (on : Own w now #[.slice none 0 0, .slice none 0 0] T_synclaw_Sent) (hnow : ¬ ρ.foot now) (hng : w0.heap.size ≤ now)
    (hgo : ∀ {w9 : World} {idv : Int} {x s : Nat} {nb : Option Addr} {nl nc : Nat}, LawE w0 ρ.bb ρ.rg ρ.ws (N + 12) idv x s nb nl nc w9 → N1 sb n c steady quiet idv ρ.bb (some ⟨x, 0, none⟩) (some ⟨s, 0, none⟩) ρ.rg ρ.ws nb nl nc (i + 1) w9) :
    synclaw_SameTick.Call (some ⟨x, 0, none⟩) (some ⟨s, 0, none⟩) w fun r179_0_0_b r179_0_0_l r179_0_0_c r179_0_1_b r179_0_1_l r179_0_1_c r179_1 w26 =>
      Sts [.slice r179_0_0_b r179_0_0_l r179_0_0_c, .slice r179_0_1_b r179_0_1_l r179_0_1_c] ⟨now, 0, none⟩ 0 w26 fun w27 =>
      synclaw_walk.B5 sb n c steady quiet idv ρ.bb (some ⟨x, 0, none⟩) (some ⟨s, 0, none⟩) ρ.rg ρ.ws ρ.nb ρ.K.length ρ.nc i r179_1 true now w27 N1 R := by
  refine wTick_ok h.sd hlog hN h.ext.size fun xb yb xc yc mid EX EM w26 dn => sentW h dn on rfl hnow hng tick_id fun D' F' A' M' w27 h27 idl wn on27 sep => ?_
  have hs := h27.sd.slen
  exact b5_ok hi0 (h27.mono (by omega)) idl true (fun _ => ⟨wn, on27, sep⟩) hgo
theorem kStep_ok {now o : Nat} {op : OpV} (hi0 : 0 ≤ i ∧ i < 4398046511104) (hN : N + 1 ≤ 4611686018427387904) (h : LawI w0 w N ρ ω idv x l t d e D F A s q me M Y Y.L []) (hlog : D.log = []) (on : Own w now #[.slice none 0 0, .slice none 0 0] T_synclaw_Sent) (hnow : ¬ ρ.foot now) (hng : w0.heap.size ≤ now)
    (oo : Own w o #[.int .i64 op.k, .int .i64 op.a, .int .i64 op.b, .int .i64 op.c, .string op.s, .string op.t] T_api_Op)
    (hgo : ∀ {w9 : World} {idv : Int} {x s : Nat} {nb : Option Addr} {nl nc : Nat}, LawE w0 ρ.bb ρ.rg ρ.ws (N + 12) idv x s nb nl nc w9 → N1 sb n c steady quiet idv ρ.bb (some ⟨x, 0, none⟩) (some ⟨s, 0, none⟩) ρ.rg ρ.ws nb nl nc (i + 1) w9) :
    LdI .i64 ⟨o, 1, none⟩ w fun x185 => Sts [.int .i64 x185] ⟨ρ.rg, 0, none⟩ 0 w fun w28 => LdI .i64 ⟨o, 2, none⟩ w28 fun x188 => Sts [.bool (x188 != 0)] ⟨ρ.rg, 7, none⟩ 0 w28 fun w29 =>
      LdI .i64 ⟨ρ.rg, 0, none⟩ w29 fun x194_0 => LdI .i64 ⟨ρ.rg, 1, none⟩ w29 fun x194_1 => LdI .i64 ⟨ρ.rg, 2, none⟩ w29 fun x194_2 => LdI .i64 ⟨ρ.rg, 3, none⟩ w29 fun x194_3 => LdI .i64 ⟨ρ.rg, 4, none⟩ w29 fun x194_4 => LdI .i64 ⟨ρ.rg, 5, none⟩ w29 fun x194_5 => LdI .i64 ⟨ρ.rg, 6, none⟩ w29 fun x194_6 => LdB ⟨ρ.rg, 7, none⟩ w29 fun x194_7 => LdL ⟨ρ.rg, 8, none⟩ w29 fun x194_8_b x194_8_l x194_8_c => LdS ⟨ρ.rg, 9, none⟩ w29 fun x194_9 =>
      synclaw_SameStep.Call (some ⟨x, 0, none⟩) (some ⟨s, 0, none⟩) x194_0 x194_1 x194_2 x194_3 x194_4 x194_5 x194_6 x194_7 x194_8_b x194_8_l x194_8_c x194_9 w29 fun r195_0_0_b r195_0_0_l r195_0_0_c r195_0_1_b r195_0_1_l r195_0_1_c r195_1 w30 =>
      Sts [.slice r195_0_0_b r195_0_0_l r195_0_0_c, .slice r195_0_1_b r195_0_1_l r195_0_1_c] ⟨now, 0, none⟩ 0 w30 fun w31 =>
      Sts [.int .i64 0, .int .i64 0, .int .i64 0, .int .i64 0, .int .i64 0, .int .i64 0, .int .i64 0, .bool false, .slice none 0 0, .string (ByteArray.mk #[])] ⟨ρ.rg, 0, none⟩ 0 w31 fun w32 =>
      synclaw_walk.B5 sb n c steady quiet idv ρ.bb (some ⟨x, 0, none⟩) (some ⟨s, 0, none⟩) ρ.rg ρ.ws ρ.nb ρ.K.length ρ.nc i r195_1 true now w32 N1 R := by
  refine LdI.mk oo rfl (Sts.mk h.mc.orr (by simp [msgC]) rfl fun w28 hs28 or28 he28 => ?_)
  have t28 := Tys.one h.mc.orr
  have oo28 := ownT he28 t28 oo (by decide)
  refine LdI.mk oo28 rfl (Sts.mk or28 (by rw [size_putArr]; simp [msgC]) rfl fun w29 hs29 or29 he29 => ?_)
  have t29 := Tys.one or28
  let m' : MsgV := { ρ.m with kind := op.a, ok := (op.b != 0) }
  have or29' : Own w29 ρ.rg (msgC m' ρ.rb m'.ents.length ρ.rc).toArray T_api_Msg := or29
  have E29 : Ext [ρ.rg] w w29 := he28.trans he29
  have ea29 : EA w29 ρ.rb m'.ents.length ρ.rc m'.ents := rowT (rowT h.mc.ea he28 t28 (by decide)) he29 t29 (by decide)
  have h29 : LawI w0 w29 N { ρ with m := m', rb := ρ.rb, rc := ρ.rc } ω idv x l t d e D F A s q me M Y Y.L [] := h.reg (m' := m') (E29.mono fun k hk _ => by simp at hk; simp [hk]) or29' ea29 h.mc.rl (fun k hk => .inl hk)
  have on29 := ownT he29 t29 (ownT he28 t28 on (by decide)) (by decide)
  have rl := h.mc.rl
  refine ldMsg or29' (wStep_ok (m := m') h29.sd hlog hN h29.ext.size ea29 (by show ρ.m.ents.length ≤ 1000; omega) fun xb yb xc yc mid EX EM w30 dn => sentW h29 dn on29 rfl hnow hng step_id fun D' F' A' M' w31 h31 idl wn on31 sep => Sts.full (vs := msgC zMsg none 0 0) h31.mc.orr rfl rfl fun w32 hs32 or32 he32 => ?_)
  have t32 := Tys.one h31.mc.orr
  have hs := h31.sd.slen
  have e32 : Ext (ρ.rg :: rowBlk ρ.rb) w31 w32 := he32.mono fun k hk _ => by simp at hk; simp [hk]
  have nob : ∀ k ∈ rowBlk none, k ∈ rowBlk ρ.rb ∨ w31.heap.size ≤ k := fun k hk => by cases hk
  exact b5_ok hi0 ((h31.reg (m' := zMsg) (rb' := none) (rc' := 0) e32 or32 (EA.nil w32) (Nat.zero_le _) nob).mono (by omega)) idl true (fun _ => ⟨wn.reg (m' := zMsg) (rb' := none) (rc' := 0) e32 nob, ownT he32 t32 on31 (by decide), sep⟩) hgo
end
end Go.Proofs.Qxb6500433aGreat
