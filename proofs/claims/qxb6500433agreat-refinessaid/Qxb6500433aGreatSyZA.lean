/-
  synclaw: a step that is no cut.
-/
import Derived.Test.Qxb6500433aGreatSyY
import Derived.Test.Qxb6500433aGreatScript
set_option linter.unusedVariables false
set_option linter.unusedSimpArgs false
open Go.Vc
namespace Go.Proofs.Qxb6500433aGreat
section
variable {Y : YS} {m : MsgV}
theorem tick_id : (tickY Y).Y.e.id = Y.e.id := tick_keep.1
theorem accept_e : (acceptF m Y).2.1.e = Y.e := by
  unfold acceptF
  repeat' split
  all_goals rfl
theorem ack_e {p : Nat} {i : Int} : (ackedF p i Y).1.e = Y.e := by
  unfold ackedF
  split <;> rfl
theorem ref_e {p : Nat} {i : Int} : (refusedF p i Y).1.e = Y.e := by
  unfold refusedF
  split <;> rfl
theorem step_id : (stepY m Y).Y.e.id = Y.e.id := by
  unfold stepY
  split
  · rfl
  split
  · exact ask_keep.1
  split
  · unfold voteGotY
    dsimp only
    split
    · exact got_keep.1
    · exact got_keep.1
  split
  · unfold entsY
    dsimp only
    split
    · rw [accept_e]; exact heard_keep.1
    · exact heard_keep.1
  split
  · unfold snapY
    dsimp only
    split
    · split
      · exact heard_keep.1
      · split
        · exact heard_keep.1
        · exact heard_keep.1
    · exact heard_keep.1
  · unfold ackY
    split
    · exact (see_keep _).1
    split
    · rfl
    split
    · rw [ack_e]
    · rw [ref_e]
end
section
variable {w0 w w' : World} {N : Int} {ρ : MR} {ω ω' : WR} {idv : Int} {x l t d e : Nat} {D : DiskS} {F : List Nat} {A : AbsS} {s q me : Nat} {M : MSt} {Y : YS} {L0 : LogS} {S : List LogS} {lo : Nat}
theorem mark_ok {K : World → Prop} (h : LawI w0 w N ρ ω idv x l t d e D F A s q me M Y L0 S)
    (hK : ∀ F' M' w', LawI w0 w' N ρ ω idv x l t d e D.marked F' A s q me M' Y Y.L [] → ExtT w w' SideT → K w') :
    LdP ⟨ρ.bb, 0, none⟩ w fun a => LdP ⟨ρ.bb, 1, none⟩ w fun b => synclaw_Mark.Call a b w fun w18 => syncm_Sync_Mark.Call (some ⟨s, 0, none⟩) w18 K := by
  refine LdP.mk h.mc.ob rfl (LdP.mk h.mc.ob rfl (wMark_ok h.sd.rest.real.st.dk fun w1 F1 hD1 he1 hg1 => ?_))
  have tF : Tys w F [T_rlog_Log, T_store_Store, T_diskm_Disk, T_string, T_diskm_half] := fun k hk hz => h.sd.rest.real.tys k (List.mem_cons_of_mem _ (List.mem_cons_of_mem _ hk)) hz
  obtain ⟨bx, o⟩ := h.sd.rest.own
  have rest1 : Rest w1 x l t d e D.marked F1 A Y := ⟨⟨bx, ownT he1 tF o (by decide)⟩, h.sd.rest.real.marked he1 hD1, ownT he1 tF h.sd.rest.el (by decide)⟩
  have x1 : ExtT w w1 [T_rlog_Log, T_store_Store, T_diskm_Disk, T_string, T_diskm_half] := ExtT.of he1 tF
  have mr1 := h.sd.mrest.extT x1 (by decide)
  refine mmark_ok mr1 fun M' w2 mr2 hA0 hH hg2 he2 => ?_
  have t2 := Tys.one mr1.md.own
  have x2 : ExtT w1 w2 [T_rlogm_Log] := ExtT.of he2 t2
  have X1 : ExtT w w1 SideT := x1.mono (by decide)
  have X2 : ExtT w1 w2 SideT := x2.mono (by decide)
  have X := X1.trans X2
  have hq : w0.heap.size ≤ q := h.sd.ge q (by simp [sfoot, MSt.foot])
  have z0 := h.ext.size
  have z1 := he1.size
  refine hK F1 M' w2 ⟨⟨rest1.extT x2 (by decide), mr2, h.sd.ok, path_marked h.sd.path.good h.sd.rest.real.st.like h.sd.rest.real.holds, rfl, hA0, by rw [hH]; rfl, fun X hX => ?_, by simp [DiskS.marked], by simp, fun k hk => ?_⟩, h.mc.extT X (by decide), h.wx.extT X (by decide) (by decide), X.own h.ow (by decide), h.id, ?_⟩ X
  · simp at hX; rw [hX]; exact h.sd.ok.L
  · have old := h.sd.ge
    simp only [sfoot, List.mem_cons, List.mem_append] at hk old
    rcases hk with ee | ee | ee | ee | ee | ee | ee | ee
    · exact old k (by simp [ee])
    · exact old k (by simp [ee])
    · exact old k (by simp [ee])
    · exact old k (by simp [ee])
    · rcases hg1 k ee with y | y
      · exact old k (by simp [y])
      · omega
    · exact old k (by simp [ee])
    · exact old k (by simp [ee])
    · rcases hg2 k ee with y | y
      · exact old k (by simp [y])
      · omega
  · refine (h.ext.trans' he1 fun k hk hl => ?_).trans' he2 fun k hk hl => ?_
    · have := h.sd.ge k (by simp [sfoot, hk]); omega
    · simp at hk; omega
/-- The register laid anew. -/
theorem LawI.reg {m' : MsgV} {rb' : Option Addr} {rc' : Nat} (h : LawI w0 w N ρ ω idv x l t d e D F A s q me M Y L0 S) (he : Ext (ρ.rg :: rowBlk ρ.rb) w w') (o : Own w' ρ.rg (msgC m' rb' m'.ents.length rc').toArray T_api_Msg) (ea : EA w' rb' m'.ents.length rc' m'.ents) (rl : m'.ents.length ≤ 3) (hrb : ∀ k ∈ rowBlk rb', k ∈ rowBlk ρ.rb ∨ w.heap.size ≤ k) : LawI w0 w' N { ρ with m := m', rb := rb', rc := rc' } ω idv x l t d e D F A s q me M Y L0 S := by
  have t : Tys w (ρ.rg :: rowBlk ρ.rb) [T_api_Msg, T_api_Entry] := fun k hk _ => by
    rcases List.mem_cons.1 hk with rfl | z
    · exact ⟨_, _, h.mc.orr, by simp⟩
    · obtain ⟨cs, ho⟩ := Row.ty h.mc.ea z
      exact ⟨_, _, ho, by simp⟩
  refine ⟨h.sd.extT (ExtT.of he t) (by decide), h.mc.reg he o ea rl hrb h.ext.size, h.wx.reg he hrb, ownT he t h.ow (by decide), h.id, h.ext.trans' he fun k hk hl => ?_⟩
  rcases List.mem_cons.1 hk with z | z
  · have := h.mc.ge k (.inr (.inl (.inl z))); omega
  · have := h.mc.ge k (.inr (.inl (.inr z))); omega
variable {sb : Option Addr} {n c : Nat} {steady quiet : Bool} {i : Int} {N1 : NW} {R : Int → Int → World → Prop}
theorem b6_ok {now o : Nat} {op : OpV} {t199 : Bool} (hi0 : 0 ≤ i ∧ i < 4398046511104) (hN : N + 1 ≤ 4611686018427387904) (h : LawI w0 w N ρ ω idv x l t d e D F A s q me M Y Y.L []) (hlog : D.log = [])
    (oo : Own w o #[.int .i64 op.k, .int .i64 op.a, .int .i64 op.b, .int .i64 op.c, .string op.s, .string op.t] T_api_Op) (oa : -9223372036854775808 ≤ op.a ∧ op.a ≤ 9223372036854775807)
    (hgo : ∀ {w9 : World} {idv : Int} {x s : Nat} {nb : Option Addr} {nl nc : Nat}, LawE w0 ρ.bb ρ.rg ρ.ws (N + 12) idv x s nb nl nc w9 → N1 sb n c steady quiet idv ρ.bb (some ⟨x, 0, none⟩) (some ⟨s, 0, none⟩) ρ.rg ρ.ws nb nl nc (i + 1) w9) :
    synclaw_walk.B6 sb n c steady quiet idv ρ.bb (some ⟨x, 0, none⟩) (some ⟨s, 0, none⟩) ρ.rg ρ.ws ρ.nb ρ.K.length ρ.nc i o true false now t199 w N1 R := by
  unfold synclaw_walk.B6
  refine Bm.mk (fun _ => ?_) fun _ => ?_
  · refine ldMsg h.mc.orr (LdI.mk oo rfl (LdI.mk oo rfl (LdI.mk oo rfl (LdI.mk oo rfl (LdS.mk oo rfl (LdS.mk oo rfl (wWrite_ok h.mc.ea h.mc.rl fun m' rb' rc' w1 ea1 rl hrb he1 => ?_)))))))
    have t1 := Tys.row h.mc.ea
    have or1 := ownT he1 t1 h.mc.orr (by decide)
    refine Sts.full (vs := msgC m' rb' m'.ents.length rc') or1 rfl rfl fun w2 hs2 or2 he2 => ?_
    have E2 : Ext (ρ.rg :: rowBlk ρ.rb) w w2 := (he1.mono fun k hk _ => List.mem_cons_of_mem _ hk).trans (he2.mono fun k hk _ => by simp at hk; simp [hk])
    have ea2 : EA w2 rb' m'.ents.length rc' m'.ents := Row.ext ea1 he2 fun k hk hx => by
      simp at hx
      obtain ⟨cs, ho⟩ := Row.ty ea1 hk
      rw [hx] at ho
      exact Own.ne_type ho or1 (by decide) rfl
    exact b5_ok (ω' := ω) hi0 ((h.reg E2 or2 ea2 rl hrb).mono (by omega)) (fun _ => hlog) false (fun hh => by cases hh) hgo
  · refine LdI.mk oo rfl (LdI.mk oo rfl (LdI.mk oo rfl (LdI.mk oo rfl (LdS.mk oo rfl (LdS.mk oo rfl (wPlay_ok h.sd hlog hN h.ext.size oa fun Y' S' D' F' A' M' w3 hl sd3 idl hid x3 fr3 => ?_))))))
    exact b5_ok (ω' := ω) hi0 ⟨sd3, h.mc.extT x3 (by decide), h.wx.extT x3 (by decide) (by decide), x3.own h.ow (by decide), by rw [hid]; exact h.id, Above.base h.ext fr3⟩ idl false (fun hh => by cases hh) hgo
end
end Go.Proofs.Qxb6500433aGreat
