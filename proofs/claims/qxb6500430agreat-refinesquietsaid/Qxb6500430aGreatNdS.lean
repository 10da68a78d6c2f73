/-
  nodelaw: an event in the walk.
-/
import Derived.Test.Qxb6500430aGreatNdR
set_option linter.unusedVariables false
set_option linter.unusedSimpArgs false
open Go.Vc
namespace Go.Proofs.Qxb6500430aGreat
open Kv
section
variable {w0 w w' : World} {N : Int} {ρ : MR} {ω ω' : WR} {idv : Int} {r : RR}
variable {sb : Option Addr} {n c : Nat} {steady quiet : Bool} {i : Int} {N1 : NW} {R : Int → Int → World → Prop}
/-- What the event before gave is looked at again, stamped and kept. -/
theorem share_ok {o d' e' : Nat} {op : OpV} (hi0 : 0 ≤ i ∧ i < 4398046511104) (h : LawI w0 w N ρ ω idv r) (hidle : r.M.H = [] → r.D.log = []) (wn : Was w w0.heap.size ρ ω') (sep : ∀ k, ω.kx.foot k → ¬ ω'.kx.foot k ∧ ¬ ω'.ky.foot k) (od : Own w d' (kdC ω'.kx).toArray T_api_Did) (oe : Own w e' (kdC ω'.ky).toArray T_api_Did) (hew : e' ≠ ρ.ws) (hdn : d' ∉ rowBlk ρ.nb) (hen : e' ∉ rowBlk ρ.nb) (oo : Own w o (opC op) T_api_Op) (hwf : op.Wf)
    (hgo : ∀ {w9 : World} {p p2 : Nat} {nb : Option Addr} {nl nc : Nat}, LawE w0 ρ.bb ρ.ws ρ.wm N p p2 nb nl nc w9 → N1 sb n c steady quiet ρ.bb (some ⟨p, 0, none⟩) (some ⟨p2, 0, none⟩) ρ.ws ρ.wm nb nl nc (i + 1) w9) :
    LdI .i64 ⟨ρ.ws, 0, none⟩ w fun x113_0 =>
          LdL ⟨ρ.ws, 1, none⟩ w fun x113_1_b x113_1_l x113_1_c =>
          LdL ⟨ρ.ws, 2, none⟩ w fun x113_2_b x113_2_l x113_2_c =>
          LdI .i64 ⟨ρ.wm, 0, none⟩ w fun x114_0 =>
          LdL ⟨ρ.wm, 1, none⟩ w fun x114_1_b x114_1_l x114_1_c =>
          LdL ⟨ρ.wm, 2, none⟩ w fun x114_2_b x114_2_l x114_2_c =>
          nodelaw_SameDid.Call x113_0 x113_1_b x113_1_l x113_1_c x113_2_b x113_2_l x113_2_c x114_0 x114_1_b x114_1_l x114_1_c x114_2_b x114_2_l x114_2_c w fun r115 w19 =>
          Bm (!r115) (
            R i i w19) (
            nodelaw_Untouched.Call ρ.nb ρ.K.length ρ.nc w19 fun r120 w20 =>
            Bm (!r120) (
              R i i w20) (
              LdI .i64 ⟨ρ.ws, 0, none⟩ w20 fun x124_0 =>
              LdL ⟨ρ.ws, 1, none⟩ w20 fun x124_1_b x124_1_l x124_1_c =>
              LdL ⟨ρ.ws, 2, none⟩ w20 fun x124_2_b x124_2_l x124_2_c =>
              nodelaw_Spoil.Call x124_0 x124_1_b x124_1_l x124_1_c x124_2_b x124_2_l x124_2_c w20 fun w21 =>
              LdL ⟨ρ.ws, 1, none⟩ w21 fun x127_b x127_l x127_c =>
              LdL ⟨ρ.ws, 2, none⟩ w21 fun x130_b x130_l x130_c =>
              Bm (decide ((IntKind.i64.wrap (((x127_l : Nat) : Int) + ((x130_l : Nat) : Int))) > (0 : Int))) (
                Bm (decide (((ρ.K.length : Nat) : Int) ≥ (8 : Int))) (
                  nodelaw_walk.L2 sb n c steady quiet ρ.bb (some ⟨r.p, 0, none⟩) (some ⟨r.p2, 0, none⟩) ρ.ws ρ.wm ρ.nb ρ.K.length ρ.nc i o d' e' (0 : Int) w21 N1 R) (
                  LdI .i64 ⟨ρ.ws, 0, none⟩ w21 fun x158_0 =>
                  LdL ⟨ρ.ws, 1, none⟩ w21 fun x158_1_b x158_1_l x158_1_c =>
                  LdL ⟨ρ.ws, 2, none⟩ w21 fun x158_2_b x158_2_l x158_2_c =>
                  New (.cells #[.int .i64 x158_0, .slice x158_1_b x158_1_l x158_1_c, .slice x158_2_b x158_2_l x158_2_c] T_api_Did) w21 fun b159 w22 =>
                  Append T_api_Did (.agg #[.int .i64 (0 : Int), .slice none 0 0, .slice none 0 0]) 3 56 ρ.nb ρ.K.length ρ.nc (some ⟨b159, 0, none⟩) 1 w22 fun b160 c160 w23 =>
                  nodelaw_walk.B4 sb n c steady quiet ρ.bb (some ⟨r.p, 0, none⟩) (some ⟨r.p2, 0, none⟩) ρ.ws ρ.wm b160 (ρ.K.length + 1) c160 i o d' e' w23 N1 R)) (
                nodelaw_walk.B4 sb n c steady quiet ρ.bb (some ⟨r.p, 0, none⟩) (some ⟨r.p2, 0, none⟩) ρ.ws ρ.wm ρ.nb ρ.K.length ρ.nc i o d' e' w21 N1 R))) := by
  refine LdI.mk h.ow rfl (LdL.mk h.ow rfl (LdL.mk h.ow rfl (LdI.mk h.om rfl (LdL.mk h.om rfl (LdL.mk h.om rfl (sameDid_ok h.wx.mx h.wx.my h.wx.ol h.wx.rl fun w19 he19 => Bm.neg rfl ?_))))))
  have h19 := h.ext0 he19
  refine gUntouched_ok h19.mc.nrow h19.mc.kp (by have := h19.mc.kl; omega) fun w20 he20 => Bm.neg rfl ?_
  have h20 := h19.ext0 he20
  have E20 := he19.trans he20
  refine LdI.mk h20.ow rfl (LdL.mk h20.ow rfl (LdL.mk h20.ow rfl (gSpoil_ok h20.wx.mx h20.wx.ol h20.wx.rl fun w21 kp21 he21 => ?_)))
  have foot : ∀ y ∈ rowBlk ω.ob ++ rowBlk ω.rb, ω.kx.foot y := fun y hy => List.mem_append.1 hy
  have tX : Tys w20 (rowBlk ω.ob ++ rowBlk ω.rb) [T_api_Out, T_api_Reply] := fun k hk _ => by
    rcases List.mem_append.1 hk with z | z
    · obtain ⟨cs, ho⟩ := h20.wx.mx.o.ty z
      exact ⟨_, _, ho, by simp⟩
    · obtain ⟨cs, ho⟩ := h20.wx.mx.r.ty z
      exact ⟨_, _, ho, by simp⟩
  have x21 : ExtT w20 w21 [T_api_Out, T_api_Reply] := ExtT.of he21 tX
  have mc21 : MemC w21 w0.heap.size r.d r.s idv ρ := h20.mc.ext he21 fun y hy hl hf => by
    obtain ⟨cs, T, ho, hT⟩ := tX y hy hl
    rcases hf with z | z | z
    · rw [z] at ho
      rw [(ho.unique h20.mc.ob).2] at hT
      exact absurd hT (by decide)
    · obtain ⟨cs', ho'⟩ := h20.mc.nrow.ty z
      rw [(ho.unique ho').2] at hT
      exact absurd hT (by decide)
    · exact h20.wx.dx y (foot y hy) z
  have wn20 := wn.ext0 E20
  have wn21 : Was w21 w0.heap.size ρ ω' := ⟨wn20.mx.extZ he21 fun y hy hl => (sep y (foot y hy)).1, wn20.my.extZ he21 fun y hy hl => (sep y (foot y hy)).2, wn20.ol, wn20.rl, wn20.dx⟩
  have ow21 := x21.own h20.ow (by decide)
  have om21 := x21.own h20.om (by decide)
  have od21 := x21.own (E20.own od (by simp)) (by decide)
  have oe21 := x21.own (E20.own oe (by simp)) (by decide)
  have oo21 : Own w21 o (opC op) T_api_Op := x21.own (E20.own oo (by simp)) (by decide)
  have sd21 := h20.sd.extT x21 (by decide)
  have ext21 : Ext [] w0 w21 := h20.ext.trans' he21 (fun y hy hl => by have := h20.wx.xge (foot y hy); omega)
  refine LdL.mk ow21 rfl (LdL.mk ow21 rfl (Bm.mk (fun _ => ?_) fun _ => ?_))
  · exact keep_ok (I := ω.kx) hi0 sd21 hidle mc21 wn21 od21 oe21 ow21 om21 rfl hew hdn hen oo21 hwf h.id ext21 kp21 (fun k hk => h20.wx.xge hk) (fun k hk hf => (sep k hf).1 hk) hgo
  · exact b4_ok hi0 sd21 hidle mc21 wn21 od21 oe21 ow21 rfl om21 rfl hew oo21 hwf h.id ext21 rfl hgo
end
end Go.Proofs.Qxb6500430aGreat
