/-
  host: the abstract network's memory: a new end.
-/
import Derived.Test.Qxb6500424aGreatHnE
set_option linter.unusedVariables false
set_option linter.unusedSimpArgs false
open Go.Vc
namespace Go.Proofs.Qxb6500424aGreat
section
variable {lo : Nat} {w w' : World} {p : Nat} {N : List PEM} {del : Nat → Int}
/-- A record is laid behind the ends. -/
theorem pushEnd {b : Option Addr} {l c nb : Nat} {x : PEM} {T : TypeId} {K : World → Prop} (h : NetAt lo w p N del) (o : Own w p #[.slice b l c, .int .i64 (del 0), .int .i64 (del 1), .int .i64 (del 2)] T_hostm_Net) (r : Row w b l c 16 T_hostm_End (N.flatMap endC)) (hb : N.length ≤ 34359738368) (hnb : Own w nb (endC x).toArray T) (hS : BytesAt w x.sb x.sc x.E.S) (hRr : BytesAt w x.rb x.rc x.E.R)
    (hK : ∀ w', NetAt lo w' p (N ++ [x]) del → ExtL lo w w' [T_hostm_Net, T_hostm_End] → K w') {z : Value} (hz : z.cells.size = 16) :
    Append 83 z 16 136 b l c (some ⟨nb, 0, none⟩) 1 w fun b2 c2 w2 => Pn (some ⟨p, 0, none⟩) fun a => Sts [.slice b2 (l + 1) c2] a 0 w2 K := by
  have hlen := NetAt.rlen r
  have all1 : (endC x).all Value.oneCell' = true := rfl
  refine Vc.Append.mk (e := 83) (news := endC x) r (CellsAt.own hnb (fun j v hj => by simpa using hj)) rfl hz all1 (by omega) (by omega) fun b3 c3 w3 r3 he3 hb3 => Pn.mk ?_
  have ty2 : Tys w (rowBlk b) [T_hostm_End] := Tys.row r
  have o3 := ownT he3 ty2 o (by decide)
  refine Sts.mk o3 (by simp) rfl fun w4 hs4 o4 he4 => ?_
  have ty3 : Tys w3 [p] [T_hostm_Net] := Tys.one o3
  have T4 : ExtL lo w w4 [T_hostm_Net, T_hostm_End] := ((ExtL.of he3 ty2 (h.ge.row o rfl)).mono (by decide)).trans ((ExtL.of he4 ty3 (fun x hx => by simp at hx; have := h.ge.1; omega)).mono (by decide))
  refine hK w4 ⟨⟨b3, l + 1, c3, o4, ?_⟩, fun y hy => ?_, fun y hy => ?_, GeC.of o4 rfl h.ge.1 fun y hy => ?_⟩ T4
  · rw [List.flatMap_append]
    have : Row w3 b3 (l + 1) c3 16 T_hostm_End (N.flatMap endC ++ [x].flatMap endC) := by simpa using r3
    exact rowT this he4 ty3 (by decide)
  · rcases List.mem_append.1 hy with q | q
    · exact ⟨T4.row (h.S y q).row (by decide), (h.S y q).isB⟩
    · rw [List.mem_singleton.1 q]; exact ⟨T4.row hS.row (by decide), hS.isB⟩
  · rcases List.mem_append.1 hy with q | q
    · exact ⟨T4.row (h.R y q).row (by decide), (h.R y q).isB⟩
    · rw [List.mem_singleton.1 q]; exact ⟨T4.row hRr.row (by decide), hRr.isB⟩
  · rcases hb3 y hy with q | q
    · exact h.ge.row o rfl y q
    · have := h.ge.1
      have := o.lt
      omega
def conE (c : Nat) (e : Sk.Ent) : PE := ⟨c, e.sd, e.lp, e.rh, e.rp, true, -1, [], [], 0, 1, 0, false, false, false, false⟩
theorem BytesAt.nil (w : World) : BytesAt w none 0 [] := ⟨Row.nil _ _ _, fun x hx => by cases hx⟩
theorem connected_ok {c ib : Nat} {e : Sk.Ent} {X : CS} {R : Bool → World → Prop} (h : NetAt lo w p N del) (hn : N.length ≤ 34359738368) (hno : ∀ (k : Nat) y, N[k]? = some y → ¬ (y.E.h = c ∧ y.E.sd = e.sd)) (hi : InAt w ib X) (h1 : X.st = 1)
    (hR : ∀ w', NetAt lo w' p (N ++ [⟨conE c e, none, 0, none, 0⟩]) del → ExtL lo w w' [T_hostm_Net, T_hostm_End] → R true w') : hostm_Net_Connected.Call (some ⟨p, 0, none⟩) (c : Int) e.sd e.kind e.lp e.rh e.rp e.slot e.par e.rdy (some ⟨ib, 0, none⟩) w R := by
  apply hostm_Net_Connected.sound
  unfold hostm_Net_Connected.B0
  refine New.mk fun s_ w1 es hs1 os he1 => ?_
  have os1 : Own w1 s_ (siArr e (some ⟨ib, 0, none⟩)) 69 := os
  have n1 := h.ext0 he1
  refine LdI.mk os1 rfl (nFind_ok n1 (by omega) (fun k y hy e1 e2 => absurd ⟨by omega, e2⟩ (hno k y hy)) (fun _ => Bm.neg (decide_eq_false (by omega)) (LdP.mk os1 rfl (Pn.mk (LdI.fn (o := 0) (he1.own hi (by simp)) (by omega) rfl ?_)))))
  unfold hostm_Net_Connected.B1
  obtain ⟨b, l, cc, o, r⟩ := n1.drew.ex
  refine Bm.neg (by rw [h1]; rfl) (Pn.mk (LdL.mk o rfl (LdI.mk os1.drew rfl (LdI.mk os1.drew rfl (LdI.mk os1.drew rfl (LdI.mk os1.drew rfl (New.mk fun nb w2 enb hs2 onb he2 => ?_)))))))
  have o2 := he2.own o (by simp)
  refine ⟨o2.cell rfl, ?_⟩
  have r2 := r.ext he2 (fun _ _ q => by cases q)
  have n2 := n1.drew.ext0 he2
  refine pushEnd (x := ⟨conE c e, none, 0, none, 0⟩) (T := T_hostm_End) n2 o2 r2 hn onb (BytesAt.nil _) (BytesAt.nil _) (fun w' h' hT => hR w' h' ((ExtL.nil ((he1.trans (Ext.drew [] _)).trans he2) _).trans hT)) rfl
/-- See of a child that was just born. -/
theorem seeNew_ok {c ib q : Nat} {e : Sk.Ent} {X : CS} {R : Bool → World → Prop} (h : NetAt lo w p N del) (hn : N.length ≤ 34359738368) (hc : c < 3) (hi : InAt w ib X) (so : SeeNew (N.map (·.E)) (del c) c e X q)
    (hR : ∀ w', NetAt lo w' p (N ++ [⟨bornE c e q, none, 0, none, 0⟩]) del → ExtL lo w w' [T_hostm_Net, T_hostm_End] → R true w') : hostm_Net_See.Call (some ⟨p, 0, none⟩) (c : Int) e.sd e.kind e.lp e.rh e.rp e.slot e.par e.rdy (some ⟨ib, 0, none⟩) w R := by
  apply hostm_Net_See.sound
  unfold hostm_Net_See.B0
  refine New.mk fun s_ w1 es hs1 os he1 => Bm.neg (decide_eq_false (by omega)) ?_
  have os1 : Own w1 s_ (siArr e (some ⟨ib, 0, none⟩)) 69 := os
  have n1 := h.ext0 he1
  have hi1 : InAt w1 ib X := he1.own hi (by simp)
  have rh := so.rh
  rw [decide_eq_false (show ¬ (c : Int) ≥ 3 by omega)]
  unfold hostm_Net_See.B1
  refine Bm.neg rfl (LdI.mk os1 rfl (nFind_ok n1 (by omega) (fun k y hy e1 e2 => absurd ⟨by omega, e2⟩ (so.no k y.E (by rw [List.getElem?_map, hy]; rfl))) (fun _ => Bm.pos rfl (LdI.mk os1 rfl ?_))))
  rw [w64 (by omega) (by omega)]
  refine Bm.neg (decide_eq_false (by omega)) (Bm.neg (decide_eq_false (by omega)) (Pn.mk ⟨by omega, LdI.cell (delCell n1 hc) (Bm.neg (by simpa using so.del) (LdP.mk os1 rfl (Pn.mk (LdI.fn (o := 0) hi1 (by omega) rfl (Bm.neg (by rw [so.st]; rfl) (LdI.mk os1 rfl (Bm.neg (by simpa using so.par) (LdB.mk os1 rfl ?_))))))))⟩))
  rw [so.rdy]
  unfold hostm_Net_See.B2
  obtain ⟨Ep, lt⟩ := so.lat
  refine Bm.neg rfl (LdI.mk os1 rfl (LdI.mk os1 rfl ?_))
  rw [w64 (by omega) (by omega)]
  refine latest_ok n1 (by omega) lt (Bm.neg (decide_eq_false (by omega)) ?_)
  obtain ⟨b, l, cc, o, r⟩ := n1.drew.ex
  refine Pn.mk (LdL.mk o rfl (LdI.mk os1.drew rfl (LdI.mk os1.drew rfl (LdI.mk os1.drew rfl (LdI.mk os1.drew rfl (New.mk fun nb w2 enb hs2 onb he2 => ?_))))))
  have o2 := he2.own o (by simp)
  refine ⟨o2.cell rfl, ?_⟩
  have r2 := r.ext he2 (fun _ _ q => by cases q)
  have n2 := n1.drew.ext0 he2
  refine pushEnd (x := ⟨bornE c e q, none, 0, none, 0⟩) (T := T_hostm_End) n2 o2 r2 hn onb (BytesAt.nil _) (BytesAt.nil _) (fun w' h' hT => hR w' h' ((ExtL.nil ((he1.trans (Ext.drew [] _)).trans he2) _).trans hT)) rfl
end
end Go.Proofs.Qxb6500424aGreat
