/-
  hostlaw: Settle.
-/
import Derived.Test.Qxb6500424aGreatHmN
set_option linter.unusedVariables false
set_option linter.unusedSimpArgs false
open Go.Vc
namespace Go.Proofs.Qxb6500424aGreat
section
variable {w0 w w' : World} {a c d : Nat} {m m' : LH} {r r' : LR} {k k' : LC} {n n' : Int}
theorem LawAt.setX {xs : List (Nat × Array Value)} (h : LawAt w0 w a m r k) (hx : ∀ e ∈ xs, Own w e.1 e.2 45) : LawAt w0 w a m { r with x := xs } k :=
  ⟨h.own, h.h, ⟨h.r.W, h.r.N, h.r.sn, h.r.R, h.r.I, h.r.M, h.r.O, h.r.tl, h.r.tok, h.r.sepW, h.r.sepM, h.r.geR, h.r.geI, h.r.geM, h.r.geO, hx⟩, h.ge, h.ext⟩
theorem Good.setX {xs : List (Nat × Array Value)} (h : Good n m r k) : Good n m { r with x := xs } k :=
  ⟨h.pw, h.hs, h.tw, h.seen, h.top, h.lost, h.out, h.fl, h.rdy, h.rlt, ⟨h.cnt.R, h.cnt.I, h.cnt.O, h.cnt.M, h.cnt.sp, h.cnt.tk, h.cnt.del, h.cnt.age⟩⟩
theorem Good.calm {v : Int} (h : Good n m r k) : Good n m r { k with calm := v } :=
  ⟨h.pw, h.hs, h.tw, h.seen, h.top, h.lost, h.out, h.fl, h.rdy, h.rlt, ⟨h.cnt.R, h.cnt.I, h.cnt.O, h.cnt.M, h.cnt.sp, h.cnt.tk, h.cnt.del, h.cnt.age⟩⟩
theorem LawAt.ldLost0 {K : Int → Prop} (hL : LawAt w0 w a m r k) (hk : K (k.lost 0)) : LdI .i64 (Addr.add ⟨a, 0, none⟩ 37) w K := by
  rw [addA]
  exact LdI.fn hL.own (by omega) (lawF_lost (c := 0) m r k (by omega)) hk
theorem LawAt.ldLost1 {K : Int → Prop} {j : Nat} (hj : j < 3) (hL : LawAt w0 w a m r k) (hk : K (k.lost j)) : LdI .i64 ((Addr.add ⟨a, 0, none⟩ 37).add j) w K := by
  rw [add2]
  exact LdI.fn hL.own (by omega) (lawF_lost (c := j) m r k (by omega)) hk
theorem settle_ok {R : Bool → World → Prop} (hL : LawAt w0 w a m r k) (hg : Good n m r k) (h0 : 0 ≤ n) (hn : n ≤ 4398042000000)
    (hR : ∀ m' r' k' w', LawAt w0 w' a m' r' k' → Good (n + 3510000) m' r' k' → R true w') : hostlaw_World_Settle.Call (some ⟨a, 0, none⟩) w R := by
  apply hostlaw_World_Settle.sound
  unfold hostlaw_World_Settle.B0 hostlaw_World_Settle.L1
  refine ⟨fun mm a' cal rr w' => ∃ (q : Nat) (m' : LH) (r' : LR) (k' : LC), q ≤ 120 ∧ mm = 120 - q ∧ some ⟨a, 0, none⟩ = a' ∧ rr = (q : Int) ∧ 0 ≤ cal ∧ cal ≤ q ∧ LawAt w0 w' a m' r' k' ∧ Good (n + 29250 * q) m' r' k', 120,
    ⟨0, m, r, k, by omega, rfl, rfl, rfl, by omega, by omega, hL, hg.mono (by omega)⟩, ?_⟩
  rintro mm a' cal rr w' ⟨q, m1, r1, k1, hq, rfl, rfl, rfl, c0, c1, h1, g1⟩
  unfold hostlaw_World_Settle.L1b
  refine Bm.ite (fun hlt => ?_) fun hge => ?_
  rotate_left
  · refine Pn.mk (h1.stI1 (k' := { k1 with calm := cal }) (by omega) rfl rfl ⟨rfl, rfl, rfl⟩ ⟨.inl rfl, .inr rfl, .inr rfl, .inr rfl⟩ fun w2 hs2 h2 e2 => hR m1 r1 _ w2 h2 ?_)
    exact (g1.calm).mono (by omega)
  have h1d := h1.drew
  refine Pn.mk (h1d.ldI (v := k1.sp) (by omega) rfl (Pn.mk (h1d.ldLost0 (h1d.ldLost1 (by omega) (h1d.ldLost1 (by omega) (New.mk fun lb w2 elb hs2 olb he2 => ?_))))))
  have h2 := h1d.ext0 he2
  refine ⟨?_, ?_, ?_, ?_, Sts.full (vs := [.int .i64 (k1.lost 0), .int .i64 (k1.lost 1), .int .i64 (k1.lost 2)]) olb rfl rfl fun w3 hs3 o3 he3 => Pn.mk ?_⟩
  · rw [addA]
    exact h2.own.cell (by rw [fnArr_get _ (by omega)]; exact congrArg some (lawF_lost (c := 0) m1 r1 k1 (by omega)))
  · rw [add2]
    exact h2.own.cell (by rw [fnArr_get _ (by omega)]; exact congrArg some (lawF_lost (c := 1) m1 r1 k1 (by omega)))
  · rw [add2]
    exact h2.own.cell (by rw [fnArr_get _ (by omega)]; exact congrArg some (lawF_lost (c := 2) m1 r1 k1 (by omega)))
  · rw [addA]
    exact h2.own.cell (by rw [fnArr_get _ (by omega)]; rfl)
  have E3 : Ext [] w'.drew w3 := he2.trans' he3 (fun y hy hl => by simp at hy; omega)
  have h3 := (h1d.ext0 E3).setX (xs := [(lb, #[.int .i64 (k1.lost 0), .int .i64 (k1.lost 1), .int .i64 (k1.lost 2)])]) (fun e he => by
    rw [List.mem_singleton.1 he]
    exact o3)
  have g3 := g1.setX (xs := [(lb, #[.int .i64 (k1.lost 0), .int .i64 (k1.lost 1), .int .i64 (k1.lost 2)])])
  refine h3.ldW (wLen_ok h3.r.W ?_)
  have h64 := h3.r.W.len
  unfold hostlaw_World_Settle.L2
  generalize hln : ({ r1 with x := [(lb, #[.int .i64 (k1.lost 0), .int .i64 (k1.lost 1), .int .i64 (k1.lost 2)])] } : LR).W.length = ln at *
  refine ⟨fun mm a' cal' rr' sp' lo' kk w4 => ∃ (p : Nat) (m' : LH) (r' : LR) (k' : LC), p ≤ ln ∧ p = mm ∧ some ⟨a, 0, none⟩ = a' ∧ cal = cal' ∧ (q : Int) = rr' ∧ k1.sp = sp' ∧ lb = lo' ∧ kk = (p : Int) ∧ LawAt w0 w4 a m' r' k' ∧ Good (n + 29250 * q + 450 * (ln - p)) m' r' k' ∧ r'.x = [(lb, #[.int .i64 (k1.lost 0), .int .i64 (k1.lost 1), .int .i64 (k1.lost 2)])], ln,
    ⟨ln, m1, _, k1, Nat.le_refl _, rfl, rfl, rfl, rfl, rfl, rfl, rfl, h3, g3.mono (by omega), rfl⟩, ?_⟩
  rintro mm a' cal' rr' sp' lo' kk w4 ⟨p, m4, r4, k4, hp, rfl, rfl, rfl, rfl, rfl, rfl, rfl, h4, g4, ex4⟩
  unfold hostlaw_World_Settle.L2b
  refine Bm.ite (fun hpos => ?_) fun hz => ?_
  · refine deliver_ok h4 g4 (by omega) (by omega) fun m5 r5 k5 w5 h5 g5 ex5 => Bm.neg rfl ⟨p - 1, by omega, p - 1, m5, r5, k5, by omega, rfl, rfl, rfl, rfl, rfl, rfl, by rw [w64 (by omega) (by omega)]; omega, h5, g5.mono (by omega), by rw [ex5]; exact ex4⟩
  · refine tick_law h4 g4 (by omega) (by omega) fun m5 r5 k5 w5 h5 g5 ex5 => Bm.neg rfl ?_
    have h5d := h5.drew
    have next : ∀ tt : Bool, hostlaw_World_Settle.B1 (some ⟨a, 0, none⟩) (IntKind.i64.wrap (cal + 1)) (q : Int) tt w5.drew (fun a' cal rr w' => ∃ m', m' < 120 - q ∧ ∃ (q : Nat) (m'_1 : LH) (r' : LR) (k' : LC), q ≤ 120 ∧ m' = 120 - q ∧ some ⟨a, 0, none⟩ = a' ∧ rr = (q : Int) ∧ 0 ≤ cal ∧ cal ≤ q ∧ LawAt w0 w' a m'_1 r' k' ∧ Good (n + 29250 * q) m'_1 r' k') R := fun tt => by
      unfold hostlaw_World_Settle.B1 hostlaw_World_Settle.B2
      rw [w64 (by omega) (by omega), w64 (by omega) (by omega)]
      refine Bm.mk (fun _ => ⟨120 - (q + 1), by omega, q + 1, m5, r5, k5, by omega, rfl, rfl, by omega, by omega, by omega, h5d, g5.mono (by omega)⟩) (fun _ => ⟨120 - (q + 1), by omega, q + 1, m5, r5, k5, by omega, rfl, rfl, by omega, by omega, by omega, h5d, g5.mono (by omega)⟩)
    have ox : Own w5.drew lb #[.int .i64 (k1.lost 0), .int .i64 (k1.lost 1), .int .i64 (k1.lost 2)] 45 := h5d.r.x (lb, _) (by rw [ex5, ex4]; exact List.mem_singleton.2 rfl)
    refine Pn.mk (h5d.ldI (v := k5.sp) (by omega) rfl (Bm.mk (fun _ => next true) fun _ => Pn.mk (h5d.ldLost0 (h5d.ldLost1 (by omega) (h5d.ldLost1 (by omega) (LdI.mk ox rfl (LdI.mk ox rfl (LdI.mk ox rfl (next _)))))))))
end
end Go.Proofs.Qxb6500424aGreat
