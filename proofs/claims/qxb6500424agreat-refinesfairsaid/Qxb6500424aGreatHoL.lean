/-
  host: the calls: Close, Abort; what a host shows: Socks, Info, Clock, Lost.
-/
import Derived.Test.Qxb6500424aGreatHoK
set_option linter.unusedVariables false
set_option linter.unusedSimpArgs false
open Go.Vc
namespace Go.Proofs.Qxb6500424aGreat
section
variable {w w' w0 : World} {B : HB} {h : HS} {n : Int}
theorem lisB_ne {K : Sk.SkS} {sd : Int} (hK : Sk.SkOk K) (h : lisB K.E sd = true) : sd ≠ 0 := by
  unfold lisB at h
  split at h
  · cases h
  · rename_i a ha
    obtain ⟨h1, h2⟩ := getE_mem ha
    have := hK.ei.sd a h1
    omega
theorem endT_lis {f : CS → OutC} {sd : Int} {t : TC} (h : lisB t.K.E sd = true) : endT f sd t = ⟨(), 0, (shutT sd t).1, (shutT sd t).2⟩ := by unfold endT; rw [if_pos h]
theorem Post.via {w1 : World} {F : List (List Int)} {r : HS × List (List Int)} {R : Option Addr → Nat → Nat → World → Prop} (he : Ext [] w w1) (hR : Post w B F r R) : Post w1 B F r R := fun b l c F' w' h1 h2 h3 h4 =>
  hR b l c F' w' ⟨h1.row, h1.dat, h1.asc, fun e hm => Nat.le_trans he.size (h1.ge e hm), fun k hk => Nat.le_trans he.size (h1.blk k hk), h1.cap⟩ h2 h3 ((he.nil (T := B.all)).trans h4)
theorem close_ok {sd : Int} {R : Option Addr → Nat → Nat → Int → World → Prop} (hh : HostAt w B h) (ok : HsOk n h) (hn : n ≤ 36028797018963968) (hR : PostC w B h (endT closeF sd h.t) R) : host_Host_Close.Call (some ⟨B.hp, 0, none⟩) sd w R := by
  apply host_Host_Close.sound
  unfold host_Host_Close.B0
  refine listener_ok hh ok fun w1 he1 => Bm.mk (fun ql => ?_) (fun ql => ?_)
  · rw [endT_lis ql] at hR
    exact shut_ok (hh.ext0 he1) ok hn (lisB_ne ok.sk ql) (Post.via he1 (hR.ok rfl))
  refine ours_ok (hh.ext0 he1) ok fun w2 he2 => New.mk fun en w3 een hs3 oen he3 => ?_
  have z1 := (he1.trans he2).size
  refine Sts.full (vs := Sk.entVs (Sk.getV h.t.K.E sd).1) oen rfl rfl fun w4 hs4 o4 he4 => ?_
  have E4 : Ext [] w w4 := ((he1.trans he2).trans he3).trans' he4 (fun y hy hl => by simp at hy; omega)
  have X4 : Ext B.all w w4.drew := (E4.trans (Ext.drew _ _)).nil
  cases ho : oursE h.t.K.E sd with
  | none =>
    have es : endT closeF sd h.t = ⟨(), 21, h.t, []⟩ := by unfold endT; rw [if_neg (by rw [ql]; decide), ho]
    rw [es] at hR
    exact Bm.pos rfl (hR.err (show (21 : Int) ≠ 0 by decide) w4 (hh.ext0 E4) E4.nil)
  | some a =>
    obtain ⟨hg, hka, hp⟩ := oursE_kind ho
    rw [getV_some hg] at o4
    have ha := getE_mem hg
    have con := (ok.sk.ei.ok a ha.1).con hka
    have hs0 : 0 ≤ a.1.slot := con.2.2.2.2.2.2.1
    have hs4' : a.1.slot < 4 := con.2.2.2.2.2.2.2.1
    have hsl : a.1.slot.toNat < 4 := by omega
    have k4 := (hh.ext0 E4).drew
    refine Bm.neg rfl (LdI.mk o4.drew rfl (Pn.mk ⟨⟨hs0, hs4'⟩, hostCx k4 hs0 hs4' ?_⟩))
    refine cClose_ok (k4.C _ hsl) (ok.cs _ hsl) ?_
    intro sb sl sc E w5 hS5 hG5 hC5 he5 hl5
    refine call_fin (r := endT closeF sd h.t) (v := ()) (v0 := ()) (R := fun _ b l c e w' => R b l c e w') k4 ok (by omega) X4 ha.1 hka (closeF_ok (ok.cs _ hsl)) hC5 he5 hS5 hG5 hl5 o4.drew ?_ hR
    unfold endT
    rw [if_neg (by rw [ql]; decide), ho]
    rfl
theorem abort_ok {sd : Int} {R : Option Addr → Nat → Nat → Int → World → Prop} (hh : HostAt w B h) (ok : HsOk n h) (hn : n ≤ 36028797018963968) (hR : PostC w B h (endT abortF sd h.t) R) : host_Host_Abort.Call (some ⟨B.hp, 0, none⟩) sd w R := by
  apply host_Host_Abort.sound
  unfold host_Host_Abort.B0
  refine listener_ok hh ok fun w1 he1 => Bm.mk (fun ql => ?_) (fun ql => ?_)
  · rw [endT_lis ql] at hR
    exact shut_ok (hh.ext0 he1) ok hn (lisB_ne ok.sk ql) (Post.via he1 (hR.ok rfl))
  refine ours_ok (hh.ext0 he1) ok fun w2 he2 => New.mk fun en w3 een hs3 oen he3 => ?_
  have z1 := (he1.trans he2).size
  refine Sts.full (vs := Sk.entVs (Sk.getV h.t.K.E sd).1) oen rfl rfl fun w4 hs4 o4 he4 => ?_
  have E4 : Ext [] w w4 := ((he1.trans he2).trans he3).trans' he4 (fun y hy hl => by simp at hy; omega)
  have X4 : Ext B.all w w4.drew := (E4.trans (Ext.drew _ _)).nil
  cases ho : oursE h.t.K.E sd with
  | none =>
    have es : endT abortF sd h.t = ⟨(), 21, h.t, []⟩ := by unfold endT; rw [if_neg (by rw [ql]; decide), ho]
    rw [es] at hR
    exact Bm.pos rfl (hR.err (show (21 : Int) ≠ 0 by decide) w4 (hh.ext0 E4) E4.nil)
  | some a =>
    obtain ⟨hg, hka, hp⟩ := oursE_kind ho
    rw [getV_some hg] at o4
    have ha := getE_mem hg
    have con := (ok.sk.ei.ok a ha.1).con hka
    have hs0 : 0 ≤ a.1.slot := con.2.2.2.2.2.2.1
    have hs4' : a.1.slot < 4 := con.2.2.2.2.2.2.2.1
    have hsl : a.1.slot.toNat < 4 := by omega
    have k4 := (hh.ext0 E4).drew
    refine Bm.neg rfl (LdI.mk o4.drew rfl (Pn.mk ⟨⟨hs0, hs4'⟩, hostCx k4 hs0 hs4' ?_⟩))
    refine cAbort_ok (k4.C _ hsl) (ok.cs _ hsl) ?_
    intro sb sl sc E w5 hS5 hG5 hC5 he5 hl5
    refine call_fin (r := endT abortF sd h.t) (v := ()) (v0 := ()) (R := fun _ b l c e w' => R b l c e w') k4 ok (by omega) X4 ha.1 hka (abortF_ok (ok.cs _ hsl)) hC5 he5 hS5 hG5 hl5 o4.drew ?_ hR
    unfold endT
    rw [if_neg (by rw [ql]; decide), ho]
    rfl
theorem socks_ok {R : Option Addr → Nat → Nat → World → Prop} (hh : HostAt w B h) (ok : HsOk n h) (hR : ∀ r w', w.heap.size ≤ r → Sk.IAt w' r (sdsE h.t.K.E) → Ext [] w w' → R (some ⟨r, 0, none⟩) (sdsE h.t.K.E).length (sdsE h.t.K.E).length w') : host_Host_Socks.Call (some ⟨B.hp, 0, none⟩) w R := by
  apply host_Host_Socks.sound
  unfold host_Host_Socks.B0
  refine Pn.mk (hostLdP (o := 17) hh (by omega) rfl ?_)
  refine Sk.realList_ok hh.T ok.sk fun r w' h1 h2 h3 => ?_
  have := hR r w' h1 h2 h3
  rw [show (sdsE h.t.K.E).length = h.t.K.E.length by simp [sdsE]] at this
  exact this
theorem clock_ok {R : Int → World → Prop} (hh : HostAt w B h) (hR : R h.clk w) : host_Host_Clock.Call (some ⟨B.hp, 0, none⟩) w R := by
  apply host_Host_Clock.sound
  unfold host_Host_Clock.B0
  exact Pn.mk (hostLdI (o := 1) hh (by omega) rfl hR)
theorem lost_ok {R : Int → World → Prop} (hh : HostAt w B h) (hR : R h.lost w) : host_Host_Lost.Call (some ⟨B.hp, 0, none⟩) w R := by
  apply host_Host_Lost.sound
  unfold host_Host_Lost.B0
  exact Pn.mk (hostLdI (o := 2) hh (by omega) rfl hR)
/-- What Info shows of a row's block. -/
def infoC (t : TC) (a : Sk.AE) : CS := if a.1.kind = 2 then t.C (slotN a) else C0
def siArr (e : Sk.Ent) (p : Option Addr) : Array Value := #[.int .i64 e.sd, .int .i64 e.kind, .int .i64 e.lp, .int .i64 e.rh, .int .i64 e.rp, .int .i64 e.slot, .int .i64 e.par, .bool e.rdy, .pointer p]
theorem zeroInfo : (#[.int .i64 0, .int .i64 0, .bool false, .bool false, .bool false, .bool false, .int .i64 0, .int .i64 0, .int .i64 0, .int .i64 0, .int .i64 0, .int .i64 0, .int .i64 0, .int .i64 0, .int .i64 0, .int .i64 0, .int .i64 0, .int .i64 0] : Array Value) = fnArr 18 (inF C0 (inV C0)) := by
  refine fnArr_ext (n := 18) rfl ?_
  intro j hj
  have : j = 0 ∨ j = 1 ∨ j = 2 ∨ j = 3 ∨ j = 4 ∨ j = 5 ∨ j = 6 ∨ j = 7 ∨ j = 8 ∨ j = 9 ∨ j = 10 ∨ j = 11 ∨ j = 12 ∨ j = 13 ∨ j = 14 ∨ j = 15 ∨ j = 16 ∨ j = 17 := by omega
  rcases this with rfl | rfl | rfl | rfl | rfl | rfl | rfl | rfl | rfl | rfl | rfl | rfl | rfl | rfl | rfl | rfl | rfl | rfl <;> rfl
theorem info_ok {sd : Int} {R : Int → Int → Int → Int → Int → Int → Int → Bool → Option Addr → Int → World → Prop} (hh : HostAt w B h) (ok : HsOk n h)
    (hR0 : Sk.getE h.t.K.E sd = none → ∀ w', Ext [] w w' → R 0 0 0 0 0 0 0 false none 21 w')
    (hR1 : ∀ a, Sk.getE h.t.K.E sd = some a → ∀ ib w', w.heap.size ≤ ib → InAt w' ib (infoC h.t a) → Ext [] w w' → R a.1.sd a.1.kind a.1.lp a.1.rh a.1.rp a.1.slot a.1.par a.1.rdy (some ⟨ib, 0, none⟩) 0 w') : host_Host_Info.Call (some ⟨B.hp, 0, none⟩) sd w R := by
  apply host_Host_Info.sound
  unfold host_Host_Info.B0
  refine New.mk fun b4 w1 eb hs1 ob he1 => Pn.mk (hostLdP (o := 17) (hh.ext0 he1) (by omega) rfl ?_)
  refine Sk.realGet_ok (hh.ext0 he1).T ok.sk fun w2 he2 => New.mk fun en w3 een hs3 oen he3 => ?_
  have z1 := he1.size
  have z2 := he2.size
  refine Sts.full (vs := Sk.entVs (Sk.getV h.t.K.E sd).1) oen rfl rfl fun w4 hs4 o4 he4 => ?_
  have E4 : Ext [] w w4 := ((he1.trans he2).trans he3).trans' he4 (fun y hy hl => by simp at hy; omega)
  have ob4 : Own w4 b4 _ _ := he4.own (he3.own (he2.own ob (by simp)) (by simp)) (by simp; omega)
  cases hg : Sk.getE h.t.K.E sd with
  | none =>
    refine Bm.pos (by rw [getV_none hg]; rfl) ?_
    refine Sts.full (vs := [.int .i64 0, .int .i64 0, .int .i64 0, .int .i64 0, .int .i64 0, .int .i64 0, .int .i64 0, .bool false, .pointer none]) ob4 rfl rfl fun w5 hs5 o5 he5 => ?_
    refine LdI.mk o5 rfl (LdI.mk o5 rfl (LdI.mk o5 rfl (LdI.mk o5 rfl (LdI.mk o5 rfl (LdI.mk o5 rfl (LdI.mk o5 rfl (LdB.mk o5 rfl (LdP.mk o5 rfl ?_))))))))
    exact hR0 hg w5 (E4.trans' he5 (fun y hy hl => by simp at hy; omega))
  | some a =>
    rw [getV_some hg] at o4 ⊢
    have ha := getE_mem hg
    refine Bm.neg rfl (Sk.ldEntB o4 (New.mk fun s_ w6 es hs6 os he6 => ?_))
    refine Sts.full (vs := [.int .i64 a.1.sd, .int .i64 a.1.kind, .int .i64 a.1.lp, .int .i64 a.1.rh, .int .i64 a.1.rp, .int .i64 a.1.slot, .int .i64 a.1.par, .bool a.1.rdy, .pointer none]) os rfl rfl fun w7 hs7 o7 he7 => ?_
    have z4 := E4.size
    have E7 : Ext [] w w7 := (E4.trans he6).trans' he7 (fun y hy hl => by simp at hy; omega)
    have en4 := o4.lt
    have o7e := he7.own (he6.own o4 (by simp)) (by simp; omega)
    have b4l := ob4.lt
    have ob7 := he7.own (he6.own ob4 (by simp)) (by simp; omega)
    have fin : ∀ {ib : Nat} {w9 : World}, w.heap.size ≤ ib → ib ≠ b4 → InAt w9 ib (infoC h.t a) → Ext [] w w9 → Own w9 s_ (siArr a.1 (some ⟨ib, 0, none⟩)) 69 → (∃ C, Own w9 b4 C 69 ∧ C.size = 9) → host_Host_Info.B1 b4 s_ w9 R := fun {ib w9} hib hne hin E9 o9 ob9 => by
      unfold host_Host_Info.B1
      obtain ⟨C, ob9, hC⟩ := ob9
      refine LdI.mk o9 rfl (LdI.mk o9 rfl (LdI.mk o9 rfl (LdI.mk o9 rfl (LdI.mk o9 rfl (LdI.mk o9 rfl (LdI.mk o9 rfl (LdB.mk o9 rfl (LdP.mk o9 rfl ?_))))))))
      refine Sts.full (vs := [.int .i64 a.1.sd, .int .i64 a.1.kind, .int .i64 a.1.lp, .int .i64 a.1.rh, .int .i64 a.1.rp, .int .i64 a.1.slot, .int .i64 a.1.par, .bool a.1.rdy, .pointer (some ⟨ib, 0, none⟩)]) ob9 (by rw [hC]; rfl) rfl fun w10 hs10 o10 he10 => ?_
      refine LdI.mk o10 rfl (LdI.mk o10 rfl (LdI.mk o10 rfl (LdI.mk o10 rfl (LdI.mk o10 rfl (LdI.mk o10 rfl (LdI.mk o10 rfl (LdB.mk o10 rfl (LdP.mk o10 rfl ?_))))))))
      exact hR1 a hg ib w10 hib (he10.own hin (by simp; exact hne)) (E9.trans' he10 (fun y hy hl => by simp at hy; omega))
    refine LdI.mk o7e rfl (Bm.mk (fun q => ?_) (fun q => ?_))
    · have hka : a.1.kind = 2 := beqT q
      have con := (ok.sk.ei.ok a ha.1).con hka
      have hs0 : 0 ≤ a.1.slot := con.2.2.2.2.2.2.1
      have hs4' : a.1.slot < 4 := con.2.2.2.2.2.2.2.1
      have hsl : a.1.slot.toNat < 4 := by omega
      have k7 := (hh.ext0 E7).drew
      refine LdI.mk o7e.drew rfl (Pn.mk ⟨⟨hs0, hs4'⟩, hostCx k7 hs0 hs4' ?_⟩)
      have hok := ok.cs _ hsl
      refine cInfo_ok (k7.C _ hsl) hok.S hok.B fun ib w8 hib hin he8 => ?_
      have o8 := he8.own o7.drew (by simp)
      refine Sts.mk o8 (by simp) rfl fun w9 hs9 o9 he9 => ?_
      have zd : w7.drew.heap.size = w7.heap.size := rfl
      have s7 := o7.lt
      have ei : infoC h.t a = h.t.C a.1.slot.toNat := by unfold infoC; rw [if_pos hka]; rfl
      refine fin (by have := E7.size; omega) (by have := ob7.lt; omega) (by rw [ei]; exact he9.own hin (by simp; omega)) (((E7.trans (Ext.drew _ _)).trans he8).trans' he9 (fun y hy hl => by simp at hy; omega)) o9 ⟨_, he9.own (he8.own ob7.drew (by simp)) (by simp; omega), rfl⟩
    · have hka : a.1.kind ≠ 2 := beqF q
      refine New.mk fun ib w10 eib hs10 oib he10 => ?_
      have o10 := he10.own o7 (by simp)
      refine Sts.mk o10 (by simp) rfl fun w11 hs11 o11 he11 => ?_
      have s7 := o7.lt
      have ei : infoC h.t a = C0 := by unfold infoC; rw [if_neg hka]
      refine fin (by have := E7.size; omega) (by have := ob7.lt; omega) ?_ ((E7.trans he10).trans' he11 (fun y hy hl => by simp at hy; omega)) o11 ⟨_, he11.own (he10.own ob7 (by simp)) (by simp; omega), rfl⟩
      rw [ei]
      unfold InAt
      rw [← zeroInfo]
      exact he11.own oib (by simp; omega)
end
end Go.Proofs.Qxb6500424aGreat
