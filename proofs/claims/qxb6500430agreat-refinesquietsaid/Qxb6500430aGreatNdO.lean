/-
  nodelaw: the ground, the cut, the plays.
-/
import Derived.Test.Qxb6500430aGreatNdN
set_option linter.unusedVariables false
set_option linter.unusedSimpArgs false
open Go.Vc
namespace Go.Proofs.Qxb6500430aGreat
open Kv
section
variable {w w' : World} {d : Nat} {D : DiskS} {F : List Nat} {A : AbsS} {L : LogS} {N : Int}
theorem gSteps_ok {b1 : Option Addr} {b2 : Int} {R : Int → World → Prop} (hD : DiskAt w d D F) (hR : ∀ w', Ext [] w w' → R (D.log.length : Int) w') : nodelaw_Steps.Call (some ⟨d, 0, none⟩) b1 b2 w R := by
  apply nodelaw_Steps.sound
  unfold nodelaw_Steps.B0
  exact New.mk fun b w1 hb hs1 ob1 he1 => LdP.mk ob1 rfl (diskSteps_ok (hD.ext he1 (by simp)) (hR w1 he1))
theorem gMark_ok {b1 : Option Addr} {b2 : Int} {R : World → Prop} (hD : DiskAt w d D F) (hR : ∀ w' F', DiskAt w' d D.marked F' → Ext F w w' → Grew w F F' → R w') : nodelaw_Mark.Call (some ⟨d, 0, none⟩) b1 b2 w R := by
  apply nodelaw_Mark.sound
  unfold nodelaw_Mark.B0
  exact New.mk fun b w1 hb hs1 ob1 he1 => LdP.mk ob1 rfl (diskMark_ok (hD.ext he1 (by simp)) fun w2 F2 hD2 he2 hg2 => hR w2 F2 hD2 (he1.nil.trans he2) (fun k hk => (hg2 k hk).imp id (fun z => by have := he1.size; omega)))
theorem raise_ok {i : Int} {R : Option Addr → Option Addr → Int → World → Prop} (hD : DiskAt w d D F) (hwf : DiskWf D) (hi : LikeI D.now A) (hp : Path D [L] N) (hlog : D.log.length ≤ 100) (hh : Holds A L) (okL : LogOk L)
    (hR : ∀ s l t e D' F' A' w', w.heap.size ≤ s → w.heap.size ≤ l → w.heap.size ≤ t → w.heap.size ≤ e → Rest w' s l t d e D' F' A' (openY i L) → Path D' [L] N → D'.log.length ≤ D.log.length + 12 → (Clean A L → D' = D) → Ext F w w' → Grew w F F' → R (some ⟨d, 0, none⟩) (some ⟨s, 0, none⟩) i w') : nodelaw_raise.Call (some ⟨d, 0, none⟩) i w R := by
  apply nodelaw_raise.sound
  unfold nodelaw_raise.B0
  refine New.mk fun b4 w1 hb hs1 ob1 he1 => open_ok (hD.ext he1 (by simp)) hwf fun t w2 ht hS2 he2 => ?_
  have z1 := he1.size
  have z2 := he2.size
  have E2 := he1.trans he2
  have st2 : St w2 t d D F A := ⟨hS2, hD.ext E2 (by simp), hi⟩
  refine openL_ok st2 hp hlog hh okL fun l w3 D3 F3 A3 hl r3 p3 q3 c3 he3 hg3 => El.realNew_ok fun e w4 hle re4 he4 => openS_ok (r3.ext0 he4) re4 fun s w5 hs5 rest5 he5 => ?_
  have z3 := he3.size
  have z4 := he4.size
  have z5 := he5.size
  have ob3 := ownT he3 st2.tys (he2.own ob1 (by simp)) (by decide)
  have ob5 := ownT he5 (Tys.one re4) (he4.own ob3 (by simp)) (by decide)
  refine Sts.full ob5 rfl rfl fun w6 hs6 ob6 he6 => LdP.mk ob6 rfl (LdP.mk ob6 rfl (LdI.mk ob6 rfl ?_))
  have x6 : ExtT w5 w6 [T_nodelaw_Below] := ExtT.of he6 (Tys.one ob5)
  refine hR s l t e D3 F3 A3 w6 (by omega) (by omega) (by omega) (by omega) (rest5.extT x6 (by decide)) p3 q3 c3 ?_ (fun k hk => (hg3 k hk).imp id fun z => by omega)
  have e3 : Ext F w w3 := E2.nil.trans' he3 (fun y hy hl => by
    rcases List.mem_cons.1 hy with q | q
    · omega
    · exact q)
  exact ((e3.trans he4.nil).trans' he5 (fun y hy hl => by simp at hy; omega)).trans' he6 (fun y hy hl => by simp at hy; omega)
theorem gGround_ok {i : Int} {R : Option Addr → Option Addr → Int → World → Prop} (hR : ∀ d s l t e F A w', (∀ y ∈ s :: e :: l :: t :: F, w.heap.size ≤ y) → Rest w' s l t d e freshDisk F A (openY i L0) → Path freshDisk [L0] 0 → Ext [] w w' → R (some ⟨d, 0, none⟩) (some ⟨s, 0, none⟩) i w') : nodelaw_Ground.Call i w R := by
  apply nodelaw_Ground.sound
  unfold nodelaw_Ground.B0
  refine New.mk fun b w1 hb hs1 ob1 he1 => diskNew_ok fun d F w2 hd hF hD2 he2 => ?_
  have hz1 := he1.size
  have hz2 := he2.size
  have p0 : Path freshDisk [L0] 0 := path_marked (D := freshDisk) fresh_good fresh_like holds_0
  refine raise_ok hD2 fresh_good.wf fresh_like p0 (by simp [freshDisk]) holds_0 L0_ok fun s l t e D3 F3 A3 w3 hs hl ht hle rest3 p3 q3 c3 he3 hg3 => ?_
  have hD3 := c3 clean_0
  subst hD3
  have hz3 := he3.size
  have obl := ob1.lt
  have ob3 := he3.own (he2.own ob1 (by simp)) (fun hx => by have := hF b hx; omega)
  refine Sts.full ob3 rfl rfl fun w4 hs4 ob4 he4 => LdP.mk ob4 rfl (LdP.mk ob4 rfl (LdI.mk ob4 rfl ?_))
  have x4 : ExtT w3 w4 [T_nodelaw_Below] := ExtT.of he4 (Tys.one ob3)
  refine hR d s l t e F3 A3 w4 (fun y hy => ?_) (rest3.extT x4 (by decide)) p3 ?_
  · simp only [List.mem_cons] at hy
    rcases hy with q | q | q | q | q
    · omega
    · omega
    · omega
    · omega
    · rcases hg3 y q with z | z
      · have := hF y z; omega
      · omega
  · exact ((he1.trans he2).trans' he3 (fun y hy hl => by have := hF y hy; omega)).trans' he4 (fun y hy hl => by simp at hy; omega)
theorem gAfter_ok {k i : Int} {b1 : Option Addr} {R : Option Addr → Option Addr → Int → World → Prop} (hD : DiskAt w d D F) (hm : ImgWf D.mark) (hl : LogWf D) (hL : D.log.length ≤ 1000) (hg : Good (img (cutI D k.toNat)) N) (hi : LikeI (cutI D k.toNat) A) (hh : Holds A L) (okL : LogOk L)
    (hR : ∀ n s l t e D' F' A' w', (∀ y ∈ s :: e :: l :: t :: F', w.heap.size ≤ y) → Rest w' s l t n e D' F' A' (openY i L) → Path D' [L] N → D'.log.length ≤ 12 → Ext [] w w' → R (some ⟨n, 0, none⟩) (some ⟨s, 0, none⟩) i w') : nodelaw_After.Call (some ⟨d, 0, none⟩) b1 i k w R := by
  apply nodelaw_After.sound
  unfold nodelaw_After.B0
  refine New.mk fun b w1 hb hs1 ob1 he1 => New.mk fun b4 w2 hb4 hs2 ob42 he2 => LdP.mk (he2.own ob1 (by simp)) rfl ?_
  have E2 : Ext [] w w2 := he1.trans he2
  refine diskAfter_ok (hD.ext E2 (by simp)) hm hl hL fun n F' w3 hF' hD3 he3 => diskMark_ok hD3 fun w4 F4 hD4 he4 hg4 => ?_
  have hz1 := he1.size
  have hz2 := E2.size
  have hz3 := he3.size
  have hz4 := he4.size
  have hb4F : b4 ∉ F' := fun hx => by have := hF' b4 hx; omega
  have hbF : b ∉ F' := fun hx => by have := hF' b hx; have := ob1.lt; omega
  have ob44 := he4.own (he3.own ob42 (by simp)) hb4F
  have ob14 := he4.own (he3.own (he2.own ob1 (by simp)) (by simp)) hbF
  have E4 : Ext [] w w4 := (E2.trans he3).trans' he4 (fun x hx hlt => by have := hF' x hx; omega)
  have hF4 : ∀ x ∈ F4, w2.heap.size ≤ x := fun x hx => by
    rcases hg4 x hx with q1 | q1
    · exact hF' x q1
    · omega
  have p8 : Path (img (cutI D k.toNat)) [L] N := path_marked (D := img (cutI D k.toNat)) hg hi hh
  refine LdI.mk ob14 rfl (raise_ok (D := img (cutI D k.toNat)) hD4 hg.wf hi p8 (by simp [img]) hh okL fun s l t e D5 F5 A5 w5 hs hl5 ht hle rest5 p5 q5 c5 he5 hg5 => ?_)
  have ob5 := he5.own ob44 (fun hx => by have := hF4 b4 hx; omega)
  refine Sts.full ob5 rfl rfl fun w6 hs6 ob6 he6 => LdP.mk ob6 rfl (LdP.mk ob6 rfl (LdI.mk ob6 rfl ?_))
  have x6 : ExtT w5 w6 [T_nodelaw_Below] := ExtT.of he6 (Tys.one ob5)
  have hlog5 : D5.log.length ≤ 12 := by simpa [img] using q5
  refine hR n s l t e D5 F5 A5 w6 (fun y hy => ?_) (rest5.extT x6 (by decide)) p5 hlog5 ?_
  · simp only [List.mem_cons] at hy
    rcases hy with q | q | q | q | q
    · omega
    · omega
    · omega
    · omega
    · rcases hg5 y q with z | z
      · have := hF4 y z; omega
      · omega
  · exact (E4.trans' he5 (fun y hy hl => by have := hF4 y hy; omega)).trans' he6 (fun y hy hl => by simp at hy; omega)
end
section
variable {w w' : World} {lo p s kp k l t d e : Nat} {D0 D : DiskS} {N : Int} {L0 : LogS} {F : List Nat} {A : AbsS} {n m : NS} {S : List LogS} {raw : Nat → Value} {Rs : List Rep} {lo2 p2 kp2 s2 q2 me2 : Nat} {M : MSt}
theorem gIdle_ok {b1 : Option Addr} {b2 : Int} {R : Bool → World → Prop} (hD : DiskAt w d D F) (hm : NMod w lo2 p2 kp2 s2 q2 me2 M m) (hi : M.H = [] → D.log = []) (hR : ∀ w', Ext [] w w' → R true w') : nodelaw_Idle.Call (some ⟨d, 0, none⟩) b1 b2 (some ⟨p2, 0, none⟩) w R := by
  apply nodelaw_Idle.sound
  unfold nodelaw_Idle.B0
  refine New.mk fun b w1 hb hs1 ob1 he1 => nmsteps_ok (hm.ext0 he1) (Bm.mk (fun _ => hR w1 he1) fun hz => LdP.mk ob1 rfl (LdP.mk ob1 rfl (LdI.mk ob1 rfl (gSteps_ok (hD.ext he1 (by simp)) fun w2 he2 => ?_))))
  have : M.H = [] := List.eq_nil_of_length_eq_zero (by simpa using hz)
  rw [hi this]
  exact hR w2 (he1.trans he2)
theorem gSeen_ok {b1 : Option Addr} {b2 : Int} {key : ByteArray} {R : Bool → World → Prop} (h : NReal w lo p kp k s l t d e D0 N L0 D F A n S raw Rs) (hm : NMod w lo2 p2 kp2 s2 q2 me2 M n) (hn : NOk n) (hR : ∀ w', Ext [] w w' → R true w') : nodelaw_Seen.Call (some ⟨p, 0, none⟩) (some ⟨p2, 0, none⟩) (some ⟨d, 0, none⟩) b1 b2 (D.log.length : Int) key w R := by
  apply nodelaw_Seen.sound
  unfold nodelaw_Seen.B0
  refine New.mk fun b w1 hb hs1 ob he1 => ncheck_ok (h.ext0 he1) hn fun w2 he2 => Bm.neg (by rw [str_e, decide_eq_true rfl]; rfl) ?_
  have E2 := he1.trans he2
  refine nsAlike_ok (h.ext0 E2) (hm.ext0 E2) hn hn fun x w3 _ g2 he3 => ?_
  rw [g2 rfl]
  have E3 := E2.trans he3
  have ob3 := (he2.trans he3).own ob (by simp)
  refine Bm.neg rfl (LdP.mk ob3 rfl (LdP.mk ob3 rfl (LdI.mk ob3 rfl (gSteps_ok ((h.ext0 E3).sm.rest.real.st.dk) fun w4 he4 => ?_))))
  rw [beq_self_eq_true]
  exact hR w4 (E3.trans he4)
theorem gMatch_ok {i : Int} {L L0' : LogS} {S' : List LogS} {R : Int → World → Prop} (h : NReal w lo p kp k s l t d e D0 N L0 D F A (openN i L) S raw Rs) (hL : LogOk L) (hm : NMod w lo2 p2 kp2 s2 q2 me2 M m) (h0 : M.A0 = gs L0') (hH : M.H.map (·.2) = S'.map gs) (hlen : S'.length ≤ 100) (hok : AllOk (L0' :: S')) (hin : L ∈ L0' :: S') (hid : m.Y.e.id = (El.newF i).id)
    (hR : ∀ (j : Nat) w', (L0' :: S')[j]? = some L → (∀ k, k < j → (L0' :: S')[k]? ≠ some L) → Ext [] w w' → R (j : Int) w') : nodelaw_Match.Call (some ⟨p, 0, none⟩) (some ⟨p2, 0, none⟩) w R := by
  apply nodelaw_Match.sound
  unfold nodelaw_Match.B0
  have hl : M.H.length = S'.length := by simpa using congrArg List.length hH
  have hidn : (El.newF i).id = (El.newF m.Y.e.id).id := by rw [hid, newF_idem]
  refine nmsteps_ok hm ?_
  unfold nodelaw_Match.L1
  refine ⟨fun mm a b n' j w' => some ⟨p, 0, none⟩ = a ∧ some ⟨p2, 0, none⟩ = b ∧ (M.H.length : Int) = n' ∧ ∃ k : Nat, j = (k : Int) ∧ k ≤ S'.length + 1 ∧ mm = S'.length + 1 - k ∧ Ext [] w w' ∧ ∀ i, i < k → (L0' :: S')[i]? ≠ some L, _, ⟨rfl, rfl, rfl, 0, rfl, by omega, rfl, Ext.refl _ _, fun i hi => by omega⟩, ?_⟩
  rintro mm a b n' j w1 ⟨rfl, rfl, rfl, kk, rfl, hk, rfl, hE, hno⟩
  unfold nodelaw_Match.L1b
  rw [hl]
  refine Bm.ite (fun hc => ?_) fun hc => ?_
  · obtain ⟨X, hX⟩ : ∃ X, (L0' :: S')[kk]? = some X := ⟨_, List.getElem?_eq_getElem (by simp; omega)⟩
    have okX := hok X (List.mem_of_getElem? hX)
    refine nmAfter_ok (i := i) (hm.ext0 hE) (by omega) (at_get h0 hH hX) okX hidn fun p' kp' s' q' e' M' w2 hM' hA0' hH' he2 => ?_
    have E2 := hE.trans he2
    refine nsAlike_ok (h.ext0 E2) hM' (open_ok' i hL) (open_ok' i okX) fun x w3 g1 g2 he3 => ?_
    have E3 := E2.trans he3
    cases x with
    | true =>
      have ee : L = X := by
        have := g1 rfl
        rw [openN_Y, openN_Y] at this
        exact this
      subst ee
      exact Bm.pos rfl (hR kk w3 hX hno E3)
    | false =>
      refine Bm.neg rfl ?_
      rw [w64 (by omega) (by omega)]
      refine ⟨S'.length + 1 - (kk + 1), by omega, rfl, rfl, rfl, kk + 1, by omega, by omega, rfl, E3, fun i' hi' => ?_⟩
      by_cases ei : i' = kk
      · rw [ei, hX]
        intro e2'
        have := g2 (by rw [← Option.some.inj e2'])
        cases this
      · exact hno i' (by omega)
  · exfalso
    obtain ⟨i', hi'⟩ := List.getElem?_of_mem hin
    have := (List.getElem?_eq_some_iff.1 hi').1
    exact hno i' (by simp at this; omega) hi'
/-! ### commands and messages of a script -/
def spN (t : ByteArray) : Nat → Nat → ByteArray × ByteArray
  | 0, _ => (t, estr)
  | f + 1, i => if byteAt t (i : Int) = 124 then (t.extract 0 i, t.extract (i + 1) t.size) else spN t f (i + 1)
def sp (t : ByteArray) : ByteArray × ByteArray := spN t t.size 0
theorem spN_size (t : ByteArray) : ∀ (f i : Nat), (spN t f i).2.size ≤ t.size
  | 0, i => Nat.zero_le _
  | f + 1, i => by
    unfold spN
    split
    · rw [← strB_length, strB_extract, ← strB_length t]
      simp
    · exact spN_size t f (i + 1)
theorem splitBar_ok {t : ByteArray} {R : ByteArray → ByteArray → World → Prop} (ht : t.size ≤ 281474976710656) (hR : ∀ w', Ext [] w w' → R (sp t).1 (sp t).2 w') : nodelaw_SplitBar.Call t w R := by
  apply nodelaw_SplitBar.sound
  unfold nodelaw_SplitBar.B0
  refine ⟨fun mm t' i w' => ∃ n : Nat, n ≤ t.size ∧ mm = t.size - n ∧ t = t' ∧ i = (n : Int) ∧ sp t = spN t (t.size - n) n ∧ w = w', _, ⟨0, Nat.zero_le _, rfl, rfl, rfl, rfl, rfl⟩, ?_⟩
  rintro mm t' i w' ⟨n, hn, rfl, rfl, rfl, hsp, rfl⟩
  unfold nodelaw_SplitBar.L1b
  refine Bm.ite (fun hlt => ⟨⟨by omega, hlt⟩, ?_⟩) fun hge => ?_
  · rw [show t.size - n = (t.size - (n + 1)) + 1 by omega, spN] at hsp
    rw [w64 (by omega) (by omega)]
    by_cases hc : byteAt t (n : Int) = 124
    · rw [if_pos hc] at hsp
      rw [hsp] at hR
      refine Bm.pos (by simp [hc]) ⟨⟨by omega, by omega⟩, ⟨by omega, by omega⟩, ?_⟩
      rw [Int.toNat_natCast, Int.toNat_natCast, Int.toNat_natCast, show ((n : Int) + 1).toNat = n + 1 by omega]
      exact hR _ (Ext.drew _ _)
    · rw [if_neg hc] at hsp
      exact Bm.neg (by simp [hc]) ⟨_, by omega, n + 1, by omega, rfl, rfl, by omega, hsp, rfl⟩
  · rw [show t.size - n = 0 by omega] at hsp
    rw [hsp] at hR
    exact hR w (Ext.refl _ _)
def cmdN (o : OpV) : CmdS := if o.a = 1 then ⟨o.a, o.b, o.c, o.s, o.t, estr⟩ else ⟨o.a, o.b, o.c, o.s, (sp o.t).2, (sp o.t).1⟩
theorem cmdOfN_ok {o : OpV} {R : Int → Int → Int → ByteArray → ByteArray → ByteArray → World → Prop} (ho : o.Wf) (hR : ∀ w', Ext [] w w' → R (cmdN o).op (cmdN o).cl (cmdN o).seq (cmdN o).key (cmdN o).val (cmdN o).old w') : nodelaw_CmdOf.Call o.k o.a o.b o.c o.s o.t w R := by
  apply nodelaw_CmdOf.sound
  unfold nodelaw_CmdOf.B0
  refine New.mk fun p w1 hp hs1 ho1 he1 => New.mk fun t2 w2 ht2 hs2 ho2 he2 => ?_
  have hop := he2.own ho1 (by simp)
  refine LdI.mk hop rfl (LdI.mk hop rfl (LdI.mk hop rfl (LdS.mk hop rfl (NewSet.mk rfl rfl fun c w3 hc hs3 ho3 he3 => ?_))))
  have hop3 := he3.own hop (by simp)
  have q3 : CmdAt w3 t2 noCmd := he3.own ho2 (by simp)
  have e3 := (he1.trans he2).trans he3
  have hz := he1.size
  have fin : ∀ w4, CmdAt w4 c (cmdN o) → CmdAt w4 t2 noCmd → Ext [] w w4 → LdI .i64 ⟨c, 0, none⟩ w4 fun x0 => LdI .i64 ⟨c, 1, none⟩ w4 fun x1 => LdI .i64 ⟨c, 2, none⟩ w4 fun x2 => LdS ⟨c, 3, none⟩ w4 fun x3 => LdS ⟨c, 4, none⟩ w4 fun x4 => LdS ⟨c, 5, none⟩ w4 fun x5 => Sts [.int .i64 x0, .int .i64 x1, .int .i64 x2, .string x3, .string x4, .string x5] ⟨t2, 0, none⟩ 0 w4 fun w6 => LdI .i64 ⟨t2, 0, none⟩ w6 fun r0 => LdI .i64 ⟨t2, 1, none⟩ w6 fun r1 => LdI .i64 ⟨t2, 2, none⟩ w6 fun r2 => LdS ⟨t2, 3, none⟩ w6 fun r3 => LdS ⟨t2, 4, none⟩ w6 fun r4 => LdS ⟨t2, 5, none⟩ w6 fun r5 => R r0 r1 r2 r3 r4 r5 w6 := fun w4 g q e4 =>
    g.all (Sts.full (vs := cmdVs (cmdN o)) q rfl rfl fun w5 hs5 ho5 he5 => CmdAt.all (c := cmdN o) ho5 (hR w5 (up1 e4 he5 (by omega))))
  refine LdI.mk hop3 rfl (Bm.mk (fun e4 => ?_) fun e4 => ?_)
  · have e4' : o.a = 1 := by simpa using e4
    have hcm : cmdN o = ⟨o.a, o.b, o.c, o.s, o.t, estr⟩ := by unfold cmdN; rw [if_pos e4']
    refine LdS.mk hop3 rfl (Sts.mk ho3 (by simp) rfl fun w5 hs5 ho5 he5 => ?_)
    refine fin w5 ?_ (q3.ext he5 (by simp; omega)) (up1 e3 he5 (by omega))
    rw [hcm]
    exact ho5
  · have e4' : o.a ≠ 1 := by simpa using e4
    have hcm : cmdN o = ⟨o.a, o.b, o.c, o.s, (sp o.t).2, (sp o.t).1⟩ := by unfold cmdN; rw [if_neg e4']
    refine LdS.mk hop3 rfl (splitBar_ok (by have := ho.t; omega) fun w4 he4 => ?_)
    have g4 := he4.own ho3 (by simp)
    refine Sts.mk g4 (by simp) rfl fun w5 hs5 ho5 he5 => Sts.mk ho5 (by simp [size_putArr]) rfl fun w6 hs6 ho6 he6 => ?_
    have e6 : Ext [] w w6 := up1 (up1 (e3.trans he4) he5 (by omega)) he6 (by omega)
    refine fin w6 ?_ (((q3.ext0 he4).ext he5 (by simp; omega)).ext he6 (by simp; omega)) e6
    rw [hcm]
    exact ho6
def entsOf (c : Int) : Nat → ByteArray → List EntV
  | 0, _ => []
  | f + 1, r => if r = estr then [] else (c, (sp r).1) :: entsOf c f (sp r).2
theorem entsOf_len (c : Int) : ∀ (f : Nat) (r : ByteArray), (entsOf c f r).length ≤ f
  | 0, r => by simp [entsOf]
  | f + 1, r => by
    unfold entsOf
    split
    · simp
    · have := entsOf_len c f (sp r).2
      simp
      exact this
def msgB0 (o : OpV) : MsgV :=
  let m : MsgV := ⟨3, 0, 1, 0, 0, 0, 0, false, [], o.s⟩
  if o.a = 1 then { m with kind := o.b } else if o.a = 2 then { m with fr := o.b } else if o.a = 3 then { m with to := o.b } else if o.a = 4 then { m with term := o.b } else if o.a = 5 then { m with idx := o.b }
  else if o.a = 6 then { m with lt := o.b } else if o.a = 7 then { m with cm := o.b } else if o.a = 8 then { m with ok := true } else m
def msgN (o : OpV) : MsgV := { msgB0 o with ents := entsOf o.c 3 o.t }
theorem msgOf_ok {o : OpV} {R : RM} (ho : o.Wf) (hR : ∀ rb rc w', EA w' rb (msgN o).ents.length rc (msgN o).ents → Ext [] w w' → R (msgN o).kind (msgN o).fr (msgN o).to (msgN o).term (msgN o).idx (msgN o).lt (msgN o).cm (msgN o).ok rb (msgN o).ents.length rc (msgN o).data w') : nodelaw_MsgOf.Call o.k o.a o.b o.c o.s o.t w R := by
  apply nodelaw_MsgOf.sound
  unfold nodelaw_MsgOf.B0
  refine New.mk fun ob w1 hob hs1 oo1 he1 => New.mk fun t2 w2 ht2 hs2 ot2 he2 => ?_
  have oo2 := he2.own oo1 (by simp)
  refine LdS.mk oo2 rfl (NewSet.mk rfl rfl fun m0 w4 hm0 hs4 om4 he4 => ?_)
  have E4 := (he1.trans he2).trans he4
  have oo4 := he4.own oo2 (by simp)
  have ot4 := he4.own ot2 (by simp)
  have z1 := he1.size
  have z2 := he2.size
  have htm : t2 ≠ m0 := by omega
  have hom : ob ≠ m0 := by omega
  have om4' : Own w4 m0 (msgC ⟨3, 0, 1, 0, 0, 0, 0, false, [], o.s⟩ none 0 0).toArray T_api_Msg := om4
  -- behind the field
  have b1 : ∀ {wx : World}, Own wx m0 (msgC (msgB0 o) none 0 0).toArray T_api_Msg → Ext [m0] w4 wx → nodelaw_MsgOf.B1 ob t2 m0 wx R := fun {wx} ox ex => by
    unfold nodelaw_MsgOf.B1
    have oox := ex.own oo4 (by simpa using hom)
    have otx := ex.own ot4 (by simpa using htm)
    refine LdS.mk oox rfl ?_
    unfold nodelaw_MsgOf.L1
    refine ⟨fun mm o' t' m' r w' => ∃ (j : Nat) (E : List EntV) (rb : Option Addr) (rc : Nat), j ≤ 3 ∧ mm = 3 - j ∧ ob = o' ∧ t2 = t' ∧ m0 = m' ∧ E.length = j ∧ E ++ entsOf o.c (3 - j) r = entsOf o.c 3 o.t ∧ r.size ≤ o.t.size ∧ Own w' m0 (msgC { msgB0 o with ents := E } rb j rc).toArray T_api_Msg ∧ EA w' rb j rc E ∧ (∀ y ∈ rowBlk rb, w4.heap.size ≤ y) ∧ Ext [m0] w4 w', _,
      ⟨0, [], none, 0, by omega, rfl, rfl, rfl, rfl, rfl, rfl, Nat.le_refl _, ox, EA.nil _, fun y hy => (by cases hy), ex⟩, ?_⟩
    rintro mm o' t' m' r wa ⟨j, E, rb, rc, hj, rfl, rfl, rfl, rfl, hEl, hEe, hrs, oa, hea, hrb, ea⟩
    unfold nodelaw_MsgOf.L1b
    have oaa := ea.own oo4 (by simpa using hom)
    have ota := ea.own ot4 (by simpa using htm)
    have Ea : Ext [] w wa := E4.trans' ea (fun y hy hl => by simp at hy; omega)
    -- the end
    have fin : entsOf o.c (3 - j) r = [] → ∀ tt : Bool, tt = false → ∀ N1, nodelaw_MsgOf.B2 ob t2 m0 r tt wa N1 R := fun hnil tt htt N1 => by
      unfold nodelaw_MsgOf.B2
      have hE3 : E = entsOf o.c 3 o.t := by rw [← hEe, hnil, List.append_nil]
      refine Bm.neg htt (retMsg oa ota rfl fun wz ez => ?_)
      have hm : { msgB0 o with ents := E } = msgN o := by unfold msgN; rw [hE3]
      have hlj : (msgN o).ents.length = j := by rw [← hm]; exact hEl
      have key := hR rb rc wz (by rw [hlj, ← hm]; exact rowT hea ez (Tys.one ota) (by decide)) (Ea.trans' ez (fun y hy hl => by simp at hy; omega))
      rw [hlj] at key
      rw [hm]
      exact key
    rw [str_e]
    by_cases hre : r = estr
    · rw [decide_eq_true hre]
      refine Bm.neg rfl (fin ?_ _ rfl _)
      cases h3 : 3 - j with
      | zero => rfl
      | succ f => unfold entsOf; rw [if_pos hre]
    · rw [decide_eq_false hre]
      refine Bm.pos rfl (LdL.mk oa rfl ?_)
      by_cases hj2 : ((j : Nat) : Int) ≤ 2
      rotate_left
      · rw [decide_eq_false hj2]
        refine fin ?_ _ rfl _
        rw [show 3 - j = 0 by omega]
        rfl
      rw [decide_eq_true hj2]
      unfold nodelaw_MsgOf.B2
      have hot := ho.t
      refine Bm.pos rfl (splitBar_ok (by omega) fun wb eb => ?_)
      have oab := eb.own oa (by simp)
      refine LdL.mk oab rfl (LdI.mk (eb.own oaa (by simp)) rfl (New.mk fun nb w2' hnb hs2' on he2' => ?_))
      have e2' := eb.trans he2'
      have hea2 := hea.ext0 e2'
      refine Vc.Append.mk (e := T_api_Entry) (news := entC (o.c, (sp r).1)) hea2 (CellsAt.own on (fun j v hj => by simpa [entC] using hj)) rfl rfl rfl (by omega) (by omega) fun rb' rc' w3' hr he3' hb3 => ?_
      have t3 := Tys.row hea2
      have o3 := ownT he3' t3 (he2'.own oab (by simp)) (by decide)
      refine Sts.mk o3 (by simp [msgC]) rfl fun w4' _ o4' e4' => ?_
      have za := ea.size
      have zb := e2'.size
      refine ⟨3 - (j + 1), by omega, j + 1, E ++ [(o.c, (sp r).1)], rb', rc', by omega, rfl, rfl, rfl, rfl, by simp [hEl], ?_, ?_, o4', ?_, fun y hy => ?_, ?_⟩
      · rw [← hEe, show 3 - j = (3 - (j + 1)) + 1 by omega]
        show E ++ [(o.c, (sp r).1)] ++ entsOf o.c (3 - (j + 1)) (sp r).2 = E ++ (if r = estr then [] else (o.c, (sp r).1) :: entsOf o.c (3 - (j + 1)) (sp r).2)
        rw [if_neg hre]
        simp
      · exact Nat.le_trans (spN_size r r.size 0) hrs
      · show Row w4' rb' (j + 1) rc' 2 T_api_Entry ((E ++ [(o.c, (sp r).1)]).flatMap entC)
        rw [List.flatMap_append]
        exact rowT (by simpa using hr) e4' (Tys.one o3) (by decide)
      · rcases hb3 y hy with z | z
        · exact hrb y z
        · omega
      · exact ((ea.trans e2'.nil).trans' he3' (fun y hy hl => by have := hrb y hy; omega)).trans e4'
  have b0 : ∀ {m : MsgV}, msgB0 o = m → ∀ {wx : World} {cs : Array Value}, Own wx m0 cs T_api_Msg → cs = (msgC m none 0 0).toArray → Ext [m0] w4 wx → nodelaw_MsgOf.B1 ob t2 m0 wx R := fun {m} hm {wx cs} ox hc ex => b1 (by rw [hm, ← hc]; exact ox) ex
  unfold msgB0 at b0
  dsimp only at b0
  refine LdI.mk oo4 rfl (Bm.mk (fun q => LdI.mk oo4 rfl (Sts.mk om4' (by simp [msgC]) rfl fun w5 _ o5 e5 => b0 (by rw [if_pos (by simpa using q)]) o5 rfl e5)) fun q1 => ?_)
  have q1' : ¬ o.a = 1 := by simpa using q1
  refine Bm.mk (fun q => LdI.mk oo4 rfl (Sts.mk om4' (by simp [msgC]) rfl fun w5 _ o5 e5 => b0 (by rw [if_neg q1', if_pos (by simpa using q)]) o5 rfl e5)) fun q2 => ?_
  have q2' : ¬ o.a = 2 := by simpa using q2
  refine Bm.mk (fun q => LdI.mk oo4 rfl (Sts.mk om4' (by simp [msgC]) rfl fun w5 _ o5 e5 => b0 (by rw [if_neg q1', if_neg q2', if_pos (by simpa using q)]) o5 rfl e5)) fun q3 => ?_
  have q3' : ¬ o.a = 3 := by simpa using q3
  refine Bm.mk (fun q => LdI.mk oo4 rfl (Sts.mk om4' (by simp [msgC]) rfl fun w5 _ o5 e5 => b0 (by rw [if_neg q1', if_neg q2', if_neg q3', if_pos (by simpa using q)]) o5 rfl e5)) fun q4 => ?_
  have q4' : ¬ o.a = 4 := by simpa using q4
  refine Bm.mk (fun q => LdI.mk oo4 rfl (Sts.mk om4' (by simp [msgC]) rfl fun w5 _ o5 e5 => b0 (by rw [if_neg q1', if_neg q2', if_neg q3', if_neg q4', if_pos (by simpa using q)]) o5 rfl e5)) fun q5 => ?_
  have q5' : ¬ o.a = 5 := by simpa using q5
  refine Bm.mk (fun q => LdI.mk oo4 rfl (Sts.mk om4' (by simp [msgC]) rfl fun w5 _ o5 e5 => b0 (by rw [if_neg q1', if_neg q2', if_neg q3', if_neg q4', if_neg q5', if_pos (by simpa using q)]) o5 rfl e5)) fun q6 => ?_
  have q6' : ¬ o.a = 6 := by simpa using q6
  refine Bm.mk (fun q => LdI.mk oo4 rfl (Sts.mk om4' (by simp [msgC]) rfl fun w5 _ o5 e5 => b0 (by rw [if_neg q1', if_neg q2', if_neg q3', if_neg q4', if_neg q5', if_neg q6', if_pos (by simpa using q)]) o5 rfl e5)) fun q7 => ?_
  have q7' : ¬ o.a = 7 := by simpa using q7
  refine Bm.mk (fun q => Sts.mk om4' (by simp [msgC]) rfl fun w5 _ o5 e5 => b0 (by rw [if_neg q1', if_neg q2', if_neg q3', if_neg q4', if_neg q5', if_neg q6', if_neg q7', if_pos (by simpa using q)]) o5 rfl e5) fun q8 => ?_
  have q8' : ¬ o.a = 8 := by simpa using q8
  exact b0 (by rw [if_neg q1', if_neg q2', if_neg q3', if_neg q4', if_neg q5', if_neg q6', if_neg q7', if_neg q8']) om4' rfl (Ext.refl _ _)
theorem sameEncode_ok {m : MsgV} {a b : Option Addr} {ac bc : Nat} {R : Bool → World → Prop} (ha : EA w a m.ents.length ac m.ents) (hb : EA w b m.ents.length bc m.ents) (hl : m.ents.length ≤ 1000) (hR : ∀ w', Ext [] w w' → R true w') : nodelaw_SameEncode.Call m.kind m.fr m.to m.term m.idx m.lt m.cm m.ok a m.ents.length ac m.data m.kind m.fr m.to m.term m.idx m.lt m.cm m.ok b m.ents.length bc m.data w R := by
  apply nodelaw_SameEncode.sound
  unfold nodelaw_SameEncode.B0
  refine New.mk fun g w1 hg hs1 og he1 => New.mk fun h w2 hh hs2 oh he2 => ?_
  have E2 := he1.trans he2
  have og2 : Own w2 g (msgC m a m.ents.length ac).toArray T_api_Msg := he2.own og (by simp)
  have oh2 : Own w2 h (msgC m b m.ents.length bc).toArray T_api_Msg := oh
  refine ldMsg og2 (Encode_ok (m := m) (ha.ext0 E2) hl fun w3 he3 => ldMsg (he3.own oh2 (by simp)) (encodeMsg_ok (m := m) (hb.ext0 (E2.trans he3)) hl fun w4 he4 => ?_))
  have E4 := (E2.trans he3).trans he4
  have og4 := (he3.trans he4).own og2 (by simp)
  have oh4 := (he3.trans he4).own oh2 (by simp)
  refine Bm.neg (by rw [Kv.str_beq, decide_eq_true rfl]; rfl) (LdL.mk og4 rfl (LdL.mk oh4 rfl ?_))
  rw [show ((m.ents.length : Int) != (m.ents.length : Int)) = false by simp]
  unfold nodelaw_SameEncode.B1
  refine Bm.neg rfl ?_
  unfold nodelaw_SameEncode.L1
  refine ⟨fun mm g' h' i w' => ∃ j : Nat, j ≤ m.ents.length ∧ mm = m.ents.length - j ∧ g = g' ∧ h = h' ∧ i = (j : Int) ∧ Ext [] w4 w', _, ⟨0, by omega, rfl, rfl, rfl, rfl, Ext.refl _ _⟩, ?_⟩
  rintro mm g' h' i wa ⟨j, hj, rfl, rfl, rfl, rfl, ea⟩
  unfold nodelaw_SameEncode.L1b
  refine LdL.mk (ea.own og4 (by simp)) rfl (Bm.ite (fun hlt => ?_) fun hge => hR wa (E4.trans ea))
  have ed := ea.trans (Ext.drew [] wa)
  have ogd := ed.own og4 (by simp)
  have ohd := ed.own oh4 (by simp)
  have had := ha.ext0 (E4.trans ed)
  have hbd := hb.ext0 (E4.trans ed)
  obtain ⟨x, hx⟩ := get_lt' (L := m.ents) (n := j) (by omega)
  refine LdL.mk ogd rfl (had.ldT hx (LdL.mk ohd rfl (hbd.ldT hx (Bm.neg (by simp) (LdL.mk ogd rfl (had.ldD hx (LdL.mk ohd rfl (hbd.ldD hx ?_))))))))
  rw [Kv.str_beq, decide_eq_true rfl]
  unfold nodelaw_SameEncode.B2
  exact Bm.neg rfl ⟨m.ents.length - (j + 1), by omega, j + 1, by omega, rfl, rfl, rfl, by rw [w64 (by omega) (by omega)]; omega, ed⟩
/-! ### the plays -/
def evN (o : OpV) (n : NS) : NEv := if o.k = 1 then tickN n else if o.k = 2 then recvN o.s n else if o.k = 3 then callN (cmdN o) n else failN n 0
theorem evReal_ok {o : OpV} {R : RDid} (h : NReal w lo p kp k s l t d e D N n.Y.L D F A n [] raw Rs) (hn : NOk n) (hlog : D.log = []) (hN : N + 13 ≤ 4611686018427387904) (hlo : lo ≤ w.heap.size) (ho : o.Wf) (hR : EvR w lo p kp k s l t d e D N n.Y.L (evN o n) R) : nodelaw_EventReal.Call (some ⟨p, 0, none⟩) o.k o.a o.b o.c o.s o.t w R := by
  apply nodelaw_EventReal.sound
  unfold nodelaw_EventReal.B0
  refine New.mk fun ob w1 hob hs1 oo1 he1 => New.mk fun b4 w2 hb4 hs2 ob2 he2 => ?_
  have oo2 := he2.own oo1 (by simp)
  have E2 := he1.trans he2
  have z1 := he1.size
  have z2 := E2.size
  have h2 := h.ext0 E2
  -- what an event hands on
  have hand : ∀ {wx : World} {ev : NEv}, Ext [] w2 wx → evN o n = ev → EvR wx lo p kp k s l t d e D N n.Y.L ev (fun e a1 a2 a3 c1 c2 c3 w3 => Sts [.int .i64 e, .slice a1 a2 a3, .slice c1 c2 c3] ⟨b4, 0, none⟩ 0 w3 fun w9 => LdI .i64 ⟨b4, 0, none⟩ w9 fun r_0 => LdL ⟨b4, 1, none⟩ w9 fun r_1_b r_1_l r_1_c => LdL ⟨b4, 2, none⟩ w9 fun r_2_b r_2_l r_2_c => R r_0 r_1_b r_1_l r_1_c r_2_b r_2_l r_2_c w9) := fun {wx ev} ex hev D' F' A' raw' Rs' ob' oc rb rc w3 dd h3 f3 => by
    have obx := f3.ty.own (ex.own ob2 (by simp)) (by decide)
    have zx := ex.size
    refine retDid obx rfl fun w4 he4 => ?_
    have x4 : ExtT w3 w4 [T_api_Did] := ExtT.of he4 (Tys.one obx)
    have key := hR D' F' A' raw' Rs' ob' oc rb rc w4
    rw [hev] at key
    exact key ((dd.extT x4 (by decide) (by decide)).low (by omega)) (h3.extT x4 (by decide)) (((Fr.of0 (E2.trans ex)).trans f3).fresh he4 (by omega) (by omega))
  refine LdI.mk oo2 rfl (Bm.mk (fun q => ?_) fun q1 => ?_)
  · exact ntick_ok h2 hn hlog hN (by omega) (hand (Ext.refl _ _) (by unfold evN; rw [if_pos (by simpa using q)]))
  have q1' : ¬ o.k = 1 := by simpa using q1
  refine Bm.mk (fun q => LdS.mk oo2 rfl ?_) fun q2 => ?_
  · exact nrecv_ok h2 hn hlog hN (by omega) (hand (Ext.refl _ _) (by unfold evN; rw [if_neg q1', if_pos (by simpa using q)]))
  have q2' : ¬ o.k = 2 := by simpa using q2
  refine Bm.mk (fun q => ?_) fun q3 => ?_
  · refine LdI.mk oo2 rfl (LdI.mk oo2 rfl (LdI.mk oo2 rfl (LdI.mk oo2 rfl (LdS.mk oo2 rfl (LdS.mk oo2 rfl (cmdOfN_ok ho fun w7 he7 => NewSet.mk rfl rfl fun cb w9 hcb hs9 oc9 he9 => ?_))))))
    have e9 := he7.trans he9
    have z9 := e9.size
    have oc9' : CmdAt w9 cb (cmdN o) := oc9
    exact oc9'.all (ncall_ok (c := cmdN o) (h2.ext0 e9) hn hlog hN (by omega) (hand e9 (by unfold evN; rw [if_neg q1', if_neg q2', if_pos (by simpa using q)])))
  have q3' : ¬ o.k = 3 := by simpa using q3
  have hev : evN o n = failN n 0 := by unfold evN; rw [if_neg q1', if_neg q2', if_neg q3']
  exact hand (Ext.refl _ _) hev D F A raw Rs none 0 none 0 w2 (DidAt.nil _ _) h2 (Fr.of0 (Ext.refl _ _))
theorem evModel_ok {o : OpV} {R : RDid} (h : NMod w lo2 p2 kp2 s2 q2 me2 M n) (hn : NOk n) (hH : M.H = []) (hlo : lo2 ≤ w.heap.size) (ho : o.Wf) (hR : EvM w lo2 p2 kp2 s2 q2 me2 M (evN o n) R) : nodelaw_EventModel.Call (some ⟨p2, 0, none⟩) o.k o.a o.b o.c o.s o.t w R := by
  apply nodelaw_EventModel.sound
  unfold nodelaw_EventModel.B0
  refine New.mk fun ob w1 hob hs1 oo1 he1 => New.mk fun b4 w2 hb4 hs2 ob2 he2 => ?_
  have oo2 := he2.own oo1 (by simp)
  have E2 := he1.trans he2
  have z1 := he1.size
  have z2 := E2.size
  have h2 := h.ext0 E2
  have hand : ∀ {wx : World} {ev : NEv}, Ext [] w2 wx → evN o n = ev → EvM wx lo2 p2 kp2 s2 q2 me2 M ev (fun e a1 a2 a3 c1 c2 c3 w3 => Sts [.int .i64 e, .slice a1 a2 a3, .slice c1 c2 c3] ⟨b4, 0, none⟩ 0 w3 fun w9 => LdI .i64 ⟨b4, 0, none⟩ w9 fun r_0 => LdL ⟨b4, 1, none⟩ w9 fun r_1_b r_1_l r_1_c => LdL ⟨b4, 2, none⟩ w9 fun r_2_b r_2_l r_2_c => R r_0 r_1_b r_1_l r_1_c r_2_b r_2_l r_2_c w9) := fun {wx ev} ex hev M' ob' oc rb rc w3 dd h3 a3 hh3 f3 => by
    have obx := f3.ty.own (ex.own ob2 (by simp)) (by decide)
    have zx := ex.size
    refine retDid obx rfl fun w4 he4 => ?_
    have x4 : ExtT w3 w4 [T_api_Did] := ExtT.of he4 (Tys.one obx)
    have key := hR M' ob' oc rb rc w4
    rw [hev] at key
    exact key ((dd.extT x4 (by decide) (by decide)).low (by omega)) (h3.extT x4 (by decide)) a3 hh3 (((Fr.of0 (E2.trans ex)).trans f3).fresh he4 (by omega) (by omega))
  refine LdI.mk oo2 rfl (Bm.mk (fun q => ?_) fun q1 => ?_)
  · exact nmtick_ok h2 hn hH (by omega) (hand (Ext.refl _ _) (by unfold evN; rw [if_pos (by simpa using q)]))
  have q1' : ¬ o.k = 1 := by simpa using q1
  refine Bm.mk (fun q => LdS.mk oo2 rfl ?_) fun q2 => ?_
  · exact nmrecv_ok h2 hn hH (by omega) (hand (Ext.refl _ _) (by unfold evN; rw [if_neg q1', if_pos (by simpa using q)]))
  have q2' : ¬ o.k = 2 := by simpa using q2
  refine Bm.mk (fun q => ?_) fun q3 => ?_
  · refine LdI.mk oo2 rfl (LdI.mk oo2 rfl (LdI.mk oo2 rfl (LdI.mk oo2 rfl (LdS.mk oo2 rfl (LdS.mk oo2 rfl (cmdOfN_ok ho fun w7 he7 => NewSet.mk rfl rfl fun cb w9 hcb hs9 oc9 he9 => ?_))))))
    have e9 := he7.trans he9
    have z9 := e9.size
    have oc9' : CmdAt w9 cb (cmdN o) := oc9
    exact oc9'.all (nmcall_ok (c := cmdN o) (h2.ext0 e9) hn hH (by omega) (hand e9 (by unfold evN; rw [if_neg q1', if_neg q2', if_pos (by simpa using q)])))
  have q3' : ¬ o.k = 3 := by simpa using q3
  have hev : evN o n = failN n 0 := by unfold evN; rw [if_neg q1', if_neg q2', if_neg q3']
  exact hand (Ext.refl _ _) hev M none 0 none 0 w2 (DidAt.nil _ _) h2 rfl (by simp [failN]) (Fr.of0 (Ext.refl _ _))
theorem look_ok {o : OpV} {R : Bool → World → Prop} (h : NReal w lo p kp k s l t d e D0 N L0 D F A n S raw Rs) (hm : NMod w lo2 p2 kp2 s2 q2 me2 M n) (hn : NOk n) (ho : o.Wf) (hR : ∀ w', Ext [] w w' → R true w') : nodelaw_Look.Call (some ⟨p, 0, none⟩) (some ⟨p2, 0, none⟩) o.k o.a o.b o.c o.s o.t w R := by
  apply nodelaw_Look.sound
  unfold nodelaw_Look.B0
  refine New.mk fun ob w1 hob hs1 oo he1 => LdI.mk oo rfl ?_
  have h1 := h.ext0 he1
  have m1 := hm.ext0 he1
  have hk := hn.mid.k
  refine Bm.mk (fun _ => LdI.mk oo rfl (nsAt_ok h1 m1 hn.mid.y.L ho.a fun x w2 hx he2 => ?_)) fun _ => Bm.mk (fun _ => LdI.mk oo rfl (nsTermAt_ok h1 m1 hn.mid.y.L ho.a fun x w2 hx he2 => ?_)) fun _ => Bm.mk (fun _ => LdS.mk oo rfl (nsVal_ok h1 m1 hk hk fun x w2 hx he2 => ?_)) fun _ => Bm.mk (fun _ => nsView_ok h1 m1 hn.mid.y.e hn.mid.y.L fun x w2 _ hx he2 => ?_) fun _ => Bm.mk (fun _ => nsLen_ok h1 m1 fun x w2 hx he2 => ?_) fun _ => Bm.mk (fun _ => LdI.mk oo rfl (nsKeyAt_ok h1 m1 hk hk fun x w2 hx he2 => ?_)) fun _ => Bm.mk (fun _ => LdI.mk oo rfl (nsSess_ok h1 m1 hk fun x w2 hx he2 => ?_)) fun _ => Bm.mk (fun _ => ncheck_ok h1 hn fun w2 he2 => ?_) fun _ => Bm.mk (fun _ => ?_) fun _ => hR w1 he1
  · rw [hx.2 rfl]; exact hR w2 (he1.trans he2)
  · rw [hx.2 rfl]; exact hR w2 (he1.trans he2)
  · rw [hx rfl]; exact hR w2 (he1.trans he2)
  · rw [hx rfl]; exact hR w2 (he1.trans he2)
  · rw [hx rfl]; exact hR w2 (he1.trans he2)
  · rw [hx rfl]; exact hR w2 (he1.trans he2)
  · rw [hx rfl]; exact hR w2 (he1.trans he2)
  · rw [str_e, decide_eq_true rfl]; exact hR w2 (he1.trans he2)
  · have hl3 : (msgN o).ents.length ≤ 3 := entsOf_len _ _ _
    refine LdI.mk oo rfl (LdI.mk oo rfl (LdI.mk oo rfl (LdI.mk oo rfl (LdS.mk oo rfl (LdS.mk oo rfl (msgOf_ok ho fun rb rc w2 hea he2 => NewSet.mk rfl rfl fun g w4 hg hs4 og he4 => ?_))))))
    have e4 := he2.trans he4
    have oo4 := e4.own oo (by simp)
    refine LdI.mk oo4 rfl (LdI.mk oo4 rfl (LdI.mk oo4 rfl (LdI.mk oo4 rfl (LdS.mk oo4 rfl (LdS.mk oo4 rfl (msgOf_ok ho fun rb2 rc2 w5 hea2 he5 => NewSet.mk rfl rfl fun g2 w7 hg2 hs7 og2 he7 => ?_))))))
    have e7 := he5.trans he7
    have og7 : Own w7 g (msgC (msgN o) rb (msgN o).ents.length rc).toArray T_api_Msg := e7.own og (by simp)
    have og27 : Own w7 g2 (msgC (msgN o) rb2 (msgN o).ents.length rc2).toArray T_api_Msg := og2
    exact ldMsg og7 (ldMsg og27 (sameEncode_ok (m := msgN o) (hea.ext0 (he4.trans e7)) (hea2.ext0 he7) (by omega) fun w8 he8 => hR w8 (((he1.trans e4).trans e7).trans he8)))
end
end Go.Proofs.Qxb6500430aGreat
