/-
  kvlaw: both sides step by step.
-/
import Derived.Test.Qxb6500429aKvN
import Derived.Test.Qxb6500429aScript
set_option linter.unusedVariables false
open Go.Vc
namespace Go.Proofs.Qxb6500429a

structure Pr (w : World) (x m : Nat) (s : KvS) : Prop where
  re : RealAt w x s.A s.S
  md : ModAt w m s.A s.S
  ok : KvOk s.A s.S
theorem Pr.ne {w : World} {x m : Nat} {s : KvS} (h : Pr w x m s) : x ≠ m := by
  obtain ⟨T, _, h1, _⟩ := h.re
  exact h1.1.ne_type h.md.1 (by decide)
theorem Pr.ext0 {w w' : World} {x m : Nat} {s : KvS} (h : Pr w x m s) (he : Ext [] w w') : Pr w' x m s := ⟨h.re.ext0 he, h.md.ext0 he, h.ok⟩
section
variable {w : World} {x m : Nat} {s : KvS}
theorem sameAns_ok {a : Int} {v : ByteArray} {R : Bool → World → Prop} (hR : ∀ w', Ext [] w w' → R true w') : kvlaw_SameAns.Call a v a v w R := by
  apply kvlaw_SameAns.sound
  unfold kvlaw_SameAns.B0
  refine New.mk fun p w1 hp hs1 ho1 he1 => New.mk fun q w2 hq hs2 ho2 he2 => ?_
  have ho1' := he2.own ho1 (by simp)
  refine LdI.mk ho1' rfl (LdI.mk ho2 rfl (Bm.pos (by simp) (LdS.mk ho1' rfl (LdS.mk ho2 rfl ?_))))
  rw [str_beq, decide_eq_true rfl]
  exact hR w2 (he1.trans he2)
theorem sameApply_ok {d : ByteArray} {R : Bool → World → Prop} (h : Pr w x m s) (hd : d.size ≤ 281474976710656) (hR : ∀ w', Pr w' x m (applyA d s).2 → Ext [x, m] w w' → R true w') : kvlaw_SameApply.Call (some ⟨x, 0, none⟩) (some ⟨m, 0, none⟩) d w R := by
  apply kvlaw_SameApply.sound
  unfold kvlaw_SameApply.B0
  have hne := h.ne
  have hxl := h.re.lt
  have hml := h.md.lt
  refine realApply_ok h.re h.ok hd fun w1 h1 he1 => NewSet.mk rfl rfl fun a w2 ha hs2 ho2 he2 => ?_
  have hz := he1.size
  refine modApply_ok ((h.md.ext he1 (by simp; omega)).ext0 he2) h.ok hd fun w4 h4 he4 => NewSet.mk rfl rfl fun b w5 hb hs5 ho5 he5 => ?_
  have hoa := he5.own (he4.own ho2 (by simp; omega)) (by simp)
  refine LdI.mk hoa rfl (LdS.mk hoa rfl (LdI.mk ho5 rfl (LdS.mk ho5 rfl (sameAns_ok fun w6 he6 => hR w6 ⟨?_, ?_, applyA_ok h.ok⟩ ?_))))
  · exact (((h1.ext0 he2).ext he4 (by simp; omega)).ext0 he5).ext0 he6
  · exact (h4.ext0 he5).ext0 he6
  · have e1 : Ext [x, m] w w2 := (he1.mono (fun y hy _ => by simp at hy; simp [hy])).trans he2.nil
    have e2 : Ext [x, m] w2 w4 := he4.mono (fun y hy _ => by simp at hy; simp [hy])
    exact ((e1.trans e2).trans he5.nil).trans he6.nil
theorem sameRestore_ok {d : ByteArray} {R : Bool → World → Prop} (h : Pr w x m s) (hd : d.size ≤ 281474976710656) (hR : ∀ w', Pr w' x m (restoreA d s).2 → Ext [x, m] w w' → R true w') : kvlaw_SameRestore.Call (some ⟨x, 0, none⟩) (some ⟨m, 0, none⟩) d w R := by
  apply kvlaw_SameRestore.sound
  unfold kvlaw_SameRestore.B0
  have hne := h.ne
  refine realRestore_ok h.re hd fun w1 h1 he1 => modRestore_ok (h.md.ext he1 (by simp; omega)) hd fun w2 h2 he2 => ?_
  have e : ((restoreA d s).1 == (restoreA d s).1) = true := by simp
  rw [e]
  exact hR w2 ⟨h1.ext he2 (by simp; omega), h2, restoreA_ok h.ok⟩ ((he1.mono (fun y hy _ => by simp at hy; simp [hy])).trans (he2.mono (fun y hy _ => by simp at hy; simp [hy])))
theorem sameVal_ok {k : ByteArray} {R : Bool → World → Prop} (h : Pr w x m s) (hR : ∀ w', Ext [] w w' → R true w') : kvlaw_SameVal.Call (some ⟨x, 0, none⟩) (some ⟨m, 0, none⟩) k w R := by
  apply kvlaw_SameVal.sound
  unfold kvlaw_SameVal.B0
  refine realVal_ok h.re h.ok fun w1 he1 => modVal_ok (h.md.ext0 he1) h.ok ?_
  rw [str_beq]
  refine Bm.pos (decide_eq_true rfl) ?_
  have e : ((lookA s.A k).isSome == (lookA s.A k).isSome) = true := by simp
  rw [e]
  exact hR w1 he1
theorem sameKeyAt_ok {i : Int} {R : Bool → World → Prop} (h : Pr w x m s) (hR : ∀ w', Ext [] w w' → R true w') : kvlaw_SameKeyAt.Call (some ⟨x, 0, none⟩) (some ⟨m, 0, none⟩) i w R := by
  apply kvlaw_SameKeyAt.sound
  unfold kvlaw_SameKeyAt.B0
  refine realKeyAt_ok h.re h.ok fun w1 he1 => modKeyAt_ok (h.md.ext0 he1) h.ok.le ?_
  rw [str_beq, decide_eq_true rfl]
  exact hR w1 he1
theorem sameSess_ok {c : Int} {R : Bool → World → Prop} (h : Pr w x m s) (hR : ∀ w', Ext [] w w' → R true w') : kvlaw_SameSess.Call (some ⟨x, 0, none⟩) (some ⟨m, 0, none⟩) c w R := by
  apply kvlaw_SameSess.sound
  unfold kvlaw_SameSess.B0
  refine realSess_ok h.re h.ok fun w1 he1 => NewSet.mk rfl rfl fun a w2 ha hs2 ho2 he2 => modSess_ok (h.md.ext0 (he1.trans he2)) fun w3 he3 => NewSet.mk rfl rfl fun b w4 hb hs4 ho4 he4 => Bm.pos (by simp) ?_
  have hoa := he4.own (he3.own ho2 (by simp)) (by simp)
  refine LdI.mk hoa rfl (LdI.mk ho4 rfl (Bm.pos (by simp) (LdS.mk hoa rfl (LdS.mk ho4 rfl ?_))))
  rw [str_beq, decide_eq_true rfl]
  exact hR w4 (((he1.trans he2).trans he3).trans he4)
theorem sameLen_ok {R : Bool → World → Prop} (h : Pr w x m s) (hR : R true w) : kvlaw_SameLen.Call (some ⟨x, 0, none⟩) (some ⟨m, 0, none⟩) w R := by
  apply kvlaw_SameLen.sound
  unfold kvlaw_SameLen.B0
  refine realLen_ok h.re (modLen_ok h.md ?_)
  have e : ((s.A.length : Int) == (s.A.length : Int)) = true := by simp
  rw [e]
  exact hR
theorem sameSnapshot_ok {R : Bool → World → Prop} (h : Pr w x m s) (hR : ∀ w', Ext [] w w' → R true w') : kvlaw_SameSnapshot.Call (some ⟨x, 0, none⟩) (some ⟨m, 0, none⟩) w R := by
  apply kvlaw_SameSnapshot.sound
  unfold kvlaw_SameSnapshot.B0
  refine realSnapshot_ok h.re h.ok fun w1 he1 => modSnapshot_ok (h.md.ext0 he1) h.ok fun w2 he2 => ?_
  rw [str_beq, decide_eq_true rfl]
  exact hR w2 (he1.trans he2)
theorem sound_ok {R : Bool → World → Prop} (h : Pr w x m s) (hR : ∀ w', Ext [] w w' → R true w') : kvlaw_Sound.Call (some ⟨x, 0, none⟩) w R := by
  apply kvlaw_Sound.sound
  unfold kvlaw_Sound.B0
  refine realCheck_ok h.re h.ok fun w1 he1 => ?_
  rw [str_beq, decide_eq_true (show estr = ByteArray.mk #[] from rfl)]
  exact hR w1 he1
/-! ### SplitBar, CmdOf -/
def spN (t : ByteArray) : Nat → Nat → ByteArray × ByteArray
  | 0, _ => (t, estr)
  | f + 1, i => if byteAt t (i : Int) = 124 then (t.extract 0 i, t.extract (i + 1) t.size) else spN t f (i + 1)
def sp (t : ByteArray) : ByteArray × ByteArray := spN t t.size 0
theorem splitBar_ok {t : ByteArray} {R : ByteArray → ByteArray → World → Prop} (ht : t.size ≤ 281474976710656) (hR : ∀ w', Ext [] w w' → R (sp t).1 (sp t).2 w') : kvlaw_SplitBar.Call t w R := by
  apply kvlaw_SplitBar.sound
  unfold kvlaw_SplitBar.B0
  refine ⟨fun mm t' i w' => ∃ n : Nat, n ≤ t.size ∧ mm = t.size - n ∧ t = t' ∧ i = (n : Int) ∧ sp t = spN t (t.size - n) n ∧ w = w', _, ⟨0, Nat.zero_le _, rfl, rfl, rfl, rfl, rfl⟩, ?_⟩
  rintro mm t' i w' ⟨n, hn, rfl, rfl, rfl, hsp, rfl⟩
  unfold kvlaw_SplitBar.L1b
  refine Bm.ite (fun hlt => ⟨⟨by omega, hlt⟩, ?_⟩) fun hge => ?_
  · rw [show t.size - n = (t.size - (n + 1)) + 1 by omega, spN] at hsp
    rw [w64 (by omega) (by omega)]
    by_cases hc : byteAt t (n : Int) = 124
    · rw [if_pos hc] at hsp
      rw [hsp] at hR
      refine Bm.pos (by simp [hc]) ⟨⟨by omega, by omega⟩, ⟨by omega, by omega⟩, ?_⟩
      rw [Int.toNat_natCast, Int.toNat_natCast, Int.toNat_natCast, show ((n : Int) + 1).toNat = n + 1 by omega]
      exact hR _ (Ext.drew _ _)
    · rw [if_neg hc] at hsp
      exact Bm.neg (by simp [hc]) ⟨_, by omega, n + 1, by omega, rfl, rfl, by omega, hsp, rfl⟩
  · rw [show t.size - n = 0 by omega] at hsp
    rw [hsp] at hR
    exact hR w (Ext.refl _ _)
def cmdOf (o : OpV) : CmdS := if o.a = 4 then ⟨o.a, o.b, o.c, o.s, (sp o.t).2, (sp o.t).1⟩ else ⟨o.a, o.b, o.c, o.s, o.t, estr⟩
theorem cmdOf_ok {o : OpV} {R : Int → Int → Int → ByteArray → ByteArray → ByteArray → World → Prop} (ho : o.Wf) (hR : ∀ w', Ext [] w w' → R (cmdOf o).op (cmdOf o).cl (cmdOf o).seq (cmdOf o).key (cmdOf o).val (cmdOf o).old w') : kvlaw_CmdOf.Call o.k o.a o.b o.c o.s o.t w R := by
  apply kvlaw_CmdOf.sound
  unfold kvlaw_CmdOf.B0
  refine New.mk fun p w1 hp hs1 ho1 he1 => New.mk fun t2 w2 ht2 hs2 ho2 he2 => ?_
  have hop := he2.own ho1 (by simp)
  refine LdI.mk hop rfl (LdI.mk hop rfl (LdI.mk hop rfl (LdS.mk hop rfl (LdS.mk hop rfl (NewSet.mk rfl rfl fun c w3 hc hs3 ho3 he3 => ?_)))))
  have hop3 := he3.own hop (by simp)
  have q3 : CmdAt w3 t2 noCmd := he3.own ho2 (by simp)
  have e3 := (he1.trans he2).trans he3
  have hz := he1.size
  have fin : ∀ w4, CmdAt w4 c (cmdOf o) → CmdAt w4 t2 noCmd → Ext [] w w4 → kvlaw_CmdOf.B1 t2 c w4 R := fun w4 g q e4 => by
    unfold kvlaw_CmdOf.B1
    exact g.all (Sts.full (vs := cmdVs (cmdOf o)) q rfl rfl fun w5 hs5 ho5 he5 => CmdAt.all (c := cmdOf o) ho5 (hR w5 (up1 e4 he5 (by omega))))
  refine LdI.mk hop3 rfl (Bm.mk (fun e4 => ?_) fun e4 => ?_)
  · have e4' : o.a = 4 := by simpa using e4
    have hcm : cmdOf o = ⟨o.a, o.b, o.c, o.s, (sp o.t).2, (sp o.t).1⟩ := by unfold cmdOf; rw [if_pos e4']
    refine LdS.mk hop3 rfl (splitBar_ok (by have := ho.t; omega) fun w4 he4 => ?_)
    have g4 : CmdAt w4 c ⟨o.a, o.b, o.c, o.s, o.t, estr⟩ := he4.own ho3 (by simp)
    refine Sts.mk g4 (by simp [cmdVs]) rfl fun w5 hs5 ho5 he5 => Sts.mk ho5 (by simp [cmdVs, size_putArr]) rfl fun w6 hs6 ho6 he6 => ?_
    have e6 : Ext [] w w6 := up1 (up1 (e3.trans he4) he5 (by omega)) he6 (by omega)
    refine fin w6 ?_ (((q3.ext0 he4).ext he5 (by simp; omega)).ext he6 (by simp; omega)) e6
    rw [hcm]
    exact ho6
  · have e4' : o.a ≠ 4 := by simpa using e4
    refine fin w3 ?_ q3 e3
    unfold cmdOf
    rw [if_neg e4']
    exact ho3
theorem encCmd_size {c : CmdS} : (encCmd c).size ≤ 100 := by
  unfold encCmd
  split
  · rename_i h
    have := (cmdOk_true.1 h).2.1
    rw [bStr_size]
    simp only [List.length_append, List.length_cons, List.length_nil, putS, strB_length, enc8_length]
    omega
  · decide
/-! ### Play -/
def dataOf (o : OpV) : ByteArray := if o.k = 2 then encCmd (cmdOf o) else o.s
def playA (o : OpV) (s : KvS) : KvS := if o.k = 1 ∨ o.k = 2 then (applyA (dataOf o) s).2 else if o.k = 3 then (restoreA o.s s).2 else s
theorem play_ok {o : OpV} {R : Bool → World → Prop} (h : Pr w x m s) (ho : o.Wf) (hR : ∀ w', Pr w' x m (playA o s) → Ext [x, m] w w' → R true w') : kvlaw_Play.Call (some ⟨x, 0, none⟩) (some ⟨m, 0, none⟩) o.k o.a o.b o.c o.s o.t w R := by
  apply kvlaw_Play.sound
  unfold kvlaw_Play.B0
  have hsz := ho.s
  refine New.mk fun p w1 hp hs1 ho1 he1 => LdI.mk ho1 rfl ?_
  have h1 := h.ext0 he1
  refine Bm.mk (fun e => LdS.mk ho1 rfl (sameApply_ok h1 (by omega) fun w2 h2 he2 => hR w2 ?_ (he1.nil.trans he2))) fun n1 => ?_
  · have e' : o.k = 1 := by simpa using e
    unfold playA dataOf
    rw [if_pos (.inl e'), if_neg (by omega)]
    exact h2
  have n1 : o.k ≠ 1 := by simpa using n1
  refine Bm.mk (fun e => ?_) fun n2 => ?_
  · have e' : o.k = 2 := by simpa using e
    refine LdI.mk ho1 rfl (LdI.mk ho1 rfl (LdI.mk ho1 rfl (LdI.mk ho1 rfl (LdS.mk ho1 rfl (LdS.mk ho1 rfl (cmdOf_ok ho fun w2 he2 => NewSet.mk rfl rfl fun c w3 hc hs3 ho3 he3 => CmdAt.all (c := cmdOf o) ho3 (encodeCmd_ok fun w4 he4 => ?_)))))))
    have e24 := (he2.trans he3).trans he4
    refine sameApply_ok (h1.ext0 e24) (by have := encCmd_size (c := cmdOf o); omega) fun w5 h5 he5 => hR w5 ?_ ((he1.trans e24).nil.trans he5)
    unfold playA dataOf
    rw [if_pos (.inr e'), if_pos e']
    exact h5
  have n2 : o.k ≠ 2 := by simpa using n2
  refine Bm.mk (fun e => LdS.mk ho1 rfl (sameRestore_ok h1 (by omega) fun w2 h2 he2 => hR w2 ?_ (he1.nil.trans he2))) fun n3 => ?_
  · have e' : o.k = 3 := by simpa using e
    unfold playA
    rw [if_neg (by omega), if_pos e']
    exact h2
  have n3 : o.k ≠ 3 := by simpa using n3
  have hp : playA o s = s := by
    unfold playA
    rw [if_neg (by omega), if_neg n3]
  rw [hp] at hR
  have go : ∀ w', Ext [] w1 w' → R true w' := fun w' he => hR w' (h1.ext0 he) (he1.trans he).nil
  refine Bm.mk (fun e => LdS.mk ho1 rfl (sameVal_ok h1 go)) fun _ => Bm.mk (fun e => LdI.mk ho1 rfl (sameKeyAt_ok h1 go)) fun _ => Bm.mk (fun e => LdI.mk ho1 rfl (sameSess_ok h1 go)) fun _ => Bm.mk (fun e => sameLen_ok h1 (go w1 (Ext.refl _ _))) fun _ => Bm.mk (fun e => sameSnapshot_ok h1 go) fun _ => Bm.mk (fun e => sound_ok h1 go) fun _ => go w1 (Ext.refl _ _)
theorem alikeKeys_ok {R : Bool → World → Prop} (h : Pr w x m s) (hR : ∀ w', Ext [] w w' → R true w') : kvlaw_AlikeKeys.Call (some ⟨x, 0, none⟩) (some ⟨m, 0, none⟩) w R := by
  apply kvlaw_AlikeKeys.sound
  unfold kvlaw_AlikeKeys.B0
  have hle := h.ok.le
  refine modLen_ok h.md ⟨fun mm x' m' n i w' => ∃ e : Nat, e ≤ s.A.length + 2 ∧ mm = s.A.length + 2 - e ∧ some ⟨x, 0, none⟩ = x' ∧ some ⟨m, 0, none⟩ = m' ∧ n = (s.A.length : Int) ∧ i = (e : Int) - 1 ∧ Ext [] w w', _, ⟨0, by omega, rfl, rfl, rfl, rfl, rfl, Ext.refl _ _⟩, ?_⟩
  rintro mm x' m' n i w' ⟨e, he8, rfl, rfl, rfl, rfl, rfl, he⟩
  unfold kvlaw_AlikeKeys.L1b
  refine Bm.ite (fun hlt => sameKeyAt_ok (h.ext0 he) fun w1 he1 => Bm.neg rfl ?_) fun hge => hR w' he
  refine modKeyAt_ok (h.md.ext0 (he.trans he1)) hle (sameVal_ok (h.ext0 (he.trans he1)) fun w2 he2 => Bm.neg rfl ⟨s.A.length + 2 - (e + 1), by omega, e + 1, by omega, rfl, rfl, rfl, rfl, ?_, (he.trans he1).trans he2⟩)
  rw [w64 (by omega) (by omega)]
  omega
theorem alike_ok {d : ByteArray} {R : Bool → World → Prop} (h : Pr w x m s) (hR : ∀ w', Ext [] w w' → R true w') : kvlaw_Alike.Call (some ⟨x, 0, none⟩) (some ⟨m, 0, none⟩) d w R := by
  apply kvlaw_Alike.sound
  unfold kvlaw_Alike.B0
  refine ⟨fun mm x' m' d' k w' => ∃ e : Nat, e ≤ 3 ∧ mm = 3 - e ∧ some ⟨x, 0, none⟩ = x' ∧ some ⟨m, 0, none⟩ = m' ∧ d = d' ∧ k = (e : Int) + 21 ∧ Ext [] w w', _, ⟨0, by omega, rfl, rfl, rfl, rfl, rfl, Ext.refl _ _⟩, ?_⟩
  rintro mm x' m' d' k w' ⟨e, he8, rfl, rfl, rfl, rfl, rfl, he⟩
  have h' := h.ext0 he
  unfold kvlaw_Alike.L1b
  refine Bm.ite (fun hlt => ?_) fun hge => ?_
  · apply kvlaw_Play.sound
    unfold kvlaw_Play.B0
    refine New.mk fun p w1 hp hs1 ho1 he1 => LdI.mk ho1 rfl ?_
    have h1 := h'.ext0 he1
    have go : ∀ w2, Ext [] w1 w2 → ∃ m', m' < 3 - e ∧ ∃ e' : Nat, e' ≤ 3 ∧ m' = 3 - e' ∧ some (⟨x, 0, none⟩ : Addr) = some ⟨x, 0, none⟩ ∧ some (⟨m, 0, none⟩ : Addr) = some ⟨m, 0, none⟩ ∧ d = d ∧ IntKind.i64.wrap ((e : Int) + 21 + 1) = (e' : Int) + 21 ∧ Ext [] w w2 := fun w2 he2 => ⟨3 - (e + 1), by omega, e + 1, by omega, rfl, rfl, rfl, rfl, by rw [w64 (by omega) (by omega)]; omega, (he.trans he1).trans he2⟩
    have f : ∀ n : Int, n < 21 → ((e : Int) + 21 == n) = false := fun n hn => by simp; omega
    refine Bm.neg (f 1 (by omega)) (Bm.neg (f 2 (by omega)) (Bm.neg (f 3 (by omega)) (Bm.neg (f 5 (by omega)) (Bm.neg (f 6 (by omega)) (Bm.neg (f 7 (by omega)) ?_)))))
    refine Bm.mk (fun e => sameLen_ok h1 (Bm.neg rfl (go w1 (Ext.refl _ _)))) fun _ => Bm.mk (fun e => sameSnapshot_ok h1 fun w2 he2 => Bm.neg rfl (go w2 he2)) fun _ => Bm.mk (fun e => sound_ok h1 fun w2 he2 => Bm.neg rfl (go w2 he2)) fun _ => Bm.neg rfl (go w1 (Ext.refl _ _))
  · refine alikeKeys_ok h' fun w1 he1 => Bm.neg rfl (sameVal_ok (h'.ext0 he1) fun w2 he2 => Bm.neg rfl ?_)
    refine ⟨fun mm x' m' c w' => ∃ e : Nat, e ≤ 5 ∧ mm = 5 - e ∧ some ⟨x, 0, none⟩ = x' ∧ some ⟨m, 0, none⟩ = m' ∧ c = (e : Int) - 1 ∧ Ext [] w w', _, ⟨0, by omega, rfl, rfl, rfl, rfl, (he.trans he1).trans he2⟩, ?_⟩
    clear he h' hge he1 he2 w1 w2
    rintro mm x' m' c w' ⟨e, he8, rfl, rfl, rfl, rfl, he⟩
    unfold kvlaw_Alike.L2b
    refine Bm.ite (fun hlt => sameSess_ok (h.ext0 he) fun w1 he1 => Bm.neg rfl ⟨5 - (e + 1), by omega, e + 1, by omega, rfl, rfl, rfl, ?_, he.trans he1⟩) fun hge => hR w' he
    rw [w64 (by omega) (by omega)]
    omega
theorem nums_ok {R : Int → Int → Int → World → Prop} (h : Pr w x m s) (hR : ∀ w', Ext [] w w' → R (s.S 0).1 (s.S 1).1 (s.S 2).1 w') : kvlaw_Nums.Call (some ⟨x, 0, none⟩) w R := by
  apply kvlaw_Nums.sound
  unfold kvlaw_Nums.B0
  refine New.mk fun t2 w1 ht2 hs1 ho1 he1 => New.mk fun p w2 hp hs2 ho2 he2 => ?_
  have o2 : Own w2 p (fnArr 3 fun j => Value.int .i64 (if j < 0 then (s.S j).1 else 0)) 34 := ho2
  have hz := he1.size
  refine ⟨fun mm x' t2' p' c w' => ∃ e : Nat, e ≤ 3 ∧ mm = 3 - e ∧ some ⟨x, 0, none⟩ = x' ∧ t2 = t2' ∧ p = p' ∧ c = (e : Int) ∧ Own w' p (fnArr 3 fun j => Value.int .i64 (if j < e then (s.S j).1 else 0)) 34 ∧ (∃ y, Own w' t2 y 34 ∧ y.size = 3) ∧ Ext [] w w', _, ⟨0, by omega, rfl, rfl, rfl, rfl, rfl, o2, ⟨_, he2.own ho1 (by simp), rfl⟩, he1.trans he2⟩, ?_⟩
  rintro mm x' t2' p' c w' ⟨e, he3, rfl, rfl, rfl, rfl, rfl, ho, ⟨y, hy, hys⟩, he⟩
  unfold kvlaw_Nums.L1b
  refine Bm.ite (fun hlt => realSess_ok (h.ext0 he).re h.ok fun w3 he4 => ⟨⟨by omega, by omega⟩, ?_⟩) fun hge => ?_
  · rw [if_pos ⟨by omega, by omega⟩, add_mk, Int.toNat_natCast, Nat.mul_one, Nat.zero_add]
    refine Sts.fn (g := fun j => Value.int .i64 (if j < e + 1 then (s.S j).1 else 0)) (he4.own ho (by simp)) (by simp; omega) rfl (fun j hj => ?_) fun w4 hs4 ho4 he5 => ⟨3 - (e + 1), by omega, e + 1, by omega, rfl, rfl, rfl, rfl, by rw [w64 (by omega) (by omega)]; omega, ho4, ⟨y, he5.own (he4.own hy (by simp)) (by simp; omega), hys⟩, up1 (he.trans he4) he5 (by omega)⟩
    unfold fnPut
    by_cases ej : j = e
    · subst ej
      rw [if_pos (by simp), if_pos (by omega)]
      simp
    · rw [if_neg (by simp; omega)]
      show Value.int .i64 (if j < e then (s.S j).1 else 0) = Value.int .i64 (if j < e + 1 then (s.S j).1 else 0)
      by_cases hj2 : j < e
      · rw [if_pos hj2, if_pos (by omega)]
      · rw [if_neg hj2, if_neg (by omega)]
  · have e3 : e = 3 := by omega
    subst e3
    exact LdI.mk ho rfl (LdI.mk ho rfl (LdI.mk ho rfl (Sts.full hy hys.symm rfl fun w4 hs4 ho4 he4 => LdI.mk ho4 rfl (LdI.mk ho4 rfl (LdI.mk ho4 rfl (hR w4 (up1 he he4 (by omega))))))))
/-! ### Lemma -/
def freshS : KvS := ⟨[], fun _ => zeroS⟩
def stepA (o : OpV) (s : KvS) : KvS := if o.k = 4 then (restoreA (snapS s.A s.S) freshS).2 else playA o s
theorem snap_back {s : KvS} (h : KvOk s.A s.S) : restoreA (snapS s.A s.S) freshS = (0, ⟨s.A, ssOf [s.S 0, s.S 1, s.S 2]⟩) := by
  unfold restoreA snapS
  rw [strB_bStr (snapB_isB h), parse_snap h]
theorem lemma_ok {o : OpV} {s' : KvS} {R : Bool → World → Prop} (h : RealAt w x s'.A s'.S) (hk : KvOk s'.A s'.S) (hk0 : KvOk s.A s.S) (ho : o.Wf) (hst : s' = stepA o s) (hR : ∀ w', Ext [] w w' → R true w') :
    kvlaw_Lemma.Call (some ⟨x, 0, none⟩) o.k o.a o.b o.c o.s o.t (snapS s.A s.S) (s.S 0).1 (s.S 1).1 (s.S 2).1 w R := by
  apply kvlaw_Lemma.sound
  unfold kvlaw_Lemma.B0
  have hsz := ho.s
  refine New.mk fun p w1 hp hs1 ho1 he1 => New.mk fun q w2 hq hs2 ho2 he2 => realSnapshot_ok (h.ext0 (he1.trans he2)) hk fun w3 he3 => ?_
  have hop := he3.own (he2.own ho1 (by simp)) (by simp)
  have hoq := he3.own ho2 (by simp)
  have e3 := (he1.trans he2).trans he3
  refine LdI.mk hop rfl (Bm.mk (fun e => ?_) fun n3 => ?_)
  · have ek : o.k = 3 := by simpa using e
    refine realNew_ok fun y w4 hy h4 he4 => LdS.mk (he4.own hop (by simp)) rfl (realRestore_ok (s := freshS) h4 (by omega) fun w5 h5 he5 => ?_)
    have e5 : Ext [] w w5 := up1 (e3.trans he4) he5 (by have := e3.size; omega)
    have hstep : s' = (restoreA o.s s).2 := by
      rw [hst]
      unfold stepA playA
      rw [if_neg (by omega), if_neg (by omega), if_pos ek]
    cases hpar : parse (strB o.s) with
    | none =>
      have r1 : restoreA o.s freshS = (15, freshS) := by unfold restoreA; rw [hpar]
      have r2 : restoreA o.s s = (15, s) := by unfold restoreA; rw [hpar]
      rw [r1]
      refine Bm.neg rfl ?_
      rw [r2] at hstep
      have hstep : s' = s := hstep
      subst hstep
      rw [str_beq, decide_eq_true rfl]
      exact hR w5 e5
    | some AQ =>
      obtain ⟨A, Q⟩ := AQ
      have r1 : restoreA o.s freshS = (0, ⟨A, ssOf Q⟩) := by unfold restoreA; rw [hpar]
      have r2 : restoreA o.s s = (0, ⟨A, ssOf Q⟩) := by unfold restoreA; rw [hpar]
      rw [r1]
      refine Bm.pos rfl ?_
      rw [r2] at hstep
      have hstep : s' = ⟨A, ssOf Q⟩ := hstep
      subst hstep
      refine LdS.mk (he5.own (he4.own hop (by simp)) (by have := hop.lt; simp; omega)) rfl ?_
      have hinv := parse_inv (strB_isB o.s) hpar
      have : snapS A (ssOf Q) = o.s := by
        unfold snapS
        rw [← hinv.1, bStr_strB]
      rw [str_beq, decide_eq_true this]
      exact hR w5 e5
  have n3 : o.k ≠ 3 := by simpa using n3
  have same : snapS s'.A s'.S = snapS s.A s.S → ∀ w', Ext [] w3 w' → R ((snapS s'.A s'.S).toList == (snapS s.A s.S).toList) w' := fun hsame w' he => by
    rw [str_beq, decide_eq_true hsame]
    exact hR w' (e3.trans he)
  have other : o.k ≠ 1 → o.k ≠ 2 → snapS s'.A s'.S = snapS s.A s.S := fun k1 k2 => by
    rw [hst]
    unfold stepA
    by_cases k4 : o.k = 4
    · rw [if_pos k4, snap_back hk0]
      rfl
    · rw [if_neg k4]
      unfold playA
      rw [if_neg (by omega), if_neg n3]
  have b2 : (o.k = 1 ∨ o.k = 2) → ∀ w4, Ext [] w3 w4 → kvlaw_Lemma.B2 (snapS s.A s.S) q (snapS s'.A s'.S) (dataOf o) w4 R := fun hk12 w4 he4 => by
    unfold kvlaw_Lemma.B2
    have hds : (dataOf o).size ≤ 281474976710656 := by
      unfold dataOf
      split
      · have := encCmd_size (c := cmdOf o); omega
      · omega
    have hstep : s' = (applyA (dataOf o) s).2 := by
      rw [hst]
      unfold stepA playA
      rw [if_neg (by omega), if_pos hk12]
    refine decodeCmd_ok hds fun w5 he5 => ⟨fun hn => NewSet.mk rfl rfl fun c w6 hc hs6 ho6 he6 => Bm.pos rfl (same ?_ w6 ((he4.trans he5).trans he6)), fun c hc => NewSet.mk rfl rfl fun a w6 ha hs6 ho6 he6 => Bm.neg rfl ?_⟩
    · rw [hstep]
      unfold applyA
      rw [hn]
    · have hcp := decCmd_ok hc
      have hca : CmdAt w6 a c := ho6
      obtain ⟨i, hi⟩ : ∃ i : Nat, c.cl = i := ⟨c.cl.toNat, by have := hcp.1; omega⟩
      have hi3 : i < 3 := by have := hcp.1; omega
      refine hca.drew.l2 (hca.drew.l1 ⟨by have := hcp.1; omega, ?_⟩)
      rw [hi, add_mk, Int.toNat_natCast, Nat.mul_one, Nat.zero_add]
      have e36 := (he4.trans he5).trans he6
      have hoq6 := (e36.own hoq (by simp)).drew
      have hcell : (#[Value.int .i64 (s.S 0).1, Value.int .i64 (s.S 1).1, Value.int .i64 (s.S 2).1] : Array Value)[i]? = some (.int .i64 (s.S i).1) := by
        match i, hi3 with
        | 0, _ | 1, _ | 2, _ => rfl
      refine LdI.mk hoq6 hcell (Bm.ite (fun hle => same ?_ _ (e36.trans (Ext.drew _ _))) fun hgt => hR _ ((e3.trans e36).trans (Ext.drew _ _)))
      rw [hstep]
      unfold applyA
      rw [hc]
      show snapS (if c.seq < (s.S c.cl.toNat).1 then _ else if c.seq = (s.S c.cl.toNat).1 then _ else _ : (Int × ByteArray) × KvS).2.A (if c.seq < (s.S c.cl.toNat).1 then _ else if c.seq = (s.S c.cl.toNat).1 then _ else _ : (Int × ByteArray) × KvS).2.S = _
      rw [show c.cl.toNat = i by omega]
      by_cases h1 : c.seq < (s.S i).1
      · rw [if_pos h1]
      · rw [if_neg h1, if_pos (by omega)]
  have b1 : (o.k = 1 ∨ o.k = 2) → kvlaw_Lemma.B1 (snapS s.A s.S) p q (snapS s'.A s'.S) false w3 R := fun hk12 => by
    unfold kvlaw_Lemma.B1
    refine Bm.neg rfl (LdS.mk hop rfl (LdI.mk hop rfl (Bm.mk (fun e => ?_) fun e => ?_)))
    · have ek : o.k = 2 := by simpa using e
      refine LdI.mk hop rfl (LdI.mk hop rfl (LdI.mk hop rfl (LdI.mk hop rfl (LdS.mk hop rfl (LdS.mk hop rfl (cmdOf_ok ho fun w4 he4 => NewSet.mk rfl rfl fun c w5 hc hs5 ho5 he5 => CmdAt.all (c := cmdOf o) ho5 (encodeCmd_ok fun w6 he6 => ?_)))))))
      have := b2 hk12 w6 ((he4.trans he5).trans he6)
      unfold dataOf at this
      rw [if_pos ek] at this
      exact this
    · have ek : o.k ≠ 2 := by simpa using e
      have := b2 hk12 w3 (Ext.refl _ _)
      unfold dataOf at this
      rw [if_neg ek] at this
      exact this
  refine LdI.mk hop rfl (Bm.mk (fun e1 => LdI.mk hop rfl ?_) fun e1 => b1 (.inl (by simpa using e1)))
  have e1' : o.k ≠ 1 := by simpa using e1
  by_cases k2 : o.k = 2
  · rw [show (o.k != 2) = false by simp [k2]]
    exact b1 (.inr k2)
  · rw [show (o.k != 2) = true by simp [k2]]
    unfold kvlaw_Lemma.B1
    exact Bm.pos rfl (same (other e1' k2) w3 (Ext.refl _ _))
theorem playA_ok {o : OpV} (h : KvOk s.A s.S) : KvOk (playA o s).A (playA o s).S := by
  unfold playA
  split
  · exact applyA_ok h
  · split
    · exact restoreA_ok h
    · exact h
end
end Go.Proofs.Qxb6500429a
