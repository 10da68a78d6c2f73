/-
  nodelaw: the looks compared.
-/
import Derived.Test.Qxb6500430aGreatNdM
import Derived.Test.Qxb6500430aGreatScript
set_option linter.unusedVariables false
set_option linter.unusedSimpArgs false
open Go.Vc
namespace Go.Proofs.Qxb6500430aGreat
open Kv
structure VEq (Y Z : YS) : Prop where
  term : Y.e.term = Z.e.term
  vote : Y.e.vote = Z.e.vote
  base : Y.L.base = Z.L.base
  bterm : Y.L.bterm = Z.L.bterm
  last : Y.L.last = Z.L.last
  snap : Y.L.snap = Z.L.snap
theorem adkN (b o : Nat) (j : Nat) : Addr.add (Addr.add (⟨b, 0, none⟩ : Addr) o) ((j : Int).toNat * 1) = ⟨b, o + j, none⟩ := by
  rw [add_mk, add_mk, Int.toNat_natCast, Nat.mul_one, Nat.zero_add]
section
variable {w w' : World} {Y Z : YS}
theorem sameSync_ok {k1 k2 : Nat} {R : Bool → World → Prop} (h1 : Own w k1 (viewC Y) T_api_SyncView) (h2 : Own w k2 (viewC Z) T_api_SyncView) (hR : ∀ x w', (x = true → VEq Y Z) → (Y = Z → x = true) → Ext [] w w' → R x w') : nodelaw_SameSync.Call (some ⟨k1, 0, none⟩) (some ⟨k2, 0, none⟩) w R := by
  apply nodelaw_SameSync.sound
  unfold nodelaw_SameSync.B0
  have no : ∀ {wx : World}, Ext [] w wx → Y ≠ Z → R false wx := fun he hn => hR false _ (fun e => (by cases e)) (fun e => absurd e hn) he
  have b1 : ∀ {wx : World}, Ext [] w wx → Y ≠ Z → nodelaw_SameSync.B1 (some ⟨k1, 0, none⟩) (some ⟨k2, 0, none⟩) true wx R := fun he hn => by unfold nodelaw_SameSync.B1; exact Bm.pos rfl (no he hn)
  have b2 : ∀ {wx : World}, Ext [] w wx → Y ≠ Z → nodelaw_SameSync.B2 (some ⟨k1, 0, none⟩) (some ⟨k2, 0, none⟩) true wx R := fun he hn => by unfold nodelaw_SameSync.B2; exact Bm.pos rfl (no he hn)
  have E1 : Ext [] w w.drew := Ext.drew _ _
  have o1 : Own w.drew k1 (viewC Y) T_api_SyncView := h1
  have p1 : Own w.drew k2 (viewC Z) T_api_SyncView := h2
  have E2 := E1.trans (Ext.drew [] w.drew)
  have o2 : Own w.drew.drew k1 (viewC Y) T_api_SyncView := h1
  have p2 : Own w.drew.drew k2 (viewC Z) T_api_SyncView := h2
  have I : ∀ {wx : World} {k : Nat} {cs : Array Value} {o : Nat} {v : Int} {K : Int → Prop}, Own wx k cs T_api_SyncView → cs[o]? = some (.int .i64 v) → K v → Pn (some (⟨k, 0, none⟩ : Addr)) fun a => LdI .i64 (Addr.add a o) wx K := fun ho hc hk => Pn.mk (by rw [add_mk, Nat.zero_add]; exact LdI.mk ho hc hk)
  refine Pn.mk (LdI.mk o1 rfl (Pn.mk (LdI.mk p1 rfl ?_)))
  by_cases c1 : Y.e.id = Z.e.id
  rotate_left
  · exact Bm.pos (by simpa using c1) (b1 E1 fun e => c1 (by rw [e]))
  refine Bm.neg (by simpa using c1) (I (o := 1) o1 rfl (I (o := 1) p1 rfl ?_))
  by_cases c2 : Y.e.term = Z.e.term
  rotate_left
  · exact Bm.pos (by simpa using c2) (b1 E1 fun e => c2 (by rw [e]))
  refine Bm.neg (by simpa using c2) (I (o := 2) o1 rfl (I (o := 2) p1 rfl ?_))
  by_cases c3 : Y.e.vote = Z.e.vote
  rotate_left
  · exact Bm.pos (by simpa using c3) (b1 E1 fun e => c3 (by rw [e]))
  refine Bm.neg (by simpa using c3) (I (o := 3) o1 rfl (I (o := 3) p1 rfl ?_))
  by_cases c4 : Y.e.role = Z.e.role
  rotate_left
  · exact Bm.pos (by simpa using c4) (b1 E1 fun e => c4 (by rw [e]))
  refine Bm.neg (by simpa using c4) (I (o := 4) o1 rfl (I (o := 4) p1 rfl ?_))
  by_cases c5 : Y.e.leader = Z.e.leader
  rotate_left
  · exact Bm.pos (by simpa using c5) (b1 E1 fun e => c5 (by rw [e]))
  refine Bm.neg (by simpa using c5) (I (o := 5) o1 rfl (I (o := 5) p1 rfl ?_))
  by_cases c6 : Y.e.clock = Z.e.clock
  rotate_left
  · rw [show (Y.e.clock != Z.e.clock) = true by simpa using c6]; exact b1 E1 fun e => c6 (by rw [e])
  rw [show (Y.e.clock != Z.e.clock) = false by simpa using c6]
  unfold nodelaw_SameSync.B1
  refine Bm.neg rfl (I (o := 9) o2 rfl (I (o := 9) p2 rfl ?_))
  by_cases c7 : Y.cm = Z.cm
  rotate_left
  · exact Bm.pos (by simpa using c7) (b2 E2 fun e => c7 (by rw [e]))
  refine Bm.neg (by simpa using c7) (I (o := 10) o2 rfl (I (o := 10) p2 rfl ?_))
  by_cases c8 : Y.L.base = Z.L.base
  rotate_left
  · exact Bm.pos (by simpa using c8) (b2 E2 fun e => c8 (by rw [e]))
  refine Bm.neg (by simpa using c8) (I (o := 11) o2 rfl (I (o := 11) p2 rfl ?_))
  by_cases c9 : Y.L.bterm = Z.L.bterm
  rotate_left
  · exact Bm.pos (by simpa using c9) (b2 E2 fun e => c9 (by rw [e]))
  refine Bm.neg (by simpa using c9) (I (o := 12) o2 rfl (I (o := 12) p2 rfl ?_))
  by_cases c10 : Y.L.last = Z.L.last
  rotate_left
  · exact Bm.pos (by simpa using c10) (b2 E2 fun e => c10 (by rw [e]))
  refine Bm.neg (by simpa using c10) (Pn.mk ?_)
  rw [add_mk]
  refine LdS.mk o2 rfl (Pn.mk ?_)
  rw [add_mk]
  refine LdS.mk p2 rfl ?_
  show nodelaw_SameSync.B2 _ _ (!(Y.L.snap.toList == Z.L.snap.toList)) _ _
  rw [Kv.str_beq]
  by_cases c11 : Y.L.snap = Z.L.snap
  rotate_left
  · rw [decide_eq_false c11]
    exact b2 E2 fun e => c11 (by rw [e])
  rw [decide_eq_true c11]
  unfold nodelaw_SameSync.B2
  refine Bm.neg rfl ?_
  have veq : VEq Y Z := ⟨c2, c3, c8, c9, c10, c11⟩
  unfold nodelaw_SameSync.L1
  refine ⟨fun m a' b' p w' => ∃ n : Nat, n ≤ 3 ∧ m = 3 - n ∧ some ⟨k1, 0, none⟩ = a' ∧ some ⟨k2, 0, none⟩ = b' ∧ p = (n : Int) ∧ Ext [] w w', _, ⟨0, by omega, rfl, rfl, rfl, rfl, E2⟩, ?_⟩
  rintro m a' b' p wa ⟨n, hn, rfl, rfl, rfl, rfl, hea⟩
  unfold nodelaw_SameSync.L1b
  refine Bm.ite (fun hlt => ?_) fun hge => hR true wa (fun _ => veq) (fun _ => rfl) hea
  have Ead := hea.trans (Ext.drew [] wa)
  have oa : Own wa.drew k1 (viewC Y) T_api_SyncView := Ead.own h1 (by simp)
  have pa : Own wa.drew k2 (viewC Z) T_api_SyncView := Ead.own h2 (by simp)
  have ix : (0 : Int) ≤ (n : Int) ∧ (n : Int) < ((3 : Nat) : Int) := ⟨by omega, by omega⟩
  have g : ∀ W : YS, (viewC W)[6 + n]? = some (.bool (El.gotB W.e (n : Int))) ∧ (viewC W)[14 + n]? = some (.int .i64 (W.nx n)) ∧ (viewC W)[17 + n]? = some (.int .i64 (W.mt n)) := fun W => by
    have : n = 0 ∨ n = 1 ∨ n = 2 := by omega
    rcases this with rfl | rfl | rfl <;> exact ⟨rfl, rfl, rfl⟩
  have b5 : Y ≠ Z → ∀ N1, nodelaw_SameSync.B3 (some ⟨k1, 0, none⟩) (some ⟨k2, 0, none⟩) (n : Int) true wa.drew N1 R := fun hn N1 => by unfold nodelaw_SameSync.B3; exact Bm.pos rfl (no Ead hn)
  refine Pn.mk ⟨ix, ?_⟩
  rw [adkN]
  refine LdB.mk oa (g Y).1 (Pn.mk ⟨ix, ?_⟩)
  rw [adkN]
  refine LdB.mk pa (g Z).1 ?_
  by_cases d1 : El.gotB Y.e (n : Int) = El.gotB Z.e (n : Int)
  rotate_left
  · exact Bm.pos (by simpa using d1) (b5 (fun e => d1 (by rw [e])) _)
  refine Bm.neg (by simpa using d1) (Pn.mk ⟨ix, ?_⟩)
  rw [adkN]
  refine LdI.mk oa (g Y).2.1 (Pn.mk ⟨ix, ?_⟩)
  rw [adkN]
  refine LdI.mk pa (g Z).2.1 ?_
  by_cases d2 : Y.nx n = Z.nx n
  rotate_left
  · exact Bm.pos (by simpa using d2) (b5 (fun e => d2 (by rw [e])) _)
  refine Bm.neg (by simpa using d2) (Pn.mk ⟨ix, ?_⟩)
  rw [adkN]
  refine LdI.mk oa (g Y).2.2 (Pn.mk ⟨ix, ?_⟩)
  rw [adkN]
  refine LdI.mk pa (g Z).2.2 ?_
  by_cases d3 : Y.mt n = Z.mt n
  rotate_left
  · rw [show (Y.mt n != Z.mt n) = true by simpa using d3]; exact b5 (fun e => d3 (by rw [e])) _
  rw [show (Y.mt n != Z.mt n) = false by simpa using d3]
  unfold nodelaw_SameSync.B3
  exact Bm.neg rfl ⟨3 - (n + 1), by omega, n + 1, by omega, rfl, rfl, rfl, by rw [w64 (by omega) (by omega)]; omega, Ead⟩
end
section
variable {w w' : World} {lo p s kp k l t d e : Nat} {D0 D : DiskS} {N : Int} {L0 : LogS} {F : List Nat} {A : AbsS} {n m : NS} {S : List LogS} {raw : Nat → Value} {Rs : List Rep} {lo2 p2 kp2 s2 q2 me2 : Nat} {M : MSt}
theorem nsAt_ok {i : Int} {R : Bool → World → Prop} (h : NReal w lo p kp k s l t d e D0 N L0 D F A n S raw Rs) (hm : NMod w lo2 p2 kp2 s2 q2 me2 M m) (hk : LogOk m.Y.L) (hi : -9223372036854775808 ≤ i ∧ i ≤ 9223372036854775807) (hR : ∀ x w', (x = true ↔ atL n.Y.L i = atL m.Y.L i) → Ext [] w w' → R x w') : nodelaw_SameAt.Call (some ⟨p, 0, none⟩) (some ⟨p2, 0, none⟩) i w R := by
  apply nodelaw_SameAt.sound
  unfold nodelaw_SameAt.B0
  refine nAt_ok h hi fun w1 he1 => NewSet.mk rfl rfl fun a w3 ha hs3 oa3 he3 => ?_
  have E3 : Ext [] w w3 := he1.trans he3
  refine nmAt_ok (hm.ext0 E3) hk hi fun w4 he4 => NewSet.mk rfl rfl fun b w6 hb hs6 ob6 he6 => ?_
  have oa6 := he6.own (he4.own oa3 (by simp)) (by simp)
  have E6 : Ext [] w w6 := (E3.trans he4).trans he6
  generalize atL n.Y.L i = x at hR oa6
  generalize atL m.Y.L i = y at hR ob6
  obtain ⟨⟨a1, a2⟩, a3⟩ := x
  obtain ⟨⟨b1, b2⟩, b3⟩ := y
  simp only at oa6 ob6 ⊢
  have no : ((a1, a2), a3) ≠ ((b1, b2), b3) → R false w6 := fun hn => hR false w6 ⟨fun e => (by cases e), fun e => absurd e hn⟩ E6
  by_cases c : a3 = b3
  rotate_left
  · exact Bm.neg (by simpa using c) (no fun e => c (Prod.mk.inj e).2)
  refine Bm.pos (by simpa using c) (LdI.mk oa6 rfl (LdI.mk ob6 rfl ?_))
  by_cases c1 : a1 = b1
  rotate_left
  · exact Bm.neg (by simpa using c1) (no fun e => c1 (Prod.mk.inj (Prod.mk.inj e).1).1)
  refine Bm.pos (by simpa using c1) (LdS.mk oa6 rfl (LdS.mk ob6 rfl ?_))
  rw [Kv.str_beq]
  refine hR _ w6 ?_ E6
  rw [decide_eq_true_iff]
  exact ⟨fun e => by rw [c, c1, e], fun e => (Prod.mk.inj (Prod.mk.inj e).1).2⟩
theorem nsTermAt_ok {i : Int} {R : Bool → World → Prop} (h : NReal w lo p kp k s l t d e D0 N L0 D F A n S raw Rs) (hm : NMod w lo2 p2 kp2 s2 q2 me2 M m) (hk : LogOk m.Y.L) (hi : -9223372036854775808 ≤ i ∧ i ≤ 9223372036854775807) (hR : ∀ x w', (x = true ↔ termL n.Y.L i = termL m.Y.L i) → Ext [] w w' → R x w') : nodelaw_SameTermAt.Call (some ⟨p, 0, none⟩) (some ⟨p2, 0, none⟩) i w R := by
  apply nodelaw_SameTermAt.sound
  unfold nodelaw_SameTermAt.B0
  refine nTermAt_ok h hi fun w1 he1 => nmTermAt_ok (hm.ext0 he1) hk hi fun w2 he2 => ?_
  have E2 := he1.trans he2
  generalize termL n.Y.L i = x at hR
  generalize termL m.Y.L i = y at hR
  obtain ⟨a1, a2⟩ := x
  obtain ⟨b1, b2⟩ := y
  by_cases c : a2 = b2
  · refine Bm.pos (by simpa using c) (hR _ w2 ?_ E2)
    rw [beq_iff_eq, c]
    exact ⟨fun e => Prod.ext e rfl, fun e => (Prod.mk.inj e).1⟩
  · exact Bm.neg (by simpa using c) (hR false w2 ⟨fun e => (by cases e), fun e => absurd (Prod.mk.inj e).2 c⟩ E2)
theorem nsView_ok {R : Bool → World → Prop} (h : NReal w lo p kp k s l t d e D0 N L0 D F A n S raw Rs) (hm : NMod w lo2 p2 kp2 s2 q2 me2 M m) (hw : n.Y.e.Wf) (hk : LogOk m.Y.L) (hR : ∀ x w', (x = true → VEq n.Y m.Y) → (n = m → x = true) → Ext [] w w' → R x w') : nodelaw_SameView.Call (some ⟨p, 0, none⟩) (some ⟨p2, 0, none⟩) w R := by
  apply nodelaw_SameView.sound
  unfold nodelaw_SameView.B0
  refine nview_ok h hw fun v1 b1 w1 ov1 ob1 he1 => nmview_ok (hm.ext0 he1) hk fun v2 b2 w2 ov2 ob2 he2 => Pn.mk ?_
  have E2 := (he1.trans he2).trans (Ext.drew [] w2)
  have e12 := he2.trans (Ext.drew [] w2)
  have a1 := e12.own ob1 (by simp)
  have a2 : Own w2.drew b2 (viewN v2 m) T_api_NodeView := Own.drew ob2
  refine LdP.mk a1 rfl (Pn.mk (LdP.mk a2 rfl (sameSync_ok (e12.own ov1 (by simp)) (Own.drew ov2) fun x w3 g1 g2 he3 => ?_)))
  have E3 := E2.trans he3
  have no : ∀ {wx : World}, Ext [] w wx → n ≠ m → R false wx := fun he hn => hR false _ (fun e => (by cases e)) (fun e => absurd e hn) he
  cases x with
  | false => exact Bm.pos rfl (no E3 fun e => by have := g2 (by rw [e]); cases this)
  | true =>
  have veq := g1 rfl
  refine Bm.neg rfl (Pn.mk ?_)
  have E3d := E3.trans (Ext.drew [] w3)
  have e3d := he3.trans (Ext.drew [] w3)
  have c1 := e3d.own a1 (by simp)
  have c2 := e3d.own a2 (by simp)
  rw [add_mk]
  refine LdI.mk c1 rfl (Pn.mk ?_)
  rw [add_mk]
  refine LdI.mk c2 rfl ?_
  show Bm (n.ap != m.ap) _ _
  by_cases d1 : n.ap = m.ap
  rotate_left
  · exact Bm.pos (by simpa using d1) (no E3d fun e => d1 (by rw [e]))
  refine Bm.neg (by simpa using d1) ?_
  unfold nodelaw_SameView.L1
  refine ⟨fun mm a' b' c w' => ∃ j : Nat, j ≤ 3 ∧ mm = 3 - j ∧ some ⟨b1, 0, none⟩ = a' ∧ some ⟨b2, 0, none⟩ = b' ∧ c = (j : Int) ∧ Ext [] w3.drew w', _, ⟨0, by omega, rfl, rfl, rfl, rfl, Ext.refl _ _⟩, ?_⟩
  rintro mm a' b' c wa ⟨j, hj, rfl, rfl, rfl, rfl, hea⟩
  unfold nodelaw_SameView.L1b
  have Ea := E3d.trans hea
  refine Bm.ite (fun hlt => ?_) fun hge => hR true wa (fun _ => veq) (fun _ => rfl) Ea
  have hed := hea.trans (Ext.drew [] wa)
  have Ead := E3d.trans hed
  have oa := hed.own c1 (by simp)
  have pa := hed.own c2 (by simp)
  have ix : (0 : Int) ≤ (j : Int) ∧ (j : Int) < ((3 : Nat) : Int) := ⟨by omega, by omega⟩
  have g : ∀ (v : Nat) (W : NS), (viewN v W)[2 + j]? = some (.bool (W.used j)) ∧ (viewN v W)[5 + j]? = some (.int .i64 (W.seq j)) ∧ (viewN v W)[8 + j]? = some (.int .i64 (W.idx j)) := fun v W => by
    have : j = 0 ∨ j = 1 ∨ j = 2 := by omega
    rcases this with rfl | rfl | rfl <;> exact ⟨rfl, rfl, rfl⟩
  have b5 : n ≠ m → ∀ N1, nodelaw_SameView.B1 (some ⟨b1, 0, none⟩) (some ⟨b2, 0, none⟩) (j : Int) true wa.drew N1 R := fun hn N1 => by unfold nodelaw_SameView.B1; exact Bm.pos rfl (no Ead hn)
  refine Pn.mk ⟨ix, ?_⟩
  rw [adkN]
  refine LdB.mk oa (g v1 n).1 (Pn.mk ⟨ix, ?_⟩)
  rw [adkN]
  refine LdB.mk pa (g v2 m).1 ?_
  by_cases f1 : n.used j = m.used j
  rotate_left
  · exact Bm.pos (by simpa using f1) (b5 (fun e => f1 (by rw [e])) _)
  refine Bm.neg (by simpa using f1) (Pn.mk ⟨ix, ?_⟩)
  rw [adkN]
  refine LdI.mk oa (g v1 n).2.1 (Pn.mk ⟨ix, ?_⟩)
  rw [adkN]
  refine LdI.mk pa (g v2 m).2.1 ?_
  by_cases f2 : n.seq j = m.seq j
  rotate_left
  · exact Bm.pos (by simpa using f2) (b5 (fun e => f2 (by rw [e])) _)
  refine Bm.neg (by simpa using f2) (Pn.mk ⟨ix, ?_⟩)
  rw [adkN]
  refine LdI.mk oa (g v1 n).2.2 (Pn.mk ⟨ix, ?_⟩)
  rw [adkN]
  refine LdI.mk pa (g v2 m).2.2 ?_
  by_cases f3 : n.idx j = m.idx j
  rotate_left
  · rw [show (n.idx j != m.idx j) = true by simpa using f3]; exact b5 (fun e => f3 (by rw [e])) _
  rw [show (n.idx j != m.idx j) = false by simpa using f3]
  unfold nodelaw_SameView.B1
  exact Bm.neg rfl ⟨3 - (j + 1), by omega, j + 1, by omega, rfl, rfl, rfl, by rw [w64 (by omega) (by omega)]; omega, hed⟩
theorem nsLen_ok {R : Bool → World → Prop} (h : NReal w lo p kp k s l t d e D0 N L0 D F A n S raw Rs) (hm : NMod w lo2 p2 kp2 s2 q2 me2 M m) (hR : ∀ x w', (n = m → x = true) → Ext [] w w' → R x w') : nodelaw_SameLen.Call (some ⟨p, 0, none⟩) (some ⟨p2, 0, none⟩) w R := by
  apply nodelaw_SameLen.sound
  unfold nodelaw_SameLen.B0
  exact nLen_ok h (nmLen_ok hm (hR _ w (fun e => by rw [e]; simp) (Ext.refl _ _)))
theorem nsKeyAt_ok {i : Int} {R : Bool → World → Prop} (h : NReal w lo p kp k s l t d e D0 N L0 D F A n S raw Rs) (hm : NMod w lo2 p2 kp2 s2 q2 me2 M m) (h1 : KvOk n.kv.A n.kv.S) (h2 : KvOk m.kv.A m.kv.S) (hR : ∀ x w', (n = m → x = true) → Ext [] w w' → R x w') : nodelaw_SameKeyAt.Call (some ⟨p, 0, none⟩) (some ⟨p2, 0, none⟩) i w R := by
  apply nodelaw_SameKeyAt.sound
  unfold nodelaw_SameKeyAt.B0
  exact nKeyAt_ok h h1 fun w1 he1 => nmKeyAt_ok (hm.ext0 he1) h2.le (hR _ w1 (fun e => by rw [e, Kv.str_beq]; simp) he1)
theorem nsVal_ok {kk : ByteArray} {R : Bool → World → Prop} (h : NReal w lo p kp k s l t d e D0 N L0 D F A n S raw Rs) (hm : NMod w lo2 p2 kp2 s2 q2 me2 M m) (h1 : KvOk n.kv.A n.kv.S) (h2 : KvOk m.kv.A m.kv.S) (hR : ∀ x w', (n = m → x = true) → Ext [] w w' → R x w') : nodelaw_SameVal.Call (some ⟨p, 0, none⟩) (some ⟨p2, 0, none⟩) kk w R := by
  apply nodelaw_SameVal.sound
  unfold nodelaw_SameVal.B0
  refine nVal_ok h h1 fun w1 he1 => nmVal_ok (hm.ext0 he1) h2 ?_
  refine Bm.mk (fun _ => hR _ w1 (fun e => by rw [e]; simp) he1) fun hq => hR false w1 (fun e => ?_) he1
  rw [e, Kv.str_beq] at hq
  simp at hq
theorem nsSess_ok {c : Int} {R : Bool → World → Prop} (h : NReal w lo p kp k s l t d e D0 N L0 D F A n S raw Rs) (hm : NMod w lo2 p2 kp2 s2 q2 me2 M m) (h1 : KvOk n.kv.A n.kv.S) (hR : ∀ x w', (n = m → x = true) → Ext [] w w' → R x w') : nodelaw_SameSess.Call (some ⟨p, 0, none⟩) (some ⟨p2, 0, none⟩) c w R := by
  apply nodelaw_SameSess.sound
  unfold nodelaw_SameSess.B0
  refine nSess_ok h h1 fun w1 he1 => NewSet.mk rfl rfl fun a w3 ha hs3 oa3 he3 => ?_
  have E3 : Ext [] w w3 := he1.trans he3
  refine nmSess_ok (hm.ext0 E3) fun w4 he4 => NewSet.mk rfl rfl fun b w6 hb hs6 ob6 he6 => ?_
  have oa6 := he6.own (he4.own oa3 (by simp)) (by simp)
  have E6 : Ext [] w w6 := (E3.trans he4).trans he6
  refine Bm.mk (fun _ => LdI.mk oa6 rfl (LdI.mk ob6 rfl (Bm.mk (fun _ => LdS.mk oa6 rfl (LdS.mk ob6 rfl (hR _ w6 (fun e => by rw [e, Kv.str_beq]; simp) E6))) fun hq => hR false w6 (fun e => by rw [e] at hq; simp at hq) E6))) fun hq => hR false w6 (fun e => by rw [e] at hq; simp at hq) E6
theorem nsAlikeLog_ok {R : Bool → World → Prop} (h : NReal w lo p kp k s l t d e D0 N L0 D F A n S raw Rs) (hm : NMod w lo2 p2 kp2 s2 q2 me2 M m) (hY : YsOk n.Y) (hZ : YsOk m.Y) (hR : ∀ x w', (x = true → n.Y.L = m.Y.L) → (n = m → x = true) → Ext [] w w' → R x w') : nodelaw_AlikeLog.Call (some ⟨p, 0, none⟩) (some ⟨p2, 0, none⟩) w R := by
  apply nodelaw_AlikeLog.sound
  unfold nodelaw_AlikeLog.B0
  have hk := hZ.L
  have hb := hk.base
  have hla : m.Y.L.base + (m.Y.L.ents.length : Int) ≤ 72057594037927936 := hk.last
  have elast : m.Y.L.last = m.Y.L.base + (m.Y.L.ents.length : Int) := rfl
  have no : ∀ {wx : World}, Ext [] w wx → n ≠ m → R false wx := fun he hn => hR false _ (fun e => (by cases e)) (fun e => absurd e hn) he
  refine nsView_ok h hm hY.e hk fun x1 w1 g1 g2 he1 => ?_
  cases x1 with
  | false => exact Bm.pos rfl (no he1 fun e => by have := g2 e; cases this)
  | true =>
  have veq := g1 rfl
  refine Bm.neg rfl (nmview_ok (hm.ext0 he1) hk fun v b w2 ov ob he2 => Pn.mk (LdP.mk ob rfl (Pn.mk ?_)))
  rw [add_mk]
  refine LdI.mk ov rfl ?_
  have E2 := he1.trans he2
  show nodelaw_AlikeLog.L1 (some ⟨p, 0, none⟩) (some ⟨p2, 0, none⟩) (some ⟨b, 0, none⟩) (IntKind.i64.wrap (m.Y.L.base - 1)) w2 R
  rw [w64 (by omega) (by omega)]
  unfold nodelaw_AlikeLog.L1
  refine ⟨fun mm a b' v' i w' => some ⟨p, 0, none⟩ = a ∧ some ⟨p2, 0, none⟩ = b' ∧ some ⟨b, 0, none⟩ = v' ∧ m.Y.L.base - 1 ≤ i ∧ i ≤ m.Y.L.last + 2 ∧ mm = (m.Y.L.last + 2 - i).toNat ∧ Ext [] w2 w' ∧ ∀ k : Int, m.Y.L.base - 1 ≤ k → k < i → atL n.Y.L k = atL m.Y.L k, _, ⟨rfl, rfl, rfl, by omega, by omega, rfl, Ext.refl _ _, fun k h1 h2 => by omega⟩, ?_⟩
  rintro mm a b' v' i w8 ⟨rfl, rfl, rfl, i0, i1, rfl, hE, hall⟩
  unfold nodelaw_AlikeLog.L1b
  have E8 := E2.trans hE
  refine Pn.mk (LdP.mk (hE.own ob (by simp)) rfl (Pn.mk ?_))
  rw [add_mk]
  refine LdI.mk (hE.own ov (by simp)) rfl ?_
  show Bm (decide (i ≤ IntKind.i64.wrap (m.Y.L.last + 1))) _ _
  rw [w64 (by omega) (by omega)]
  refine Bm.ite (fun hc => ?_) fun hc => ?_
  · refine nsAt_ok (h.ext0 E8) (hm.ext0 E8) hk (by omega) fun x9 w9 hx9 e9' => ?_
    have e9 := E8.trans e9'
    cases x9 with
    | false => exact Bm.pos rfl (no e9 fun e => by have := hx9.2 (by rw [e]); cases this)
    | true =>
    refine Bm.neg rfl (nsTermAt_ok (h.ext0 e9) (hm.ext0 e9) hk (by omega) fun x10 w10 hx10 e10' => ?_)
    have e10 := e9.trans e10'
    cases x10 with
    | false => exact Bm.pos rfl (no e10 fun e => by have := hx10.2 (by rw [e]); cases this)
    | true =>
    refine Bm.neg rfl ?_
    rw [w64 (by omega) (by omega)]
    refine ⟨(m.Y.L.last + 2 - (i + 1)).toNat, by omega, rfl, rfl, rfl, by omega, by omega, rfl, (hE.trans e9').trans e10', fun k h1 h2 => ?_⟩
    by_cases e : k = i
    · rw [e]; exact hx9.1 rfl
    · exact hall k h1 (by omega)
  · refine hR true w8 (fun _ => ?_) (fun _ => rfl) E8
    exact LogS.ext' (by rw [← hY.term, ← hZ.term]; exact veq.term) (by rw [← hY.vote, ← hZ.vote]; exact veq.vote) veq.base veq.bterm veq.snap (ents_eq veq.base veq.last fun k h1 h2 => hall k h1 (by omega))
theorem nsAlikeKV_ok {key : ByteArray} {R : Bool → World → Prop} (h : NReal w lo p kp k s l t d e D0 N L0 D F A n S raw Rs) (hm : NMod w lo2 p2 kp2 s2 q2 me2 M m) (h1 : KvOk n.kv.A n.kv.S) (h2 : KvOk m.kv.A m.kv.S) (hR : ∀ x w', (n = m → x = true) → Ext [] w w' → R x w') : nodelaw_AlikeKV.Call (some ⟨p, 0, none⟩) (some ⟨p2, 0, none⟩) key w R := by
  apply nodelaw_AlikeKV.sound
  unfold nodelaw_AlikeKV.B0
  have hle := h2.le
  refine nsLen_ok h hm fun x1 w1 g1 he1 => ?_
  cases x1 with
  | false => exact Bm.pos rfl (hR false w1 g1 he1)
  | true =>
  refine Bm.neg rfl (nmLen_ok (hm.ext0 he1) ?_)
  unfold nodelaw_AlikeKV.L1
  refine ⟨fun mm a b key' nn i w' => ∃ j : Nat, j ≤ m.kv.A.length + 2 ∧ mm = m.kv.A.length + 2 - j ∧ some ⟨p, 0, none⟩ = a ∧ some ⟨p2, 0, none⟩ = b ∧ key = key' ∧ (m.kv.A.length : Int) = nn ∧ i = (j : Int) - 1 ∧ Ext [] w w', _, ⟨0, by omega, rfl, rfl, rfl, rfl, rfl, by omega, he1⟩, ?_⟩
  rintro mm a b key' nn i wa ⟨j, hj, rfl, rfl, rfl, rfl, rfl, rfl, ea⟩
  unfold nodelaw_AlikeKV.L1b
  refine Bm.ite (fun hc => ?_) fun hc => ?_
  · refine nsKeyAt_ok (h.ext0 ea) (hm.ext0 ea) h1 h2 fun x2 w2 g2 he2 => ?_
    have E2 := ea.trans he2
    cases x2 with
    | false => exact Bm.pos rfl (hR false w2 g2 E2)
    | true =>
    refine Bm.neg rfl (nmKeyAt_ok (hm.ext0 E2) hle (nsVal_ok (h.ext0 E2) (hm.ext0 E2) h1 h2 fun x3 w3 g3 he3 => ?_))
    have E3 := E2.trans he3
    cases x3 with
    | false => exact Bm.pos rfl (hR false w3 g3 E3)
    | true => exact Bm.neg rfl ⟨m.kv.A.length + 2 - (j + 1), by omega, j + 1, by omega, rfl, rfl, rfl, rfl, rfl, by rw [w64 (by omega) (by omega)]; omega, E3⟩
  · refine nsVal_ok (h.ext0 ea) (hm.ext0 ea) h1 h2 fun x3 w3 g3 he3 => ?_
    have E3 := ea.trans he3
    cases x3 with
    | false => exact Bm.pos rfl (hR false w3 g3 E3)
    | true =>
    refine Bm.neg rfl ?_
    unfold nodelaw_AlikeKV.L2
    refine ⟨fun mm a b c w' => ∃ j : Nat, j ≤ 5 ∧ mm = 5 - j ∧ some ⟨p, 0, none⟩ = a ∧ some ⟨p2, 0, none⟩ = b ∧ c = (j : Int) - 1 ∧ Ext [] w w', _, ⟨0, by omega, rfl, rfl, rfl, by omega, E3⟩, ?_⟩
    rintro mm a b c wb ⟨j2, hj2, rfl, rfl, rfl, rfl, eb⟩
    unfold nodelaw_AlikeKV.L2b
    refine Bm.ite (fun hc2 => ?_) fun hc2 => hR true wb (fun _ => rfl) eb
    refine nsSess_ok (h.ext0 eb) (hm.ext0 eb) h1 fun x4 w4 g4 he4 => ?_
    have E4 := eb.trans he4
    cases x4 with
    | false => exact Bm.pos rfl (hR false w4 g4 E4)
    | true => exact Bm.neg rfl ⟨5 - (j2 + 1), by omega, j2 + 1, by omega, rfl, rfl, rfl, by rw [w64 (by omega) (by omega)]; omega, E4⟩
theorem nsAlike_ok {key : ByteArray} {R : Bool → World → Prop} (h : NReal w lo p kp k s l t d e D0 N L0 D F A n S raw Rs) (hm : NMod w lo2 p2 kp2 s2 q2 me2 M m) (hn : NOk n) (hm2 : NOk m) (hR : ∀ x w', (x = true → n.Y.L = m.Y.L) → (n = m → x = true) → Ext [] w w' → R x w') : nodelaw_Alike.Call (some ⟨p, 0, none⟩) (some ⟨p2, 0, none⟩) key w R := by
  apply nodelaw_Alike.sound
  unfold nodelaw_Alike.B0
  refine nsAlikeLog_ok h hm hn.mid.y hm2.mid.y fun x1 w1 g1 g2 he1 => ?_
  cases x1 with
  | false => exact Bm.pos rfl (hR false w1 (fun e => by cases e) g2 he1)
  | true => exact Bm.neg rfl (nsAlikeKV_ok (h.ext0 he1) (hm.ext0 he1) hn.mid.k hm2.mid.k fun x2 w2 g3 he2 => hR x2 w2 (fun _ => g1 rfl) g3 (he1.trans he2))
end
end Go.Proofs.Qxb6500430aGreat
