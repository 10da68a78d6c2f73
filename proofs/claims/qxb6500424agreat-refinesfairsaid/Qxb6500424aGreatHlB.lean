/-
  hostlaw: Ground, host.New, Build.
-/
import Derived.Test.Qxb6500424aGreatHlA
set_option linter.unusedVariables false
set_option linter.unusedSimpArgs false
open Go.Vc
namespace Go.Proofs.Qxb6500424aGreat
section
variable {w w' : World} {c : Nat}
def freshT : TC := ⟨Sk.S0, fun _ => C0⟩
def freshHS (a : Int) : HS := ⟨a, 0, 0, fun _ => 0, Fm.freshLink a, 0, 24, [], freshT⟩
structure GroundAt (w : World) (B : HB) (a : Int) (k : Nat) : Prop where
  L : Fm.RealAt w B.lk (Fm.freshLink a)
  P : Ip.RealAt w B.ip (Ip.freshIP a)
  T : Sk.RAt w B.tb Sk.S0
  C : ∀ s, s < k → CnR w (B.cx s) (B.cs s) (B.cr s) C0
  inj : ∀ i j, i < k → j < k → i ≠ j → B.cx i ≠ B.cx j ∧ B.cs i ≠ B.cs j ∧ B.cr i ≠ B.cr j
theorem GroundAt.ext {B : HB} {a : Int} {k : Nat} {X : List Nat} (h : GroundAt w B a k) (he : Ext X w w') (h1 : B.lk ∉ X) (h2 : B.ip ∉ X) (h3 : B.tb ∉ X) (h4 : ∀ s, s < k → B.cx s ∉ X ∧ B.cs s ∉ X ∧ B.cr s ∉ X) : GroundAt w' B a k :=
  ⟨he.own h.L h1, he.own h.P h2, h.T.ext he h3, fun s hs => (h.C s hs).ext he (h4 s hs).1 (h4 s hs).2.1 (h4 s hs).2.2, h.inj⟩
theorem GroundAt.ext0 {B : HB} {a : Int} {k : Nat} (h : GroundAt w B a k) (he : Ext [] w w') : GroundAt w' B a k := h.ext he (by simp) (by simp) (by simp) (fun s _ => by simp)
def lowL (B : HB) (k : Nat) (y : Nat) : Prop := y = B.lk ∨ y = B.ip ∨ y = B.tb ∨ ∃ s, s < k ∧ (y = B.cx s ∨ y = B.cs s ∨ y = B.cr s)
theorem cNew_ok {p r : Nat} {R : Option Addr → World → Prop} (hp : SR w p S0s) (hr : RR w r R0s) (hR : ∀ x w', w.heap.size ≤ x → x < w'.heap.size → CnR w' x p r C0 → Ext [] w w' → R (some ⟨x, 0, none⟩) w') : conn_New.Call (some ⟨p, 0, none⟩) (some ⟨r, 0, none⟩) w R := by
  apply conn_New.sound
  unfold conn_New.B0
  refine New.mk fun x w1 ex hs ho he => hR x w1 (by omega) ho.lt ⟨?_, ?_, ?_⟩ he
  · have e : (#[.pointer (some ⟨p, 0, none⟩), .pointer (some ⟨r, 0, none⟩), .int .i64 (0 : Int), .int .i64 (0 : Int), .bool false, .bool false, .bool false, .bool false, .int .i64 (0 : Int), .int .i64 (0 : Int), .int .i64 (0 : Int), .int .i64 (0 : Int), .int .i64 (0 : Int), .int .i64 (0 : Int)] : Array Value) = fnArr 14 (cnF p r C0) := by
      refine fnArr_ext (n := 14) rfl ?_
      intro j hj
      have : j = 0 ∨ j = 1 ∨ j = 2 ∨ j = 3 ∨ j = 4 ∨ j = 5 ∨ j = 6 ∨ j = 7 ∨ j = 8 ∨ j = 9 ∨ j = 10 ∨ j = 11 ∨ j = 12 ∨ j = 13 := by omega
      rcases this with rfl | rfl | rfl | rfl | rfl | rfl | rfl | rfl | rfl | rfl | rfl | rfl | rfl | rfl <;> rfl
    rw [← e]
    exact ho
  · exact hp.ext he (by simp)
  · exact hr.ext he (by simp)
theorem ground_ok {a : Int} {R : Option Addr → Option Addr → Option Addr → Option Addr → Option Addr → Option Addr → Option Addr → World → Prop}
    (hR : ∀ (B : HB) w', GroundAt w' B a 4 → (∀ y, lowL B 4 y → w.heap.size ≤ y ∧ y < w'.heap.size) → Ext [] w w' → R (some ⟨B.lk, 0, none⟩) (some ⟨B.ip, 0, none⟩) (some ⟨B.cx 0, 0, none⟩) (some ⟨B.cx 1, 0, none⟩) (some ⟨B.cx 2, 0, none⟩) (some ⟨B.cx 3, 0, none⟩) (some ⟨B.tb, 0, none⟩) w') : hostlaw_Ground.Call a w R := by
  apply hostlaw_Ground.sound
  unfold hostlaw_Ground.B0
  refine New.mk fun b2 w1 e2 hs1 o2 he1 => Fm.frameNew_ok fun lk w2 hlk hs2 hL2 he2 => Ip.ipNew_ok fun ipb w3 hip hs3 hP3 he3 => Sk.realNew_ok fun tb w4 htb htb2 hT4 he4 => New.mk fun bb w5 ebb hs5 obb he5 => ?_
  refine Sts.full (vs := [.pointer (some ⟨lk, 0, none⟩), .pointer (some ⟨ipb, 0, none⟩), .pointer none, .pointer none, .pointer none, .pointer none, .pointer (some ⟨tb, 0, none⟩)]) obb rfl rfl fun w6 hs6 o6 he6 => ?_
  have z4 := he4.size
  have z1 := he1.size
  have z5 := he5.size
  have E45 : Ext [] w4 w6 := he5.trans' he6 (fun y hy hl => by simp at hy; omega)
  have E6 : Ext [] w w6 := (((he1.trans he2).trans he3).trans he4).trans E45
  have b2l := o2.lt
  have o26 : Own w6 b2 _ 41 := (((he2.trans he3).trans he4).trans E45).own o2 (by simp)
  unfold hostlaw_Ground.L1
  refine ⟨fun mm t' b' i w' => ∃ (q : Nat) (cx cs cr : Nat → Nat), q ≤ 4 ∧ mm = 4 - q ∧ b2 = t' ∧ bb = b' ∧ i = (q : Int) ∧ Ext [] w w' ∧ Own w' b2 #[.pointer none, .pointer none, .pointer none, .pointer none, .pointer none, .pointer none, .pointer none] 41 ∧ GroundAt w' ⟨0, lk, ipb, tb, cx, cs, cr⟩ a q ∧ (∀ y, lowL ⟨0, lk, ipb, tb, cx, cs, cr⟩ q y → w.heap.size ≤ y ∧ y < w'.heap.size ∧ y ≠ b2 ∧ y ≠ bb) ∧ Own w' bb (fnArr 7 fun o => if o = 0 then pt lk else if o = 1 then pt ipb else if o < 6 then .pointer (if o - 2 < q then some ⟨cx (o - 2), 0, none⟩ else none) else pt tb) 41, 4,
    ⟨0, fun _ => 0, fun _ => 0, fun _ => 0, by omega, rfl, rfl, rfl, rfl, E6, o26, ⟨((he3.trans he4).trans E45).own hL2 (by simp), (he4.trans E45).own hP3 (by simp), hT4.ext E45 (by simp), fun s hs => by omega, fun i j hi => by omega⟩, fun y hy => ?_, ?_⟩, ?_⟩
  · have hbl := o6.lt
    rcases hy with z | z | z | ⟨s, hs, _⟩
    · have z' : y = lk := z
      omega
    · have z' : y = ipb := z
      omega
    · have z' : y = tb := z
      omega
    · omega
  · have e : ([.pointer (some ⟨lk, 0, none⟩), .pointer (some ⟨ipb, 0, none⟩), .pointer none, .pointer none, .pointer none, .pointer none, .pointer (some ⟨tb, 0, none⟩)] : List Value).toArray = fnArr 7 fun o => if o = 0 then pt lk else if o = 1 then pt ipb else if o < 6 then .pointer (if o - 2 < 0 then some ⟨(fun _ => 0) (o - 2), 0, none⟩ else none) else pt tb := by
      refine fnArr_ext (n := 7) rfl ?_
      intro j hj
      have : j = 0 ∨ j = 1 ∨ j = 2 ∨ j = 3 ∨ j = 4 ∨ j = 5 ∨ j = 6 := by omega
      rcases this with rfl | rfl | rfl | rfl | rfl | rfl | rfl <;> rfl
    rw [← e]
    exact o6
  rintro mm t' b' i w' ⟨q, cx, cs, cr, hq, rfl, rfl, rfl, rfl, E', ot', gr', hlow, ob'⟩
  unfold hostlaw_Ground.L1b
  have hb2 := ot'.lt
  have hbb := ob'.lt
  have zE := E'.size
  refine Bm.ite (fun hlt => ?_) fun hge => ?_
  · refine sNew_ok fun sp w7 hsp hS7 he7 => rNew_ok fun rp w8 hrp hR8 he8 => ?_
    have hsl : sp < w7.heap.size := by obtain ⟨_, o, _⟩ := hS7; exact o.lt
    have hrl : rp < w8.heap.size := by obtain ⟨_, o, _⟩ := hR8; exact o.lt
    have z7 := he7.size
    have z8 := he8.size
    refine cNew_ok (hS7.ext he8 (by simp)) hR8 fun xp w9 hxp hxl hC9 he9 => ⟨⟨by omega, by omega⟩, ?_⟩
    have z9 := he9.size
    have E9 := (he7.trans he8).trans he9
    have ob9 := E9.own ob' (by simp)
    rw [show Addr.add ⟨bb, 2, none⟩ ((q : Int).toNat * 1) = ⟨bb, 2 + q, none⟩ by rw [add_mk, Int.toNat_natCast, Nat.mul_one]]
    refine Sts.fn ob9 (by simp; omega) rfl (g := fun o => if o = 0 then pt lk else if o = 1 then pt ipb else if o < 6 then .pointer (if o - 2 < q + 1 then some ⟨(if o - 2 = q then xp else cx (o - 2)), 0, none⟩ else none) else pt tb) (fun j hj => ?_) fun w10 hs10 ob10 he10 => ?_
    · unfold fnPut
      by_cases z : j = 2 + q
      · subst z
        rw [if_pos (by simp)]
        simp only [Nat.sub_self, List.getD_cons_zero]
        have h1 : ¬ 2 + q = 0 := by omega
        have h2 : ¬ 2 + q = 1 := by omega
        have h3 : 2 + q < 6 := by omega
        have h4 : 2 + q - 2 = q := by omega
        rw [if_neg h1, if_neg h2, if_pos h3, h4, if_pos (by omega), if_pos rfl]
      · rw [if_neg (by simp; omega)]
        show (if j = 0 then pt lk else if j = 1 then pt ipb else if j < 6 then Value.pointer (if j - 2 < q then some ⟨cx (j - 2), 0, none⟩ else none) else pt tb) = (if j = 0 then pt lk else if j = 1 then pt ipb else if j < 6 then Value.pointer (if j - 2 < q + 1 then some ⟨(if j - 2 = q then xp else cx (j - 2)), 0, none⟩ else none) else pt tb)
        by_cases h0 : j = 0
        · rw [if_pos h0, if_pos h0]
        rw [if_neg h0, if_neg h0]
        by_cases h1 : j = 1
        · rw [if_pos h1, if_pos h1]
        rw [if_neg h1, if_neg h1]
        by_cases h6 : j < 6
        · rw [if_pos h6, if_pos h6]
          by_cases hq2 : j - 2 < q
          · rw [if_pos hq2, if_pos (by omega), if_neg (by omega)]
          · rw [if_neg hq2, if_neg (by omega)]
        · rw [if_neg h6, if_neg h6]
    · have lowOld : ∀ {y : Nat}, lowL ⟨0, lk, ipb, tb, cx, cs, cr⟩ q y → y ∉ [bb] := fun hy z => (hlow _ hy).2.2.2 (by simpa using z)
      have E10 : Ext [] w w10 := (E'.trans E9).trans' he10 (fun y hy hl => by simp at hy; omega)
      have Eb : Ext [bb] w' w10 := E9.nil.trans he10
      refine ⟨4 - (q + 1), by omega, q + 1, fun s => if s = q then xp else cx s, fun s => if s = q then sp else cs s, fun s => if s = q then rp else cr s, by omega, rfl, rfl, rfl, by rw [w64 (by omega) (by omega)]; omega, E10, Eb.own ot' (by simp; omega), ?_, fun y hy => ?_, ob10⟩
      · refine ⟨Eb.own gr'.L (lowOld (.inl rfl)), Eb.own gr'.P (lowOld (.inr (.inl rfl))), gr'.T.ext Eb (lowOld (.inr (.inr (.inl rfl)))), fun s hs => ?_, fun i j hi hj hij => ?_⟩
        · show CnR w10 (if s = q then xp else cx s) (if s = q then sp else cs s) (if s = q then rp else cr s) C0
          by_cases z : s = q
          · rw [if_pos z, if_pos z, if_pos z]
            exact hC9.ext he10 (by simp; omega) (by simp; omega) (by simp; omega)
          · rw [if_neg z, if_neg z, if_neg z]
            exact (gr'.C s (by omega)).ext Eb (lowOld (.inr (.inr (.inr ⟨s, by omega, .inl rfl⟩)))) (lowOld (.inr (.inr (.inr ⟨s, by omega, .inr (.inl rfl)⟩)))) (lowOld (.inr (.inr (.inr ⟨s, by omega, .inr (.inr rfl)⟩))))
        · show (if i = q then xp else cx i) ≠ (if j = q then xp else cx j) ∧ (if i = q then sp else cs i) ≠ (if j = q then sp else cs j) ∧ (if i = q then rp else cr i) ≠ (if j = q then rp else cr j)
          have old : ∀ s, s < q → cx s < w'.heap.size ∧ cs s < w'.heap.size ∧ cr s < w'.heap.size := fun s hs => ⟨(hlow _ (.inr (.inr (.inr ⟨s, hs, .inl rfl⟩)))).2.1, (hlow _ (.inr (.inr (.inr ⟨s, hs, .inr (.inl rfl)⟩)))).2.1, (hlow _ (.inr (.inr (.inr ⟨s, hs, .inr (.inr rfl)⟩)))).2.1⟩
          by_cases zi : i = q
          · have zj : ¬ j = q := by omega
            have := old j (by omega)
            rw [if_pos zi, if_pos zi, if_pos zi, if_neg zj, if_neg zj, if_neg zj]
            omega
          · by_cases zj : j = q
            · have := old i (by omega)
              rw [if_neg zi, if_neg zi, if_neg zi, if_pos zj, if_pos zj, if_pos zj]
              omega
            · rw [if_neg zi, if_neg zi, if_neg zi, if_neg zj, if_neg zj, if_neg zj]
              exact gr'.inj i j (by omega) (by omega) hij
      · have old : ∀ {y : Nat}, lowL ⟨0, lk, ipb, tb, cx, cs, cr⟩ q y → w.heap.size ≤ y ∧ y < w10.heap.size ∧ y ≠ b2 ∧ y ≠ bb := fun {y} hy => by have := hlow y hy; omega
        rcases hy with z | z | z | ⟨s, hs, z⟩
        · exact old (.inl z)
        · exact old (.inr (.inl z))
        · exact old (.inr (.inr (.inl z)))
        · have z' : y = (if s = q then xp else cx s) ∨ y = (if s = q then sp else cs s) ∨ y = (if s = q then rp else cr s) := z
          by_cases e : s = q
          · rw [if_pos e, if_pos e, if_pos e] at z'
            omega
          · rw [if_neg e, if_neg e, if_neg e] at z'
            exact old (.inr (.inr (.inr ⟨s, by omega, z'⟩)))
  · have hq4 : q = 4 := by omega
    subst hq4
    refine LdP.fn ob' (by omega) rfl (LdP.fn ob' (by omega) rfl (LdP.fn ob' (by omega) rfl (LdP.fn ob' (by omega) rfl (LdP.fn ob' (by omega) rfl (LdP.fn ob' (by omega) rfl (LdP.fn ob' (by omega) rfl ?_))))))
    refine Sts.full (vs := [.pointer (some ⟨lk, 0, none⟩), .pointer (some ⟨ipb, 0, none⟩), .pointer (some ⟨cx 0, 0, none⟩), .pointer (some ⟨cx 1, 0, none⟩), .pointer (some ⟨cx 2, 0, none⟩), .pointer (some ⟨cx 3, 0, none⟩), .pointer (some ⟨tb, 0, none⟩)]) ot' rfl rfl fun w7 hs7 o7 he7 => ?_
    have nin : ∀ {y : Nat}, lowL ⟨0, lk, ipb, tb, cx, cs, cr⟩ 4 y → y ∉ [b2] := fun hy z => (hlow _ hy).2.2.1 (by simpa using z)
    refine LdP.mk o7 rfl (LdP.mk o7 rfl (LdP.mk o7 rfl (LdP.mk o7 rfl (LdP.mk o7 rfl (LdP.mk o7 rfl (LdP.mk o7 rfl ?_))))))
    exact hR ⟨0, lk, ipb, tb, cx, cs, cr⟩ w7 (gr'.ext he7 (nin (.inl rfl)) (nin (.inr (.inl rfl))) (nin (.inr (.inr (.inl rfl)))) (fun s hs => ⟨nin (.inr (.inr (.inr ⟨s, hs, .inl rfl⟩))), nin (.inr (.inr (.inr ⟨s, hs, .inr (.inl rfl)⟩))), nin (.inr (.inr (.inr ⟨s, hs, .inr (.inr rfl)⟩)))⟩)) (fun y hy => by have := hlow y hy; omega) (E'.trans' he7 (fun y hy hl => by simp at hy; omega))
/-- A fresh host over fresh layers. -/
theorem hostNew_ok {a : Int} {B : HB} {R : Option Addr → World → Prop} (ha : 1 ≤ a ∧ a ≤ 3) (g : GroundAt w B a 4) (hR : ∀ hp w', hp = w'.heap.size - 1 → w.heap.size ≤ hp → hp < w'.heap.size → HostAt w' { B with hp := hp } (freshHS a) → Ext [] w w' → R (some ⟨hp, 0, none⟩) w') :
    host_New.Call a (some ⟨B.lk, 0, none⟩) (some ⟨B.ip, 0, none⟩) (some ⟨B.cx 0, 0, none⟩) (some ⟨B.cx 1, 0, none⟩) (some ⟨B.cx 2, 0, none⟩) (some ⟨B.cx 3, 0, none⟩) (some ⟨B.tb, 0, none⟩) w R := by
  apply host_New.sound
  unfold host_New.B0
  refine New.mk fun c_ w1 ec hs1 oc he1 => LdP.mk oc rfl (LdP.mk oc rfl (LdP.mk oc rfl (LdP.mk oc rfl (New.mk fun hp w2 ehp hs2 oh he2 => ?_))))
  have g2 := (g.ext0 he1).ext0 he2
  refine hR hp w2 (by omega) (by omega) oh.lt ⟨?_, g2.L, ⟨⟨Ip.freshIP a, g2.P, Ip.fresh_rel a, ?_, rfl, rfl⟩⟩, g2.T, g2.C, g2.inj⟩ (he1.trans he2)
  · have e : (#[.int .i64 a, .int .i64 (0 : Int), .int .i64 (0 : Int), .int .i64 (0 : Int), .int .i64 (0 : Int), .int .i64 (0 : Int), .int .i64 (0 : Int), .int .i64 (0 : Int), .int .i64 (0 : Int), .int .i64 (0 : Int), .int .i64 (0 : Int), .pointer (some ⟨B.lk, 0, none⟩), .pointer (some ⟨B.ip, 0, none⟩), .pointer (some ⟨B.cx 0, 0, none⟩), .pointer (some ⟨B.cx 1, 0, none⟩), .pointer (some ⟨B.cx 2, 0, none⟩), .pointer (some ⟨B.cx 3, 0, none⟩), .pointer (some ⟨B.tb, 0, none⟩)] : Array Value) = fnArr 18 (hostF { B with hp := hp } (freshHS a)) := by
      refine fnArr_ext (n := 18) rfl ?_
      intro j hj
      have : j = 0 ∨ j = 1 ∨ j = 2 ∨ j = 3 ∨ j = 4 ∨ j = 5 ∨ j = 6 ∨ j = 7 ∨ j = 8 ∨ j = 9 ∨ j = 10 ∨ j = 11 ∨ j = 12 ∨ j = 13 ∨ j = 14 ∨ j = 15 ∨ j = 16 ∨ j = 17 := by omega
      rcases this with rfl | rfl | rfl | rfl | rfl | rfl | rfl | rfl | rfl | rfl | rfl | rfl | rfl | rfl | rfl | rfl | rfl | rfl <;> rfl
    rw [← e]
    exact oh
  · rcases (show a = 1 ∨ a = 2 ∨ a = 3 by omega) with rfl | rfl | rfl <;> decide
theorem all_low {B : HB} {y hp : Nat} (h : y ∈ ({ B with hp := hp } : HB).all) : y = hp ∨ lowL B 4 y := by
  rcases HB.cases h with z | z | z | z | ⟨s, hs, z⟩
  · exact .inl z
  · exact .inr (.inl z)
  · exact .inr (.inr (.inl z))
  · exact .inr (.inr (.inr (.inl z)))
  · exact .inr (.inr (.inr (.inr ⟨s, hs, z⟩)))
theorem build_ok {a : Int} {R : Option Addr → World → Prop} (ha : 1 ≤ a ∧ a ≤ 3) (hR : ∀ (B : HB) w', HostAt w' B (freshHS a) → (∀ y ∈ B.all, w.heap.size ≤ y) → Ext [] w w' → R (some ⟨B.hp, 0, none⟩) w') : hostlaw_Build.Call a w R := by
  apply hostlaw_Build.sound
  unfold hostlaw_Build.B0
  refine ground_ok fun B w1 g hlow e1 => New.mk fun bb w2 ebb hs2 obb he2 => ?_
  have z1 := e1.size
  refine Sts.full (vs := [.pointer (some ⟨B.lk, 0, none⟩), .pointer (some ⟨B.ip, 0, none⟩), .pointer (some ⟨B.cx 0, 0, none⟩), .pointer (some ⟨B.cx 1, 0, none⟩), .pointer (some ⟨B.cx 2, 0, none⟩), .pointer (some ⟨B.cx 3, 0, none⟩), .pointer (some ⟨B.tb, 0, none⟩)]) obb rfl rfl fun w3 hs3 o3 he3 => ?_
  have E13 : Ext [] w1 w3 := he2.trans' he3 (fun y hy hl => by simp at hy; omega)
  refine LdP.mk o3 rfl (LdP.mk o3 rfl (LdP.mk o3 rfl (LdP.mk o3 rfl (LdP.mk o3 rfl (LdP.mk o3 rfl (LdP.mk o3 rfl ?_))))))
  have z3 := E13.size
  refine hostNew_ok ha (g.ext0 E13) fun hp w4 ehp hh4 hl4 hA he4 => hR { B with hp := hp } w4 hA (fun y hy => ?_) ((e1.trans E13).trans he4)
  rcases all_low hy with z | z
  · omega
  · exact (hlow y z).1
end
end Go.Proofs.Qxb6500424aGreat
