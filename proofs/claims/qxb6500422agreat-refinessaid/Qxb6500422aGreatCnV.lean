/-
  connlaw: NewWorld, the walk.
-/
import Derived.Test.Qxb6500422aGreatCnU
set_option linter.unusedVariables false
set_option linter.unusedSimpArgs false
open Go.Vc
namespace Go.Proofs.Qxb6500422aGreat
def H0 : Hd := ⟨0, 0, 0, 0, 0, 0⟩
def K0 : KS := ⟨none, 0, 0, [], KL.nil, KL.nil, KL.nil⟩
/-- The record while it is laid. -/
def nwc (n : Nat) (D : DS) (qu : Bool) : Array Value := #[.pointer (if 0 < n then some ⟨D.x 0, 0, none⟩ else none), .pointer (if 1 < n then some ⟨D.x 1, 0, none⟩ else none), .pointer (if 0 < n then some ⟨D.m 0, 0, none⟩ else none), .pointer (if 1 < n then some ⟨D.m 1, 0, none⟩ else none),
  .pointer (if 0 < n then some ⟨D.p 0, 0, none⟩ else none), .pointer (if 0 < n then some ⟨D.r 0, 0, none⟩ else none), .pointer (if 1 < n then some ⟨D.p 1, 0, none⟩ else none), .pointer (if 1 < n then some ⟨D.r 1, 0, none⟩ else none), .slice none 0 0,
  .int .i64 0, .int .i64 0, .int .i64 0, .int .i64 0, .int .i64 0, .int .i64 0, .slice none 0 0, .bool qu, .slice none 0 0, .slice none 0 0, .slice none 0 0]
structure Bare (wa w : World) (x p r m : Nat) (X : MC) : Prop where
  cr : CnR w x p r C0
  mm : MM w m X C0
  bl : X.blks = []
  gx : wa.heap.size ≤ x
  gp : wa.heap.size ≤ p
  gr : wa.heap.size ≤ r
  gm : wa.heap.size ≤ m
theorem Bare.ext {wa w w' : World} {x p r m a : Nat} {X : MC} (h : Bare wa w x p r m X) (ha : a < wa.heap.size) (he : Ext [a] w w') : Bare wa w' x p r m X := by
  have h1 := h.gx
  have h2 := h.gp
  have h3 := h.gr
  have h4 := h.gm
  exact ⟨h.cr.ext he (by simp; omega) (by simp; omega) (by simp; omega), h.mm.ext he (by simp; omega) (fun k hk => by rw [h.bl] at hk; cases hk), h.bl, h.gx, h.gp, h.gr, h.gm⟩
theorem Bare.lt {wa w : World} {x p r m : Nat} {X : MC} (h : Bare wa w x p r m X) : x < w.heap.size ∧ p < w.heap.size ∧ r < w.heap.size ∧ m < w.heap.size := by
  obtain ⟨h1, h2, h3⟩ := h.cr.lt
  exact ⟨h1, h2, h3, h.mm.own.lt⟩
theorem newOne {w : World} {a c : Nat} {cs : Array Value} {Q : World → Prop} (o : Own w a cs T_connlaw_World) (hcs : cs.size = 20) (hc : c < 2) (ha : a < w.heap.size)
    (hQ : ∀ x p r m X w', Bare w w' x p r m X → Own w' a (putArr (putArr (putArr cs (4 + c * 2) [pt p, pt r]) (0 + c) [pt x]) (2 + c) [pt m]) T_connlaw_World → Ext [a] w w' → Q w') :
    connlaw_Ground.Call w fun r13_0 r13_1 w1 =>
    New (.cells #[.pointer none, .pointer none] 40) w1 fun b_ w2 =>
    Sts [.pointer r13_0, .pointer r13_1] ⟨b_, 0, none⟩ 0 w2 fun w3 =>
    LdP ⟨b_, 0, none⟩ w3.drew fun x16_0 =>
    LdP ⟨b_, 1, none⟩ w3.drew fun x16_1 =>
    (0 ≤ (c : Int) ∧ (c : Int) < ((2 : Nat) : Int)) ∧
    Sts [.pointer x16_0, .pointer x16_1] (Addr.add ⟨a, 4, none⟩ ((c : Int).toNat * 2)) 0 w3.drew fun w4 =>
    LdP ⟨b_, 0, none⟩ w4.drew fun x23 =>
    LdP ⟨b_, 1, none⟩ w4.drew fun x25 =>
    conn_New.Call x23 x25 w4.drew fun r26 w5 =>
    (0 ≤ (c : Int) ∧ (c : Int) < ((2 : Nat) : Int)) ∧
    Sts [.pointer r26] (Addr.add ⟨a, 0, none⟩ ((c : Int).toNat * 1)) 0 w5 fun w6 =>
    connm_New.Call w6.drew fun r32 w7 =>
    (0 ≤ (c : Int) ∧ (c : Int) < ((2 : Nat) : Int)) ∧
    Sts [.pointer r32] (Addr.add ⟨a, 2, none⟩ ((c : Int).toNat * 1)) 0 w7 fun w8 => Q w8 := by
  have ix : (0 : Int) ≤ (c : Int) ∧ (c : Int) < ((2 : Nat) : Int) := ⟨by omega, by omega⟩
  refine ground_ok fun p r w1 hp hr sr rr he1 => NewSet.mk rfl rfl fun b w3 hb hz3 ob he3 => ?_
  have obd : Own w3.drew b _ _ := ob
  refine LdP.mk obd rfl (LdP.mk obd rfl ⟨ix, ?_⟩)
  have e3 : Ext [] w w3.drew := (he1.trans he3).trans (Ext.drew _ _)
  have s1 := he1.size
  rw [Int.toNat_natCast, add_mk]
  refine Sts.mk (e3.own o (by simp)) (by rw [hcs]; simp; omega) rfl fun w4 hs4 o4 he4 => ?_
  have ob4 : Own w4.drew b _ _ := he4.own obd (by simp; omega)
  have e34 : Ext [a] w1 w4.drew := (he3.nil.trans (Ext.drew _ _)).trans (he4.trans (Ext.drew _ _))
  refine LdP.mk ob4 rfl (LdP.mk ob4 rfl (cNew_ok (sr.ext e34 (by simp; omega)) (rr.ext e34 (by simp; omega)) fun x w5 hx cr5 he5 => ⟨ix, ?_⟩))
  have e14 := (he1.nil (T := [a])).trans e34
  have z4 := e14.size
  have o4d : Own w4.drew a _ _ := o4
  rw [Nat.mul_one, add_mk]
  refine Sts.mk (he5.own o4d (by simp)) (by rw [size_putArr, hcs]; simp; omega) rfl fun w6 hs6 o6 he6 => ?_
  have o6d : Own w6.drew a _ _ := o6
  refine mNew_ok fun m X w7 hm mm7 hbl he7 => ⟨ix, ?_⟩
  rw [add_mk]
  have hz5 := he5.size
  have hz6 := he6.size
  have zd6 : w6.drew.heap.size = w6.heap.size := rfl
  refine Sts.mk (he7.own o6d (by simp)) (by rw [size_putArr, size_putArr, hcs]; simp; omega) rfl fun w8 hs8 o8 he8 => ?_
  have e58 : Ext [a] w5 w8 := ((he6.trans (Ext.drew _ _)).trans he7.nil).trans he8
  have e48 : Ext [a] w w8 := (e14.trans he5.nil).trans e58
  refine hQ x p r m X w8 ⟨cr5.ext e58 (by simp; omega) (by simp; omega) (by simp; omega), mm7.ext he8 (by simp; omega) (fun k hk => by rw [hbl] at hk; cases hk), hbl, by omega, by omega, by omega, by omega⟩ o8 e48
theorem newWorld_ok {w : World} {qu : Bool} {R : Option Addr → World → Prop} (hR : ∀ a D w', LX w w' a D K0 H0 qu 0 → R (some ⟨a, 0, none⟩) w') : connlaw_NewWorld.Call qu w R := by
  apply connlaw_NewWorld.sound
  unfold connlaw_NewWorld.B0
  refine New.mk fun a w1 e1 s1 o1 he1 => ?_
  have al := o1.lt
  unfold connlaw_NewWorld.L1
  let Inv : Nat → World → Prop := fun n w' => ∃ D : DS, Own w' a (nwc n D qu) T_connlaw_World ∧ Ext [a] w1 w' ∧ (∀ c, c < n → Bare w1 w' (D.x c) (D.p c) (D.r c) (D.m c) (D.X c)) ∧ (∀ c, D.C c = C0) ∧ (n = 2 → D.x 0 ≠ D.x 1 ∧ D.p 0 ≠ D.p 1 ∧ D.r 0 ≠ D.r 1 ∧ D.m 0 ≠ D.m 1)
  refine ⟨fun m a' i w' => ∃ n : Nat, n ≤ 2 ∧ m = 2 - n ∧ a = a' ∧ i = (n : Int) ∧ Inv n w', _, ⟨0, by omega, rfl, rfl, rfl, ⟨fun _ => 0, fun _ => 0, fun _ => 0, fun _ => 0, fun _ => C0, fun _ => Z0 (fun _ => false) (fun _ => 0) 0 0 0 0 0⟩, o1, Ext.refl _ _, fun c hc => by omega, fun c => rfl, fun h => by omega⟩, ?_⟩
  rintro m a' i w' ⟨n, hn, rfl, rfl, rfl, D, od, he', hb, hC, hd⟩
  unfold connlaw_NewWorld.L1b
  have hz := he'.size
  refine Bm.ite (fun hlt => ?_) fun hge => ?_
  · refine newOne od rfl (by omega) od.lt fun x p r m X w2 b2 o2 he2 => ⟨2 - (n + 1), by omega, n + 1, by omega, rfl, rfl, by rw [w64 (by omega) (by omega)]; omega, ?_⟩
    have up : Bare w1 w2 x p r m X := ⟨b2.cr, b2.mm, b2.bl, by have := b2.gx; omega, by have := b2.gp; omega, by have := b2.gr; omega, by have := b2.gm; omega⟩
    have : n = 0 ∨ n = 1 := by omega
    rcases this with rfl | rfl
    · exact ⟨⟨fun _ => x, fun _ => p, fun _ => r, fun _ => m, fun _ => C0, fun _ => X⟩, o2, he'.trans he2, fun c hc => up, fun c => rfl, fun h => by omega⟩
    · have h0 := hb 0 (by omega)
      obtain ⟨l1, l2, l3, l4⟩ := h0.lt
      refine ⟨⟨fun i => if i = 0 then D.x 0 else x, fun i => if i = 0 then D.p 0 else p, fun i => if i = 0 then D.r 0 else r, fun i => if i = 0 then D.m 0 else m, fun _ => C0, fun i => if i = 0 then D.X 0 else X⟩, o2, he'.trans he2, fun c hc => ?_, fun c => rfl, fun _ => ?_⟩
      · have : c = 0 ∨ c = 1 := by omega
        rcases this with rfl | rfl
        · exact h0.ext al he2
        · exact up
      · have := b2.gx
        have := b2.gp
        have := b2.gr
        have := b2.gm
        exact ⟨by show D.x 0 ≠ x; omega, by show D.p 0 ≠ p; omega, by show D.r 0 ≠ r; omega, by show D.m 0 ≠ m; omega⟩
  · have hn2 : n = 2 := by omega
    subst hn2
    obtain ⟨d1, d2, d3, d4⟩ := hd rfl
    have hs1 := he1.size
    refine hR a D w' ⟨od, ⟨fun c hc => ?_, fun c hc => ?_, fun c hc => ?_, d1, d2, d3, d4⟩, ⟨Row.nil _ _ _, fun e he => (by cases he), Ls.nil _ _ _ _, Ls.nil _ _ _ _, Ls.nil _ _ _ _, fun y hy => (by cases hy)⟩, Nat.le_refl _, Nat.le_refl _, Nat.le_refl _, Nat.le_refl _, fun k hk => ?_, he1.trans' he' (fun y hy hl => by simp at hy; omega)⟩
    · rw [hC c]; exact (hb c hc).cr
    · rw [hC c]; exact C0_ok
    · rw [hC c]; exact (hb c hc).mm
    · rcases hk with q | ⟨c, hc, q⟩ | q
      · omega
      · have hbc := hb c hc
        have g1 := hbc.gx
        have g2 := hbc.gp
        have g3 := hbc.gr
        have g4 := hbc.gm
        rcases q with q | q | q | q | q
        · omega
        · omega
        · omega
        · omega
        · rw [hbc.bl] at q; cases q
      · rcases q with q | ⟨e, he, q⟩ | q | q | q
        · cases q
        · cases he
        · rcases q with q | ⟨n, c, q⟩ <;> cases q
        · rcases q with q | ⟨n, c, q⟩ <;> cases q
        · rcases q with q | ⟨n, c, q⟩ <;> cases q
theorem walk_ok {w : World} {sb : Option Addr} {n c : Nat} {ops : Nat → OpV} {quiet : Bool} {R : Int → Int → World → Prop} (hs : ScriptIs w sb n ops) (hR : ∀ k w', Ext [] w w' → R (-1) k w') : connlaw_walk.Call sb n c quiet w R := by
  apply connlaw_walk.sound
  unfold connlaw_walk.B0
  have hnn := hs.1
  refine newWorld_ok fun a D0 w3 hD => ?_
  have main : ∀ K1 w4, LX w w4 a D0 K1 H0 quiet 6 → connlaw_walk.B1 sb n c (some ⟨a, 0, none⟩) w4 R := by
    intro K1 w4 hd4
    unfold connlaw_walk.B1 connlaw_walk.L1
    refine ⟨fun mm sb' n' c' a' i w' => ∃ (j : Nat) (D : DS) (K : KS) (dr : Hd), sb = sb' ∧ n = n' ∧ c = c' ∧ some ⟨a, 0, none⟩ = a' ∧ i = (j : Int) ∧ j ≤ n ∧ j ≤ 1048576 ∧ mm = n - j ∧ LX w w' a D K dr quiet (30 * j + 6), _,
      ⟨0, D0, K1, H0, rfl, rfl, rfl, rfl, rfl, by omega, by omega, rfl, hd4⟩, ?_⟩
    rintro mm sb' n' c' a' i w' ⟨j, D, K, dr, rfl, rfl, rfl, rfl, hij, j1, j2, rfl, hd⟩
    unfold connlaw_walk.L1b
    have stop : ∀ tt : Bool, tt = false → ∀ N1, connlaw_walk.B2 sb n c (some ⟨a, 0, none⟩) i tt w' N1 R := by
      intro tt htt N1
      unfold connlaw_walk.B2
      have b4 : ∀ q : Int, connlaw_walk.B3 (some ⟨a, 0, none⟩) q w' R := fun q => by
        unfold connlaw_walk.B3
        exact untouched_ok hd (by omega) fun w5 he5 => Bm.neg rfl (hR _ w5 (hd.ext.trans he5))
      generalize (decide (((n : Nat) : Int) > 1048576)) = bb
      generalize (1048576 : Int) = big
      exact Bm.neg htt (Bm.mk (fun _ => b4 _) fun _ => b4 _)
    by_cases hi : i < (n : Int)
    rotate_left
    · generalize hf : false = ff
      exact Bm.neg (decide_eq_false hi) (stop ff hf.symm _)
    refine Bm.pos (decide_eq_true hi) ?_
    by_cases hi2 : i < 1048576
    rotate_left
    · exact stop _ (decide_eq_false hi2) _
    rw [decide_eq_true hi2]
    unfold connlaw_walk.B2
    subst hij
    obtain ⟨y, hy, hop⟩ := hs.2 j (by omega)
    subst hy
    have he : Ext [] w w' := hd.ext
    have ldI : ∀ {w' : World} {a : Addr} {v : Int} {K : Int → Prop}, Ext [] w w' → a.block < w.heap.size → w.cell? a = some (.int .i64 v) → K v → LdI .i64 a w' K := fun he hb hc hk => LdI.cell (by rw [he.cell hb (by simp)]; exact hc) hk
    have ldS : ∀ {w' : World} {a : Addr} {v : ByteArray} {K : ByteArray → Prop}, Ext [] w w' → a.block < w.heap.size → w.cell? a = some (.string v) → K v → LdS a w' K := fun he hb hc hk => LdS.cell (by rw [he.cell hb (by simp)]; exact hc) hk
    have hblk := hop.blk
    have hbk : ∀ k, ((y.add (j * 6)).add k).block < w.heap.size := fun k => by
      have : ((y.add (j * 6)).add k).block = (y.add (j * 6)).block := by
        unfold Addr.add
        split <;> (split <;> rfl)
      omega
    refine Bm.pos rfl (Pn.mk ⟨⟨by omega, by omega⟩, ?_⟩)
    rw [Int.toNat_natCast]
    refine ldI he hblk hop.k (ldI he (hbk 1) hop.a (ldI he (hbk 2) hop.b (ldI he (hbk 3) hop.c (ldS he (hbk 4) hop.s (ldS he (hbk 5) hop.t (step_ok hd (by omega) hop.wf fun D' K' dr' w5 h5 => Bm.neg rfl ?_))))))
    exact ⟨n - (j + 1), by omega, j + 1, D', K', dr', rfl, rfl, rfl, rfl, by rw [w64 (by omega) (by omega)]; omega, by omega, by omega, rfl, h5.mono (by omega)⟩
  exact Bm.mk (fun _ => alike_ok hD (by omega) fun K4 w4 h4 => Bm.neg rfl (main K4 w4 (h4.mono (by omega)))) fun _ => main K0 w3 (hD.mono (by omega))
theorem refines_law {w : World} {sb : Option Addr} {n c : Nat} {ops : Nat → OpV} (hs : ScriptIs w sb n ops) {R : Bool → World → Prop} (hR : ∀ w', Ext [] w w' → R true w') : connlaw_Refines.Call sb n c w R := by
  apply connlaw_Refines.sound
  unfold connlaw_Refines.B0
  apply connlaw_RefinesUpTo.sound
  unfold connlaw_RefinesUpTo.B0
  exact walk_ok hs fun m w' he => hR w' he
theorem refinesQuiet_law {w : World} {sb : Option Addr} {n c : Nat} {ops : Nat → OpV} (hs : ScriptIs w sb n ops) {R : Bool → World → Prop} (hR : ∀ w', Ext [] w w' → R true w') : connlaw_RefinesQuiet.Call sb n c w R := by
  apply connlaw_RefinesQuiet.sound
  unfold connlaw_RefinesQuiet.B0
  apply connlaw_RefinesQuietUpTo.sound
  unfold connlaw_RefinesQuietUpTo.B0
  exact walk_ok hs fun m w' he => hR w' he
end Go.Proofs.Qxb6500422aGreat
