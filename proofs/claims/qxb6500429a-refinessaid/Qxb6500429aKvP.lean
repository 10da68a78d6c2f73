/-
  kvlaw: the walk and the three theorems.
-/
import Derived.Test.Qxb6500429aKvO
set_option linter.unusedVariables false
open Go.Vc
namespace Go.Proofs.Qxb6500429a

theorem walk_ok {w : World} {sb : Option Addr} {n c : Nat} {ops : Nat → OpV} {quiet lem : Bool} {R : Int → Int → World → Prop} (hs : ScriptIs w sb n ops) (hR : ∀ k w', Ext [] w w' → R (-1) k w') : kvlaw_walk.Call sb n c quiet lem w R := by
  apply kvlaw_walk.sound
  unfold kvlaw_walk.B0
  have hnn := hs.1
  refine realNew_ok fun x w1 hx h1 he1 => modNew_ok fun m w2 hm h2 he2 => ?_
  have hp2 : Pr w2 x m freshS := ⟨h1.ext0 he2, h2, kvOk_new⟩
  have e2 := he1.trans he2
  have hz1 := he1.size
  have main : ∀ w3, Ext [] w2 w3 → kvlaw_walk.B1 sb n c quiet lem (some ⟨x, 0, none⟩) (some ⟨m, 0, none⟩) w3 R := by
    intro w3 he3
    unfold kvlaw_walk.B1
    refine ⟨fun mm sb' n' c' qu' le' x' m' i w' => sb = sb' ∧ n = n' ∧ c = c' ∧ quiet = qu' ∧ lem = le' ∧ 0 ≤ i ∧ i ≤ n ∧ i ≤ 4398046511104 ∧ mm = (n - i).toNat ∧ ∃ x m s, some ⟨x, 0, none⟩ = x' ∧ some ⟨m, 0, none⟩ = m' ∧ Pr w' x m s ∧ w.heap.size ≤ x ∧ w.heap.size ≤ m ∧ Ext [] w w', n,
      ⟨rfl, rfl, rfl, rfl, rfl, by omega, by omega, by omega, by omega, x, m, freshS, rfl, rfl, hp2.ext0 he3, by omega, by omega, e2.trans he3⟩, ?_⟩
    rintro mm sb' n' c' qu' le' x' m' i w' ⟨rfl, rfl, rfl, rfl, rfl, i0, i1, i2, rfl, x, m, s, rfl, rfl, hp, hxw, hmw, he⟩
    unfold kvlaw_walk.L1b
    have stop : ∀ tt : Bool, tt = false → ∀ N1, kvlaw_walk.B2 sb n c quiet lem (some ⟨x, 0, none⟩) (some ⟨m, 0, none⟩) i tt w' N1 R := by
      intro tt htt N1
      unfold kvlaw_walk.B2
      generalize (decide (((n : Nat) : Int) < 4398046511104)) = bb
      exact Bm.neg htt (Bm.mk (fun _ => hR _ w' he) (fun _ => hR _ w' he))
    by_cases hi : i < (n : Int)
    rotate_left
    · generalize hf : false = ff
      exact Bm.neg (decide_eq_false hi) (stop ff hf.symm _)
    refine Bm.pos (decide_eq_true hi) ?_
    by_cases hi2 : i < 4398046511104
    rotate_left
    · exact stop _ (decide_eq_false hi2) _
    rw [decide_eq_true hi2]
    unfold kvlaw_walk.B2
    obtain ⟨j, rfl⟩ : ∃ j : Nat, i = j := ⟨i.toNat, by omega⟩
    obtain ⟨y, hy, hop⟩ := hs.2 j (by omega)
    subst hy
    have ldI : ∀ {w' : World} {a : Addr} {v : Int} {K : Int → Prop}, Ext [] w w' → a.block < w.heap.size → w.cell? a = some (.int .i64 v) → K v → LdI .i64 a w' K := fun he hb hc hk => LdI.cell (by rw [he.cell hb (by simp)]; exact hc) hk
    have ldS : ∀ {w' : World} {a : Addr} {v : ByteArray} {K : ByteArray → Prop}, Ext [] w w' → a.block < w.heap.size → w.cell? a = some (.string v) → K v → LdS a w' K := fun he hb hc hk => LdS.cell (by rw [he.cell hb (by simp)]; exact hc) hk
    have hblk := hop.blk
    have hbk : ∀ k, ((y.add (j * 6)).add k).block < w.heap.size := fun k => by
      have : ((y.add (j * 6)).add k).block = (y.add (j * 6)).block := by
        unfold Addr.add
        split <;> (split <;> rfl)
      omega
    refine Bm.pos rfl (Pn.mk ⟨⟨by omega, by omega⟩, ?_⟩)
    rw [Int.toNat_natCast]
    refine ldI he hblk hop.k (ldI he (hbk 1) hop.a (ldI he (hbk 2) hop.b (ldI he (hbk 3) hop.c (ldS he (hbk 4) hop.s (ldS he (hbk 5) hop.t (NewSet.mk rfl rfl fun o w4 ho hs4 oo4 he4 => New.mk fun nu w5 hnu hs5 on5 he5 => ?_))))))
    generalize hop' : ops j = op at oo4
    have hwf : op.Wf := by rw [← hop']; exact hop.wf
    have oo5 : Own w5 o #[.int .i64 op.k, .int .i64 op.a, .int .i64 op.b, .int .i64 op.c, .string op.s, .string op.t] T_api_Op := he5.own oo4 (by simp)
    have e45 := he4.trans he5
    have hp5 := hp.ext0 e45
    have e5 := he.trans e45
    have hsz4 := he4.size
    have hsz := he.size
    -- behind the step
    have behind : ∀ (was : ByteArray) (w6 w7 : World) (x7 m7 : Nat), (lem = true → was = snapS s.A s.S ∧ Own w6 nu #[.int .i64 (s.S 0).1, .int .i64 (s.S 1).1, .int .i64 (s.S 2).1] 34) → Ext [] w6 w7 ∨ Ext [x, m] w6 w7 → nu < w6.heap.size → x ≠ nu → m ≠ nu → x ≠ o → m ≠ o → Own w6 o #[.int .i64 op.k, .int .i64 op.a, .int .i64 op.b, .int .i64 op.c, .string op.s, .string op.t] T_api_Op → Pr w7 x7 m7 (stepA op s) → w.heap.size ≤ x7 → w.heap.size ≤ m7 → Ext [] w w7 →
        kvlaw_walk.B4 (some y) n c quiet lem (some ⟨x7, 0, none⟩) (some ⟨m7, 0, none⟩) (j : Int) o was nu true w7 (fun sb' n' c' qu' le' x' m' i w' => ∃ mm, mm < (n - (j : Int)).toNat ∧ some y = sb' ∧ n = n' ∧ c = c' ∧ quiet = qu' ∧ lem = le' ∧ 0 ≤ i ∧ i ≤ n ∧ i ≤ 4398046511104 ∧ mm = (n - i).toNat ∧ ∃ x m s, some ⟨x, 0, none⟩ = x' ∧ some ⟨m, 0, none⟩ = m' ∧ Pr w' x m s ∧ w.heap.size ≤ x ∧ w.heap.size ≤ m ∧ Ext [] w w') R := by
      intro was w6 w7 x7 m7 hlem he67 hnu6 q1 q2 q3 q4 oo6 hp7 hx7 hm7 e7
      have oo7 : Own w7 o #[.int .i64 op.k, .int .i64 op.a, .int .i64 op.b, .int .i64 op.c, .string op.s, .string op.t] T_api_Op := by
        rcases he67 with h | h
        · exact h.own oo6 (by simp)
        · exact h.own oo6 (by simp; omega)
      have on7 : lem = true → Own w7 nu #[.int .i64 (s.S 0).1, .int .i64 (s.S 1).1, .int .i64 (s.S 2).1] 34 := fun hl => by
        rcases he67 with h | h
        · exact h.own (hlem hl).2 (by simp)
        · exact h.own (hlem hl).2 (by simp; omega)
      unfold kvlaw_walk.B4
      refine Bm.neg rfl ?_
      have go : ∀ w8, Ext [] w7 w8 → kvlaw_walk.B6 (some y) n c quiet lem (some ⟨x7, 0, none⟩) (some ⟨m7, 0, none⟩) (j : Int) w8 (fun sb' n' c' qu' le' x' m' i w' => ∃ mm, mm < (n - (j : Int)).toNat ∧ some y = sb' ∧ n = n' ∧ c = c' ∧ quiet = qu' ∧ lem = le' ∧ 0 ≤ i ∧ i ≤ n ∧ i ≤ 4398046511104 ∧ mm = (n - i).toNat ∧ ∃ x m s, some ⟨x, 0, none⟩ = x' ∧ some ⟨m, 0, none⟩ = m' ∧ Pr w' x m s ∧ w.heap.size ≤ x ∧ w.heap.size ≤ m ∧ Ext [] w w') R := fun w8 he8 => by
        unfold kvlaw_walk.B6
        rw [w64 (by omega) (by omega)]
        exact ⟨_, by omega, rfl, rfl, rfl, rfl, rfl, by omega, by omega, by omega, rfl, x7, m7, _, rfl, rfl, hp7.ext0 he8, hx7, hm7, e7.trans he8⟩
      have b5 : ∀ w8, Ext [] w7 w8 → kvlaw_walk.B5 (some y) n c quiet lem (some ⟨x7, 0, none⟩) (some ⟨m7, 0, none⟩) (j : Int) o was nu w8 (fun sb' n' c' qu' le' x' m' i w' => ∃ mm, mm < (n - (j : Int)).toNat ∧ some y = sb' ∧ n = n' ∧ c = c' ∧ quiet = qu' ∧ lem = le' ∧ 0 ≤ i ∧ i ≤ n ∧ i ≤ 4398046511104 ∧ mm = (n - i).toNat ∧ ∃ x m s, some ⟨x, 0, none⟩ = x' ∧ some ⟨m, 0, none⟩ = m' ∧ Pr w' x m s ∧ w.heap.size ≤ x ∧ w.heap.size ≤ m ∧ Ext [] w w') R := fun w8 he8 => by
        unfold kvlaw_walk.B5
        refine Bm.mk (fun hl => ?_) fun _ => go w8 he8
        have oo8 := he8.own oo7 (by simp)
        have on8 := he8.own (on7 hl) (by simp)
        refine LdI.mk oo8 rfl (LdI.mk oo8 rfl (LdI.mk oo8 rfl (LdI.mk oo8 rfl (LdS.mk oo8 rfl (LdS.mk oo8 rfl (LdI.mk on8 rfl (LdI.mk on8 rfl (LdI.mk on8 rfl ?_))))))))
        rw [(hlem hl).1]
        have hp8 := hp7.ext0 he8
        exact lemma_ok hp8.re hp8.ok hp.ok hwf rfl fun w9 he9 => Bm.neg rfl (go w9 (he8.trans he9))
      refine Bm.mk (fun _ => LdS.mk oo7 rfl (alike_ok hp7 fun w8 he8 => Bm.neg rfl (b5 w8 he8))) fun _ => b5 w7 (Ext.refl _ _)
    have hxl := hp.re.lt
    have hml := hp.md.lt
    have b3 : ∀ (was : ByteArray) (w6 : World), Ext [] w5 w6 ∨ Ext [nu] w5 w6 → (lem = true → was = snapS s.A s.S ∧ Own w6 nu #[.int .i64 (s.S 0).1, .int .i64 (s.S 1).1, .int .i64 (s.S 2).1] 34) → kvlaw_walk.B3 (some y) n c quiet lem (some ⟨x, 0, none⟩) (some ⟨m, 0, none⟩) (j : Int) o was nu w6 (fun sb' n' c' qu' le' x' m' i w' => ∃ mm, mm < (n - (j : Int)).toNat ∧ some y = sb' ∧ n = n' ∧ c = c' ∧ quiet = qu' ∧ lem = le' ∧ 0 ≤ i ∧ i ≤ n ∧ i ≤ 4398046511104 ∧ mm = (n - i).toNat ∧ ∃ x m s, some ⟨x, 0, none⟩ = x' ∧ some ⟨m, 0, none⟩ = m' ∧ Pr w' x m s ∧ w.heap.size ≤ x ∧ w.heap.size ≤ m ∧ Ext [] w w') R := by
      intro was w6 he56 hlem
      have he6 : Ext [nu] w5 w6 := by
        rcases he56 with h | h
        · exact h.nil
        · exact h
      have e6 : Ext [] w w6 := up1 e5 he6 (by omega)
      have hp6 : Pr w6 x m s := ⟨hp5.re.ext he6 (by simp; omega), hp5.md.ext he6 (by simp; omega), hp5.ok⟩
      have oo6 := he6.own oo5 (by simp; omega)
      have hz6 := he6.size
      unfold kvlaw_walk.B3
      refine LdI.mk oo6 rfl (Bm.mk (fun e => ?_) fun e => ?_)
      · have ek : op.k = 4 := by simpa using e
        refine realSnapshot_ok hp6.re hp6.ok fun w7 he7 => modSnapshot_ok (hp6.md.ext0 he7) hp6.ok fun w8 he8 => ?_
        rw [str_beq]
        refine Bm.neg (by simp) (realNew_ok fun x2 w9 hx2 h9 he9 => modNew_ok fun m2 w10 hm2 h10 he10 => ?_)
        have e610 := ((he7.trans he8).trans he9).trans he10
        have hp10 : Pr w10 x2 m2 freshS := ⟨h9.ext0 he10, h10, kvOk_new⟩
        have hz7 := (he7.trans he8).size
        have hz9 := he9.size
        have hz := e6.size
        refine sameRestore_ok hp10 (by
          unfold snapS
          rw [bStr_size]
          have := snapB_len hp6.ok
          omega) fun w11 h11 he11 => ?_
        have hst : stepA op s = (restoreA (snapS s.A s.S) freshS).2 := by
          unfold stepA
          rw [if_pos ek]
        refine behind was w6 w11 x2 m2 hlem (.inl (e610.trans' he11 (fun q hq hl => by simp at hq; omega))) (by omega) (by omega) (by omega) (by omega) (by omega) oo6 (by rw [hst]; exact h11) (by omega) (by omega) ((e6.trans e610).trans' he11 (fun q hq hl => by simp at hq; omega))
      · have ek : op.k ≠ 4 := by simpa using e
        have hst : stepA op s = playA op s := by
          unfold stepA
          rw [if_neg ek]
        refine LdI.mk oo6 rfl (LdI.mk oo6 rfl (LdI.mk oo6 rfl (LdI.mk oo6 rfl (LdS.mk oo6 rfl (LdS.mk oo6 rfl (play_ok hp6 hwf fun w7 h7 he7 => ?_))))))
        exact behind was w6 w7 x m hlem (.inr he7) (by omega) (by omega) (by omega) (by omega) (by omega) oo6 (by rw [hst]; exact h7) hxw hmw (e6.trans' he7 (fun q hq hl => by simp at hq; omega))
    refine Bm.mk (fun hl => ?_) fun hl => ?_
    · refine realSnapshot_ok hp5.re hp5.ok fun w6 he6 => nums_ok (hp5.ext0 he6) fun w7 he7 => ?_
      have on7 := he7.own (he6.own on5 (by simp)) (by simp)
      refine Sts.full on7 rfl rfl fun w8 hs8 on8 he8 => b3 _ w8 (.inr ((he6.trans he7).nil.trans he8)) fun _ => ⟨rfl, on8⟩
    · refine b3 _ w5 (.inl (Ext.refl _ _)) fun hl' => ?_
      rw [hl'] at hl
      cases hl
  refine Bm.mk (fun _ => alike_ok hp2 fun w3 he3 => Bm.neg rfl (main w3 he3)) fun _ => main w2 (Ext.refl _ _)
theorem refines_law {w : World} {sb : Option Addr} {n c : Nat} {ops : Nat → OpV} (hs : ScriptIs w sb n ops) {R : Bool → World → Prop} (hR : ∀ w', Ext [] w w' → R true w') : kvlaw_Refines.Call sb n c w R := by
  apply kvlaw_Refines.sound
  unfold kvlaw_Refines.B0
  apply kvlaw_RefinesUpTo.sound
  unfold kvlaw_RefinesUpTo.B0
  exact walk_ok hs fun m w' he => hR w' he
theorem refinesQuiet_law {w : World} {sb : Option Addr} {n c : Nat} {ops : Nat → OpV} (hs : ScriptIs w sb n ops) {R : Bool → World → Prop} (hR : ∀ w', Ext [] w w' → R true w') : kvlaw_RefinesQuiet.Call sb n c w R := by
  apply kvlaw_RefinesQuiet.sound
  unfold kvlaw_RefinesQuiet.B0
  exact walk_ok hs fun m w' he => hR w' he
theorem lemmas_law {w : World} {sb : Option Addr} {n c : Nat} {ops : Nat → OpV} (hs : ScriptIs w sb n ops) {R : Bool → World → Prop} (hR : ∀ w', Ext [] w w' → R true w') : kvlaw_Lemmas.Call sb n c w R := by
  apply kvlaw_Lemmas.sound
  unfold kvlaw_Lemmas.B0
  exact walk_ok hs fun m w' he => hR w' he
end Go.Proofs.Qxb6500429a
