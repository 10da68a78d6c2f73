/-
  hostlaw: RefinesWork.
-/
import Derived.Test.Qxb6500424aGreatHlE
import Derived.Test.Qxb6500424aGreatHnI
set_option linter.unusedVariables false
set_option linter.unusedSimpArgs false
open Go.Vc
namespace Go.Proofs.Qxb6500424aGreat
section
variable {w0 w w' : World} {a c : Nat} {m : LH} {r : LR} {k : LC} {n : Int}
theorem step15 {op : OpV} {st : Bool} {R : Bool → World → Prop} (hk : op.k = 15) (hL : LawAt w0 w a m r k) (hg : Good n m r k) (h0 : 0 ≤ n) (hn : n ≤ 4398042000000) (hR : ∀ m' r' k' w', LawAt w0 w' a m' r' k' → Good (n + 3510000) m' r' k' → SetN r' k' → R true w') : hostlaw_World_Step.Call (some ⟨a, 0, none⟩) op.k op.a op.b op.c op.s op.t st w R := by
  apply hostlaw_World_Step.sound
  unfold hostlaw_World_Step.B0
  refine New.mk fun o w1 ho hs1 oo he1 => ?_
  have h1 := hL.ext0 he1
  rw [hk] at oo
  refine LdI.mk oo rfl (Bm.neg rfl (Bm.neg rfl (Bm.pos rfl ?_)))
  exact settle_okX h1 hg h0 (by omega) fun m' r' k' w' h g s => hR m' r' k' w' h g s
theorem stepW {op : OpV} {st : Bool} {R : Bool → World → Prop} (hL : LawAt w0 w a m r k) (hg : Good n m r k) (h0 : 0 ≤ n) (hn : n ≤ 4398042000000) (wf : op.Wf) (hR : ∀ m' r' k' w', LawAt w0 w' a m' r' k' → Good (n + 3510000) m' r' k' → (op.k = 15 → SetN r' k') → R true w') : hostlaw_World_Step.Call (some ⟨a, 0, none⟩) op.k op.a op.b op.c op.s op.t st w R := by
  by_cases hk : op.k = 15
  · exact step15 hk hL hg h0 hn fun m' r' k' w' h g s => hR m' r' k' w' h g fun _ => s
  · exact step_ok hL hg h0 hn wf fun m' r' k' w' h g => hR m' r' k' w' h g fun z => absurd z hk
end
/-- The abstract network of a world at rest has settled. -/
theorem Good.setP {n : Int} {m : LH} {r : LR} {k : LC} (hg : Good n m r k) (hn : n ≤ 1152921504606846976) : r.N.length ≤ 1152921504606846976 ∧ ∀ (i : Nat) x, r.N[i]? = some x → x.E.R.length ≤ 1152921504606846976 := by
  obtain ⟨G, X, Lg, M, pw, rs, gb⟩ := hg.pw
  have hl := rs.len
  rw [List.length_map] at hl
  refine ⟨?_, fun i x hx => ?_⟩
  · have := gb.len
    omega
  · have hi := (List.getElem?_eq_some_iff.1 hx).1
    have hg2 : G[i]? = some G[i] := List.getElem?_eq_getElem (by omega)
    have d := rs.end_ i x.E _ (by rw [List.getElem?_map, hx]; rfl) hg2
    have := (gb.S i _ hg2).2
    rw [d.R]
    omega
theorem workUpTo_ok {w : World} {sb : Option Addr} {n c : Nat} {ops : Nat → OpV} {R : Int → World → Prop} (hs : ScriptIs w sb n ops) (hR : ∀ w', Ext [] w w' → R (-1) w') : hostlaw_RefinesWorkUpTo.Call sb n c w R := by
  apply hostlaw_RefinesWorkUpTo.sound
  unfold hostlaw_RefinesWorkUpTo.B0
  have hnn := hs.1
  refine newWorld_ok fun a BH BQ wp np w1 h1 => ?_
  refine look_ok h1 (good00 BH BQ false wp np).mid (by omega) fun r2 k2 w2 h2 g2 _ => Bm.neg rfl ?_
  unfold hostlaw_RefinesWorkUpTo.L1
  refine ⟨fun mm sb' n' c' x' i w' => sb = sb' ∧ n = n' ∧ c = c' ∧ some ⟨a, 0, none⟩ = x' ∧ 0 ≤ i ∧ i ≤ n ∧ i ≤ 1048576 ∧ mm = (n - i).toNat ∧ ∃ m r k, LawAt w w' a m r k ∧ Good (50 + 3510000 * i) m r k, n, ⟨rfl, rfl, rfl, rfl, by omega, by omega, by omega, by omega, _, _, _, h2, g2.mono (by omega)⟩, ?_⟩
  rintro mm sb' n' c' x' i w' ⟨rfl, rfl, rfl, rfl, i0, i1, i2, rfl, m, r, k, hI, gI⟩
  unfold hostlaw_RefinesWorkUpTo.L1b
  have stop : ∀ tt : Bool, tt = false → ∀ N1, hostlaw_RefinesWorkUpTo.B1 sb n c (some ⟨a, 0, none⟩) i tt w' N1 R := by
    intro tt htt N1
    unfold hostlaw_RefinesWorkUpTo.B1
    exact Bm.neg htt (hR w' hI.ext)
  by_cases hi : i < (n : Int)
  rotate_left
  · generalize hf : false = ff
    exact Bm.neg (decide_eq_false hi) (stop ff hf.symm _)
  refine Bm.pos (decide_eq_true hi) ?_
  by_cases hi2 : i < 1048576
  rotate_left
  · exact stop _ (decide_eq_false hi2) _
  rw [decide_eq_true hi2]
  unfold hostlaw_RefinesWorkUpTo.B1
  refine Bm.pos rfl ?_
  have hE' := hI.ext
  obtain ⟨xx, rfl, hop⟩ := hs.2 i.toNat (by omega)
  have cl : ∀ {w' : World} {y : Addr} {v : Value}, Ext [] w w' → y.block = (xx.add (i.toNat * 6)).block → w.cell? y = some v → w'.cell? y = some v := fun {w' y v} hE hy hv => by
    rw [hE.cell (by rw [hy]; exact hop.blk) (by simp)]
    exact hv
  have bk : ∀ j, ((xx.add (i.toNat * 6)).add j).block = (xx.add (i.toNat * 6)).block := fun j => by unfold Addr.add; split <;> rfl
  refine Pn.mk ⟨⟨i0, hi⟩, ⟨_, cl hE' rfl hop.k, ⟨_, cl hE' (bk 1) hop.a, ⟨_, cl hE' (bk 2) hop.b, ⟨_, cl hE' (bk 3) hop.c, ⟨_, cl hE' (bk 4) hop.s, ⟨_, cl hE' (bk 5) hop.t, ?_⟩⟩⟩⟩⟩⟩⟩
  refine stepW hI gI (by omega) (by omega) hop.wf fun m3 r3 k3 w3 h3 g3 hset => Bm.neg rfl ?_
  have next : ∀ {w4 : World}, LawAt w w4 a m3 r3 k3 → hostlaw_RefinesWorkUpTo.B3 (some xx) n c (some ⟨a, 0, none⟩) i w4 (fun sb' n' c' x' i_1 w' => ∃ m', m' < (↑n - i).toNat ∧ some xx = sb' ∧ n = n' ∧ c = c' ∧ some ⟨a, 0, none⟩ = x' ∧ 0 ≤ i_1 ∧ i_1 ≤ n ∧ i_1 ≤ 1048576 ∧ m' = (n - i_1).toNat ∧ ∃ m r k, LawAt w w' a m r k ∧ Good (50 + 3510000 * i_1) m r k) R := fun {w4} h4 => by
    unfold hostlaw_RefinesWorkUpTo.B3
    refine ⟨(n - (i + 1)).toNat, by omega, rfl, rfl, rfl, rfl, ?_⟩
    rw [w64 (by omega) (by omega)]
    exact ⟨by omega, by omega, by omega, rfl, m3, r3, k3, h4, by rw [show 50 + 3510000 * (i + 1) = 50 + 3510000 * i + 3510000 by omega]; exact g3⟩
  have h3d := h3.drew
  refine Pn.mk ⟨⟨i0, hi⟩, ⟨_, cl h3.ext rfl hop.k, ?_⟩⟩
  refine Bm.mk (fun hk => Pn.mk ?_) (fun _ => ?_)
  rotate_left
  · unfold hostlaw_RefinesWorkUpTo.B2
    generalize hf : false = ff
    exact Bm.neg hf.symm (next h3)
  have hk15 : (ops i.toNat).k = 15 := beqT hk
  refine h3.ldI (v := k3.calm) (by omega) rfl ?_
  unfold hostlaw_RefinesWorkUpTo.B2
  refine Bm.ite (fun h90 => ?_) (fun _ => next h3)
  obtain ⟨b1, b2⟩ := g3.setP (by omega)
  refine Pn.mk (h3.ldN (settled_ok h3.r.N b1 b2 (fun j x hx => hset hk15 h90 j x.E (by rw [List.getElem?_map, hx]; rfl)) fun w4 he4 => Bm.neg rfl (next (h3.ext0 he4))))
theorem refinesWork_law {w : World} {sb : Option Addr} {n c : Nat} {ops : Nat → OpV} (hs : ScriptIs w sb n ops) {R : Bool → World → Prop} (hR : ∀ w', Ext [] w w' → R true w') : hostlaw_RefinesWork.Call sb n c w R := by
  apply hostlaw_RefinesWork.sound
  unfold hostlaw_RefinesWork.B0
  exact workUpTo_ok hs fun w' he => hR w' he
end Go.Proofs.Qxb6500424aGreat
