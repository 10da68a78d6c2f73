/-
  hostlaw: RefinesFair.
-/
import Derived.Test.Qxb6500424aGreatHlH
set_option linter.unusedVariables false
set_option linter.unusedSimpArgs false
open Go.Vc
namespace Go.Proofs.Qxb6500424aGreat
section
variable {w0 w w' : World} {a c d : Nat} {m m' : LH} {r r' : LR} {k k' : LC} {n n' : Int} {Z : Zf}
/-- A step in fair weather, or in foul. -/
theorem stepZ {op : OpV} {R : Bool → World → Prop} (hL : LawAt w0 w a m r k) (hg : GoodZ Z n m r k) (h0 : 0 ≤ n) (hn : n ≤ 4398042000000) (wf : op.Wf) (hz : Z.on m k → Fair0 op m r) (hR : ∀ m' r' k' w', LawAt w0 w' a m' r' k' → GoodZ Z (n + 3510000) m' r' k' → (op.k = 15 → SetN r' k' ∧ (Z.on m' k' → 90 ≤ k'.calm)) → R true w') : hostlaw_World_Step.Call (some ⟨a, 0, none⟩) op.k op.a op.b op.c op.s op.t false w R := by
  apply hostlaw_World_Step.sound
  unfold hostlaw_World_Step.B0
  refine New.mk fun o w1 ho hs1 oo he1 => ?_
  have h1 := hL.ext0 he1
  have h1d := h1.drew
  have ood := (Ext.drew [] w1).own oo (by simp)
  refine LdI.mk oo rfl (Bm.mk (fun z10 => LdI.mk oo rfl (deliverZ h1 hg h0 (by omega) fun m' r' k' w' h g => hR m' r' k' w' h (g.mono (by omega)) fun z => by have := beqT z10; omega)) fun z10 => ?_)
  refine Bm.mk (fun z14 => ?_) fun z14 => ?_
  · -- a tick by the script
    have k14 : op.k = 14 := beqT z14
    have off : ¬ Z.on m k := fun z => (hz z).n.2.2.2 k14
    obtain ⟨G, X, Lg, M, pw, rs, gb⟩ := hg.pw
    refine tick_lawX h1 hg.toGood pw rs gb h0 (by omega) fun G' X' Lg' M' m' r' k' w' tx h g ex => hR m' r' k' w' h ?_ fun z => by omega
    have ml : ∀ c, c < 3 → (m.H c).lost ≤ (m'.H c).lost := fun c hc => by
      rw [tx.H]
      unfold tickHS
      rw [if_pos hc]
      exact tx.ls c hc
    have dsp := tx.sp
    refine ⟨g.mono (by omega), fun z => ?_, by rw [ex]; exact hg.zx, fun z => ?_⟩
    · obtain ⟨b1, b2⟩ := hg.zb z
      exact ⟨by omega, fun c hc => Int.le_trans (b2 c hc) (ml c hc)⟩
    · exfalso
      obtain ⟨z1, z2, z3⟩ := z
      obtain ⟨b1, b2⟩ := hg.zb z1
      refine off ⟨z1, by omega, fun c hc => ?_⟩
      have := ml c hc
      have := b2 c hc
      have := z3 c hc
      omega
  refine Bm.mk (fun _ => settleZ h1 hg h0 (by omega) fun m' r' k' w' h g s c90 => hR m' r' k' w' h g fun _ => ⟨s, c90⟩) fun z15 => ?_
  have n15 : op.k ≠ 15 := beqF z15
  have hR2 : ∀ m' r' k' w', LawAt w0 w' a m' r' k' → GoodZ Z (n + 3510000) m' r' k' → R true w' := fun m' r' k' w' h g => hR m' r' k' w' h g fun z => absurd z n15
  have same : R true w1 := hR2 m r k w1 h1 (hg.mono (by omega))
  have gz : ¬ Z.on m k → ∀ {r2 : LR}, r2.x = r.x → Good n m r2 k → GoodZ Z (n + 3510000) m r2 k := fun off r2 ex g => ⟨g.mono (by omega), hg.zb, by rw [ex]; exact hg.zx, fun z => absurd z off⟩
  have hg0 := hg.toGood
  refine Bm.mk (fun z11 => Bm.mk (fun _ => ?_) fun z => by cases z) fun z11 => ?_
  · have off : ¬ Z.on m k := fun z => (hz z).n.1 (beqT z11)
    exact Pn.mk (h1d.ldW (LdI.mk ood rfl (wDrop_ok h1d.r.W (fun _ => hR2 m r k _ h1d (hg.mono (by omega))) fun _ _ w2 hw2 he2 => hR2 _ _ _ w2 (h1d.wire hw2 he2 fun e he => .inl ⟨e, mem_delW he, rfl⟩) (gz off rfl (hg0.wire fun e he => mem_delW he)))))
  refine Bm.mk (fun z12 => Bm.mk (fun _ => ?_) fun z => by cases z) fun z12 => ?_
  · have off : ¬ Z.on m k := fun z => (hz z).n.2.1 (beqT z12)
    refine Pn.mk (h1d.ldW (LdI.mk ood rfl (wDouble_ok h1d.r.W (fun _ => hR2 m r k _ h1d (hg.mono (by omega))) (fun e _ hei _ kk w2 hkk hw2 he2 => hR2 _ _ _ w2 (h1d.wire hw2 he2 fun e' he' => ?_) (gz off rfl (Good.wireF hg0 fun e' he' => ?_))) hg0.big)))
    · rcases List.mem_append.1 he' with q | q
      · exact .inl ⟨e', q, rfl⟩
      · rw [List.mem_singleton.1 q]; exact .inr hkk
    · rcases List.mem_append.1 he' with q | q
      · exact ⟨e', q, rfl, fun _ _ _ _ _ _ h => h⟩
      · rw [List.mem_singleton.1 q]; exact ⟨e, List.mem_of_getElem? hei, rfl, fun _ _ _ _ _ _ h => h⟩
  refine Bm.mk (fun z13 => Bm.mk (fun _ => ?_) fun z => by cases z) fun z13 => ?_
  · have off : ¬ Z.on m k := fun z => (hz z).n.2.2.1 (beqT z13)
    refine Pn.mk (h1d.ldW (LdI.mk ood rfl (LdI.mk ood rfl (wFlip_ok h1d.r.W hg0.big (by have := wf.b.2; omega) (hR2 m r k _ h1d (hg.mono (by omega))) fun e _ hei hfl hb0 hbl w2 hw2 he2 => hR2 _ _ _ w2 (h1d.flip hei hw2 he2) (gz off rfl (Good.wireF hg0 fun e' he' => ?_))))))
    rcases List.mem_or_eq_of_mem_set he' with q | q
    · exact ⟨e', q, rfl, fun _ _ _ _ _ _ h => h⟩
    · subst q
      exact ⟨e, List.mem_of_getElem? hei, rfl, fun _ _ _ _ _ _ h => h.flipped (h1d.r.W.dat e (List.mem_of_getElem? hei)).2 hfl hb0 hbl⟩
  refine LdI.mk oo rfl (Bm.ite (fun _ => ?_) fun c0 => LdI.mk oo rfl ?_)
  · unfold hostlaw_World_Step.B1
    exact Bm.pos rfl same
  unfold hostlaw_World_Step.B1
  refine Bm.ite (fun _ => same) fun c3 => LdI.mk oo rfl ?_
  obtain ⟨c, ec⟩ : ∃ c : Nat, op.c = (c : Int) := ⟨op.c.toNat, by omega⟩
  have hc : c < 3 := by omega
  have fa := fun z => (hz z).at_ c hc ec
  rw [ec] at oo c0 c3
  have b2 : ∀ m' r' k' w', LawAt w0 w' a m' r' k' → MidZ Z (n + 400) m' r' k' (K0of m) → hostlaw_World_Step.B2 (some ⟨a, 0, none⟩) true w' R := fun m' r' k' w' h g => by
    unfold hostlaw_World_Step.B2
    exact Bm.pos rfl (lookZ h g (by omega) fun r2 k2 w2 h2 g2 _ => hR2 _ _ _ w2 h2 (g2.mono (by omega)))
  have b3 : ∀ tt, hostlaw_World_Step.B3 (some ⟨a, 0, none⟩) o tt w1 R := fun tt => by
    unfold hostlaw_World_Step.B3
    exact Bm.mk (fun _ => LdI.mk oo rfl (LdI.mk oo rfl (LdI.mk oo rfl (LdI.mk oo rfl (LdI.mk oo rfl (LdS.mk oo rfl (LdS.mk oo rfl (observe_ok h1 hg h0 (by omega) hc fun r' w' h g => hR2 _ _ _ w' h (g.mono (by omega)))))))))) fun _ => same
  refine Bm.mk (fun _ => LdI.mk oo rfl (LdI.mk oo rfl (lawListen_ok h1 hg h0 (by omega) hc b2))) fun _ => ?_
  refine Bm.mk (fun z2 => LdI.mk oo rfl (LdI.mk oo rfl (LdI.mk oo rfl (lawConnect_ok h1 hg h0 (by omega) hc (fun z => (fa z).2.2 (beqT z2)) b2)))) fun _ => ?_
  refine Bm.mk (fun _ => LdI.mk oo rfl (LdI.mk oo rfl (lawAccept_ok h1 hg h0 (by omega) hc b2))) fun _ => ?_
  refine Bm.mk (fun _ => LdI.mk oo rfl (LdI.mk oo rfl (LdS.mk oo rfl (toBytes_ok fun kd cap w2 z hzz hkd hs2 hf he2 => ?_)))) fun _ => ?_
  · have hls : (strB op.s).length = op.s.size := by simp [strB]
    have hws := wf.s
    rw [← hls]
    exact lawSend_ok (h1.ext0 he2) hg h0 (by omega) hc hf (h1.r.fresh (by omega)).1 (by omega) (by omega) b2
  refine Bm.mk (fun _ => LdI.mk oo rfl (LdI.mk oo rfl (LdI.mk oo rfl (lawRecv_ok h1 hg h0 (by omega) hc b2)))) fun _ => ?_
  refine Bm.mk (fun z6 => LdI.mk oo rfl (LdI.mk oo rfl (lawEnd_ok h1 hg h0 (by omega) hc (fun z => ⟨rfl, (fa z).2.1 (beqT z6)⟩) b2))) fun _ => ?_
  refine Bm.mk (fun z7 => LdI.mk oo rfl (LdI.mk oo rfl (lawEnd_ok h1 hg h0 (by omega) hc (fun z => absurd (beqT z7) (fa z).1) b2))) fun _ => ?_
  exact Bm.mk (fun _ => b3 _) fun _ => Bm.mk (fun _ => b3 _) fun _ => Bm.mk (fun _ => b3 _) fun _ => Bm.mk (fun _ => b3 _) fun _ => b3 _
/-- The weather is looked at. -/
def Zat (b : Bool) (m : LH) (k : LC) (xs : List (Nat × Array Value)) : Zf := ⟨b = true, k.sp, fun c => (m.H c).lost, xs⟩
theorem Zat.on {b : Bool} {xs : List (Nat × Array Value)} (h : b = true) : (Zat b m k xs).on m k := ⟨h, rfl, fun _ _ => rfl⟩
theorem GoodZ.again {b : Bool} (hg : GoodZ Z n m r k) (h : b = true → Z.on m k) : GoodZ (Zat b m k []) n m r k :=
  ⟨hg.toGood, fun _ => ⟨Int.le_refl _, fun _ _ => Int.le_refl _⟩, fun e he => (by cases he), fun z => hg.fz (h z.1)⟩
end
theorem fairUpTo_ok {w : World} {sb : Option Addr} {n c : Nat} {ops : Nat → OpV} {R : Int → World → Prop} (hs : ScriptIs w sb n ops) (hR : ∀ w', Ext [] w w' → R (-1) w') : hostlaw_RefinesFairUpTo.Call sb n c w R := by
  apply hostlaw_RefinesFairUpTo.sound
  unfold hostlaw_RefinesFairUpTo.B0
  have hnn := hs.1
  refine newWorld_ok fun a BH BQ wp np w1 h1 => ?_
  have g00 : GoodZ (Zat true (m00 BH BQ false) k00 []) 0 (m00 BH BQ false) (r00 wp np) k00 := by
    refine ⟨good00 BH BQ false wp np, fun _ => ⟨Int.le_refl _, fun _ _ => Int.le_refl _⟩, fun e he => (by cases he), fun _ => ⟨[], fun _ => C0, [], fun _ => [], pw00, ⟨rfl, fun i E g hE => by cases hE⟩, ⟨by simp, fun i g hg => by cases hg⟩, ⟨0, FW.init rfl (fun _ _ => rfl) 0⟩, fun j E hE => by cases hE⟩⟩
  refine lookZ h1 g00.mid (by omega) fun r2 k2 w2 h2 g2 spk => Bm.neg rfl ?_
  unfold hostlaw_RefinesFairUpTo.L1
  refine ⟨fun mm sb' n' c' x' fair i w' => sb = sb' ∧ n = n' ∧ c = c' ∧ some ⟨a, 0, none⟩ = x' ∧ 0 ≤ i ∧ i ≤ n ∧ i ≤ 1048576 ∧ mm = (n - i).toNat ∧ ∃ m r k, LawAt w w' a m r k ∧ GoodZ (Zat fair m k []) (50 + 3510000 * i) m r k, n, ⟨rfl, rfl, rfl, rfl, by omega, by omega, by omega, by omega, _, _, _, h2, ?_⟩, ?_⟩
  · exact (g2.mono (by omega)).again (b := true) fun _ => ⟨rfl, spk, fun _ _ => rfl⟩
  rintro mm sb' n' c' x' fair i w' ⟨rfl, rfl, rfl, rfl, i0, i1, i2, rfl, m, r, k, hI, gI⟩
  unfold hostlaw_RefinesFairUpTo.L1b
  have stop : ∀ tt : Bool, tt = false → ∀ N1, hostlaw_RefinesFairUpTo.B1 sb n c (some ⟨a, 0, none⟩) fair i tt w' N1 R := by
    intro tt htt N1
    unfold hostlaw_RefinesFairUpTo.B1
    exact Bm.neg htt (hR w' hI.ext)
  by_cases hi : i < (n : Int)
  rotate_left
  · generalize hf : false = ff
    exact Bm.neg (decide_eq_false hi) (stop ff hf.symm _)
  refine Bm.pos (decide_eq_true hi) ?_
  by_cases hi2 : i < 1048576
  rotate_left
  · exact stop _ (decide_eq_false hi2) _
  rw [decide_eq_true hi2]
  unfold hostlaw_RefinesFairUpTo.B1
  refine Bm.pos rfl ?_
  have hE' := hI.ext
  obtain ⟨xx, rfl, hop⟩ := hs.2 i.toNat (by omega)
  have cl : ∀ {w' : World} {y : Addr} {v : Value}, Ext [] w w' → y.block = (xx.add (i.toNat * 6)).block → w.cell? y = some v → w'.cell? y = some v := fun {w' y v} hE hy hv => by
    rw [hE.cell (by rw [hy]; exact hop.blk) (by simp)]
    exact hv
  have bk : ∀ j, ((xx.add (i.toNat * 6)).add j).block = (xx.add (i.toNat * 6)).block := fun j => by unfold Addr.add; split <;> rfl
  -- the step
  have b2 : ∀ (fair2 : Bool) (w1 : World), LawAt w w1 a m r k → GoodZ (Zat fair2 m k []) (50 + 3510000 * i) m r k → (fair2 = true → Fair0 (ops i.toNat) m r) → hostlaw_RefinesFairUpTo.B2 (some xx) n c (some ⟨a, 0, none⟩) fair2 i w1 (fun sb' n' c' x' fair i_1 w' => ∃ m', m' < (↑n - i).toNat ∧ some xx = sb' ∧ n = n' ∧ c = c' ∧ some ⟨a, 0, none⟩ = x' ∧ 0 ≤ i_1 ∧ i_1 ≤ n ∧ i_1 ≤ 1048576 ∧ m' = (n - i_1).toNat ∧ ∃ m r k, LawAt w w' a m r k ∧ GoodZ (Zat fair m k []) (50 + 3510000 * i_1) m r k) R := fun fair2 w1 h1 g1 hfr => by
    unfold hostlaw_RefinesFairUpTo.B2
    have h1d := h1.drew
    refine Pn.mk (h1d.ldI (v := k.sp) (by omega) rfl (Pn.mk (h1d.ldLost0 (h1d.ldLost1 (by omega) (h1d.ldLost1 (by omega) (New.mk fun lb w2 elb hs2 olb he2 => ?_))))))
    have h2 := h1d.ext0 he2
    refine ⟨?_, ?_, ?_, ?_, Sts.full (vs := [.int .i64 (k.lost 0), .int .i64 (k.lost 1), .int .i64 (k.lost 2)]) olb rfl rfl fun w3 hs3 o3 he3 => Pn.mk ⟨⟨i0, hi⟩, ?_⟩⟩
    · rw [addA]
      exact h2.own.cell (by rw [fnArr_get _ (by omega)]; exact congrArg some (lawF_lost (c := 0) m r k (by omega)))
    · rw [add2]
      exact h2.own.cell (by rw [fnArr_get _ (by omega)]; exact congrArg some (lawF_lost (c := 1) m r k (by omega)))
    · rw [add2]
      exact h2.own.cell (by rw [fnArr_get _ (by omega)]; exact congrArg some (lawF_lost (c := 2) m r k (by omega)))
    · rw [addA]
      exact h2.own.cell (by rw [fnArr_get _ (by omega)]; rfl)
    have E3 : Ext [] w1.drew w3 := he2.trans' he3 (fun y hy hl => by simp at hy; omega)
    have h3 := (h1d.ext0 E3).setX (xs := [(lb, #[.int .i64 (k.lost 0), .int .i64 (k.lost 1), .int .i64 (k.lost 2)])]) (fun e he => by
      rw [List.mem_singleton.1 he]
      exact o3)
    have g3 : GoodZ (Zat fair2 m k [(lb, #[.int .i64 (k.lost 0), .int .i64 (k.lost 1), .int .i64 (k.lost 2)])]) (50 + 3510000 * i) m { r with x := [(lb, #[.int .i64 (k.lost 0), .int .i64 (k.lost 1), .int .i64 (k.lost 2)])] } k := ⟨g1.toGood.setX, g1.zb, fun e he => he, g1.fz⟩
    refine ⟨_, cl h3.ext rfl hop.k, ⟨_, cl h3.ext (bk 1) hop.a, ⟨_, cl h3.ext (bk 2) hop.b, ⟨_, cl h3.ext (bk 3) hop.c, ⟨_, cl h3.ext (bk 4) hop.s, ⟨_, cl h3.ext (bk 5) hop.t, ?_⟩⟩⟩⟩⟩⟩
    refine stepZ h3 g3 (by omega) (by omega) hop.wf (fun z => ⟨(hfr z.1).n, (hfr z.1).at_⟩) fun m5 r5 k5 w5 h5 g5 hset => Bm.neg rfl ?_
    have h5d := h5.drew
    have ox : Own w5.drew lb #[.int .i64 (k.lost 0), .int .i64 (k.lost 1), .int .i64 (k.lost 2)] 45 := h5d.r.x (lb, _) (g5.zx _ (List.mem_singleton.2 rfl))
    -- behind the step
    have b5 : ∀ (fair5 : Bool) (w6 : World), LawAt w w6 a m5 r5 k5 → (fair5 = true → (Zat fair2 m k [(lb, #[.int .i64 (k.lost 0), .int .i64 (k.lost 1), .int .i64 (k.lost 2)])]).on m5 k5) → hostlaw_RefinesFairUpTo.B5 (some xx) n c (some ⟨a, 0, none⟩) fair5 i w6 (fun sb' n' c' x' fair i_1 w' => ∃ m', m' < (↑n - i).toNat ∧ some xx = sb' ∧ n = n' ∧ c = c' ∧ some ⟨a, 0, none⟩ = x' ∧ 0 ≤ i_1 ∧ i_1 ≤ n ∧ i_1 ≤ 1048576 ∧ m' = (n - i_1).toNat ∧ ∃ m r k, LawAt w w' a m r k ∧ GoodZ (Zat fair m k []) (50 + 3510000 * i_1) m r k) R := fun fair5 w6 h6 hon => by
      unfold hostlaw_RefinesFairUpTo.B5
      refine ⟨(n - (i + 1)).toNat, by omega, rfl, rfl, rfl, rfl, ?_⟩
      rw [w64 (by omega) (by omega)]
      exact ⟨by omega, by omega, by omega, rfl, m5, r5, k5, h6, by rw [show 50 + 3510000 * (i + 1) = 50 + 3510000 * i + 3510000 by omega]; exact g5.again hon⟩
    have b4 : ∀ (fair5 : Bool), (fair5 = true → (Zat fair2 m k [(lb, #[.int .i64 (k.lost 0), .int .i64 (k.lost 1), .int .i64 (k.lost 2)])]).on m5 k5) → hostlaw_RefinesFairUpTo.B4 (some xx) n c (some ⟨a, 0, none⟩) fair5 i w5.drew (fun sb' n' c' x' fair i_1 w' => ∃ m', m' < (↑n - i).toNat ∧ some xx = sb' ∧ n = n' ∧ c = c' ∧ some ⟨a, 0, none⟩ = x' ∧ 0 ≤ i_1 ∧ i_1 ≤ n ∧ i_1 ≤ 1048576 ∧ m' = (n - i_1).toNat ∧ ∃ m r k, LawAt w w' a m r k ∧ GoodZ (Zat fair m k []) (50 + 3510000 * i_1) m r k) R := fun fair5 hon => by
      unfold hostlaw_RefinesFairUpTo.B4
      refine Bm.mk (fun hf5 => ?_) fun _ => b5 _ _ h5d hon
      have on5 := hon hf5
      obtain ⟨_, _, _, _, _, _, _, _, nf⟩ := g5.fz on5
      obtain ⟨n1, n2⟩ := g5.toGood.setP (by omega)
      refine Pn.mk (h5d.ldN (noneFailed_ok h5d.r.N n1 nf (Bm.neg rfl (Pn.mk ⟨⟨i0, hi⟩, ⟨_, cl h5d.ext rfl hop.k, Bm.mk (fun hk => ?_) fun _ => b5 _ _ h5d hon⟩⟩))))
      obtain ⟨st, c90⟩ := hset (beqT hk)
      exact Pn.mk (h5d.ldN (settled_ok h5d.r.N n1 n2 (fun j x hx => st (c90 on5) j x.E (by rw [List.getElem?_map, hx]; rfl)) fun w7 he7 => Bm.neg rfl (b5 _ _ (h5d.ext0 he7) hon)))
    have b3 : ∀ tt : Bool, (tt = false → fair2 = true → (Zat fair2 m k [(lb, #[.int .i64 (k.lost 0), .int .i64 (k.lost 1), .int .i64 (k.lost 2)])]).on m5 k5) → hostlaw_RefinesFairUpTo.B3 (some xx) n c (some ⟨a, 0, none⟩) fair2 i tt w5.drew (fun sb' n' c' x' fair i_1 w' => ∃ m', m' < (↑n - i).toNat ∧ some xx = sb' ∧ n = n' ∧ c = c' ∧ some ⟨a, 0, none⟩ = x' ∧ 0 ≤ i_1 ∧ i_1 ≤ n ∧ i_1 ≤ 1048576 ∧ m' = (n - i_1).toNat ∧ ∃ m r k, LawAt w w' a m r k ∧ GoodZ (Zat fair m k []) (50 + 3510000 * i_1) m r k) R := fun tt htt => by
      unfold hostlaw_RefinesFairUpTo.B3
      exact Bm.mk (fun _ => b4 false fun z => by cases z) fun h => b4 fair2 (htt h)
    refine Pn.mk (h5d.ldI (v := k5.sp) (by omega) rfl (Bm.mk (fun _ => b3 true (fun z => by cases z)) fun hsp => Pn.mk (h5d.ldLost0 (h5d.ldLost1 (by omega) (h5d.ldLost1 (by omega) (LdI.mk ox rfl (LdI.mk ox rfl (LdI.mk ox rfl (b3 _ fun z hf => ?_)))))))))
    simp at hsp z
    refine ⟨hf, hsp, fun d hd => ?_⟩
    show (m5.H d).lost = (m.H d).lost
    rw [← g5.lost d hd, ← g1.lost d hd]
    rcases (show d = 0 ∨ d = 1 ∨ d = 2 by omega) with rfl | rfl | rfl
    · exact z.1
    · exact z.2.1
    · exact z.2.2
  refine Bm.mk (fun hf => Pn.mk ⟨⟨i0, hi⟩, ⟨_, cl hE' rfl hop.k, ⟨_, cl hE' (bk 1) hop.a, ⟨_, cl hE' (bk 2) hop.b, ⟨_, cl hE' (bk 3) hop.c, ⟨_, cl hE' (bk 4) hop.s, ⟨_, cl hE' (bk 5) hop.t, ?_⟩⟩⟩⟩⟩⟩⟩) fun hf => ?_
  · refine foul_ok hI gI.toGood (by omega) hop.wf fun b w2 e2 hb => Bm.mk (fun hb1 => ?_) fun hb0 => ?_
    · exact b2 false w2 (hI.ext0 e2) (gI.again fun z => by cases z) (fun z => by cases z)
    · exact b2 fair w2 (hI.ext0 e2) gI (fun _ => hb hb0)
  · exact b2 fair w' hI gI (fun z => by rw [hf] at z; cases z)
theorem refinesFair_law {w : World} {sb : Option Addr} {n c : Nat} {ops : Nat → OpV} (hs : ScriptIs w sb n ops) {R : Bool → World → Prop} (hR : ∀ w', Ext [] w w' → R true w') : hostlaw_RefinesFair.Call sb n c w R := by
  apply hostlaw_RefinesFair.sound
  unfold hostlaw_RefinesFair.B0
  exact fairUpTo_ok hs fun w' he => hR w' he
end Go.Proofs.Qxb6500424aGreat
