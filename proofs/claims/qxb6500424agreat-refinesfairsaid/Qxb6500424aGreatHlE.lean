/-
  hostlaw: one step, and the walk.
-/
import Derived.Test.Qxb6500424aGreatHlD
import Derived.Test.Qxb6500424aGreatScript
set_option linter.unusedVariables false
set_option linter.unusedSimpArgs false
open Go.Vc
namespace Go.Proofs.Qxb6500424aGreat
section
variable {w0 w w' : World} {a c : Nat} {m : LH} {r : LR} {k : LC} {n : Int}
theorem Good.wireF {W' : List (FL × Nat)} (h : Good n m r k) (hW : ∀ e ∈ W', ∃ e0 ∈ r.W, e.1.age = e0.1.age ∧ ∀ T M c n i g, FrOk T M e0.1 c n i g → FrOk T M e.1 c n i g) : Good n m { r with W := W' } k := by
  obtain ⟨G, X, Lg, M, pw, rs, gb⟩ := h.pw
  refine ⟨⟨G, X, Lg, M, pw.wire fun f hf => ?_, rs, gb⟩, h.hs, h.tw, h.seen, h.top, h.lost, h.out, h.fl, h.rdy, h.rlt, ⟨h.cnt.R, h.cnt.I, h.cnt.O, h.cnt.M, h.cnt.sp, h.cnt.tk, h.cnt.del, fun e he => ?_⟩⟩
  · obtain ⟨e, he, rfl⟩ := List.mem_map.1 hf
    obtain ⟨e0, h0, _, hq⟩ := hW e he
    obtain ⟨c, n, i, g, hh⟩ := pw.fr e0.1 (List.mem_map.2 ⟨e0, h0, rfl⟩)
    exact ⟨c, n, i, g, hq _ _ _ _ _ _ hh⟩
  · obtain ⟨e0, h0, ha, _⟩ := hW e he
    rw [ha]
    exact h.cnt.age e0 h0
theorem Good.big (h : Good n m r k) : ∀ e ∈ r.W, e.1.raw.length ≤ 1000000 := fun e he => by
  obtain ⟨G, X, Lg, M, pw, rs, gb⟩ := h.pw
  obtain ⟨c, n, i, g, hh⟩ := pw.fr e.1 (List.mem_map.2 ⟨e, he, rfl⟩)
  have := FrOk.len pw hh
  omega
theorem FrOk.flipped {T : Int} {M : Nat → List DG} {f : FL} {c n i : Nat} {g : DG} {bit : Int} (h : FrOk T M f c n i g) (hb : IsB f.raw) (hf : f.fl = false) (h0 : 0 ≤ bit) (hl : bit / 8 < (f.raw.length : Int)) : FrOk T M (flipF f bit) c n i g := by
  have hj : (bit / 8).toNat < f.raw.length := by omega
  obtain ⟨x, hx⟩ : ∃ x, f.raw[(bit / 8).toNat]? = some x := ⟨_, List.getElem?_eq_getElem hj⟩
  have hxd : f.raw.getD (bit / 8).toNat 0 = x := Fm.getD_of hx
  have hxB := hb x (List.mem_of_getElem? hx)
  have er := h.raw hf
  refine ⟨h.c3, h.at_, h.il, h.a0, h.age, fun q => (by cases q), fun _ => ⟨(bit / 8).toNat, x, Fm.flipV x (bit % 8).toNat, by rw [← er]; exact hx, hxB, Fm.flipV_isB _ _, Fm.flipV_ne hxB (by omega), ?_⟩⟩
  unfold flipF
  rw [hxd, ← er]
theorem LawAt.flip {e : FL × Nat} {i : Nat} {f : FL} (h : LawAt w0 w a m r k) (hi : r.W[i]? = some e) (hw : WireAt w0.heap.size w' r.wp (r.W.set i (f, e.2))) (hx : ∃ X, Ext (e.2 :: X) w w' ∧ Tys w X wireTys ∧ ∀ x ∈ X, w0.heap.size ≤ x) : LawAt w0 w' a m { r with W := r.W.set i (f, e.2) } k := by
  obtain ⟨X, he, hX, hge⟩ := hx
  have hem := List.mem_of_getElem? hi
  have hd := h.r.W.dat e hem
  have hgd := h.r.W.geD e hem
  have nin : ∀ {y : Nat} {cs : Array Value} {t : TypeId}, Own w y cs t → t ∉ wireTys → t ≠ T_uint8 → y ∉ e.2 :: X := fun {y cs t} ho h1 h2 q => by
    rcases List.mem_cons.1 q with q | q
    · subst q
      exact h2 (ho.unique hd.1).2
    · obtain ⟨cs', t', o', ht'⟩ := hX y q ho.lt
      rw [← (ho.unique o').2] at ht'
      exact h1 ht'
  have pu : ∀ {y : Nat}, PU r y → y ∉ e.2 :: X := fun {y} q z => by
    obtain ⟨cs, ho⟩ := h.r.u8 (.inl q)
    rcases List.mem_cons.1 z with z | z
    · subst z
      exact h.r.sepW e hem q
    · obtain ⟨cs', t', o', ht'⟩ := hX y z ho.lt
      rw [← (ho.unique o').2] at ht'
      exact absurd ht' (by decide)
  have own : ∀ {b : Nat} {cs : Array Value} {t : TypeId}, Own w b cs t → t ∉ wireTys → t ≠ T_uint8 → Own w' b cs t := fun ho h1 h2 => he.own ho (nin ho h1 h2)
  have row : ∀ {b : Option Addr} {l c sz : Nat} {t : TypeId} {vs : List Value}, Row w b l c sz t vs → t ∉ wireTys → t ≠ T_uint8 → Row w' b l c sz t vs := fun hr h1 h2 => hr.ext he fun y hy => by
    obtain ⟨cs, ho⟩ := hr.ty hy
    exact nin ho h1 h2
  have host : ∀ {B : HB} {x : HS}, HostAt w B x → HostAt w' B x := fun kk => kk.keep he fun y hy => by
    obtain ⟨cs, t, o, ht⟩ := kk.tys y hy (kk.lt y hy)
    exact nin o ((show ∀ t ∈ hostTys, t ∉ wireTys by decide) t ht) ((show ∀ t ∈ hostTys, t ≠ T_uint8 by decide) t ht)
  obtain ⟨b2, l2, c2, o2, rr2⟩ := h.r.N.ex
  refine ⟨own h.own (by decide) (by decide), ⟨fun c hc => host (h.h.H c hc), fun q c hc => host (h.h.J q c hc), h.h.dHH, h.h.dQQ, h.h.dHQ, h.h.geH, h.h.geQ⟩,
    ⟨hw, ⟨⟨b2, l2, c2, own o2 (by decide) (by decide), row rr2 (by decide) (by decide)⟩, fun x hx => ⟨(h.r.N.S x hx).row.ext he fun y hy => pu (.inr (.inr ⟨x, hx, .inl hy⟩)), (h.r.N.S x hx).isB⟩, fun x hx => ⟨(h.r.N.R x hx).row.ext he fun y hy => pu (.inr (.inr ⟨x, hx, .inr hy⟩)), (h.r.N.R x hx).isB⟩, h.r.N.ge.same o2 (own o2 (by decide) (by decide))⟩,
      fun c hc => row (h.r.sn c hc) (by decide) (by decide), row h.r.R (by decide) (by decide), h.r.I.ext he fun y hy hl q => ?_, h.r.M.ext he fun y hy hl q => ?_, h.r.O.ext he fun y hy hl q => ?_, h.r.tl, fun j k hj => (h.r.tok j k hj).ext he (pu (.inr (.inl (List.mem_of_getElem? hj)))), fun e' hm => ?_, h.r.sepM, h.r.geR, h.r.geI, h.r.geM, h.r.geO, fun e he => own (h.r.x e he) (by decide) (by decide)⟩, h.ge, h.ext.above he fun y hy _ => ?_⟩
  · obtain ⟨cs, o | o⟩ := h.r.I.ty q
    · exact nin o (by decide) (by decide) hy
    · exact nin o (by decide) (by decide) hy
  · rcases q with q | q
    · obtain ⟨cs, o⟩ := h.r.M.row.ty q
      exact nin o (by decide) (by decide) hy
    · exact pu (.inl q) hy
  · obtain ⟨cs, o | o⟩ := h.r.O.ty q
    · exact nin o (by decide) (by decide) hy
    · exact nin o (by decide) (by decide) hy
  · rcases List.mem_or_eq_of_mem_set hm with q | q
    · exact h.r.sepW e' q
    · subst q
      exact h.r.sepW e hem
  · rcases List.mem_cons.1 hy with q | q
    · subst q; exact hgd
    · exact hge y q
theorem mem_delW {W : List (FL × Nat)} {i : Nat} {e : FL × Nat} (h : e ∈ delW W i) : e ∈ W := by
  unfold delW at h
  first
    | exact List.mem_of_mem_eraseIdx h
    | (rcases List.mem_append.1 h with q | q
       · exact List.mem_of_mem_take q
       · exact List.mem_of_mem_drop q)
theorem step_ok {op : OpV} {st : Bool} {R : Bool → World → Prop} (hL : LawAt w0 w a m r k) (hg : Good n m r k) (h0 : 0 ≤ n) (hn : n ≤ 4398042000000) (wf : op.Wf) (hR : ∀ m' r' k' w', LawAt w0 w' a m' r' k' → Good (n + 3510000) m' r' k' → R true w') : hostlaw_World_Step.Call (some ⟨a, 0, none⟩) op.k op.a op.b op.c op.s op.t st w R := by
  apply hostlaw_World_Step.sound
  unfold hostlaw_World_Step.B0
  refine New.mk fun o w1 ho hs1 oo he1 => ?_
  have h1 := hL.ext0 he1
  have h1d := h1.drew
  have ood := (Ext.drew [] w1).own oo (by simp)
  have same : R true w1 := hR m r k w1 h1 (hg.mono (by omega))
  refine LdI.mk oo rfl (Bm.mk (fun _ => LdI.mk oo rfl (deliver_ok h1 hg h0 (by omega) fun m' r' k' w' h g _ => hR m' r' k' w' h (g.mono (by omega)))) fun _ => ?_)
  refine Bm.mk (fun _ => tick_law h1 hg h0 (by omega) fun m' r' k' w' h g _ => hR m' r' k' w' h (g.mono (by omega))) fun _ => ?_
  refine Bm.mk (fun _ => settle_ok h1 hg h0 (by omega) fun m' r' k' w' h g => hR m' r' k' w' h g) fun _ => ?_
  refine Bm.mk (fun _ => Bm.mk (fun _ => Pn.mk (h1d.ldW (LdI.mk ood rfl (wDrop_ok h1d.r.W (fun _ => hR m r k _ h1d (hg.mono (by omega))) fun _ _ w2 hw2 he2 => hR _ _ _ w2 (h1d.wire hw2 he2 fun e he => .inl ⟨e, mem_delW he, rfl⟩) ((hg.wire fun e he => mem_delW he).mono (by omega)))))) fun _ => same) fun _ => ?_
  refine Bm.mk (fun _ => Bm.mk (fun _ => Pn.mk (h1d.ldW (LdI.mk ood rfl (wDouble_ok h1d.r.W (fun _ => hR m r k _ h1d (hg.mono (by omega))) (fun e _ hei _ kk w2 hkk hw2 he2 => hR _ _ _ w2 (h1d.wire hw2 he2 fun e' he' => ?_) (Good.mono (Good.wireF hg fun e' he' => ?_) (by omega))) hg.big)))) fun _ => same) fun _ => ?_
  · rcases List.mem_append.1 he' with q | q
    · exact .inl ⟨e', q, rfl⟩
    · rw [List.mem_singleton.1 q]; exact .inr hkk
  · rcases List.mem_append.1 he' with q | q
    · exact ⟨e', q, rfl, fun _ _ _ _ _ _ h => h⟩
    · rw [List.mem_singleton.1 q]; exact ⟨e, List.mem_of_getElem? hei, rfl, fun _ _ _ _ _ _ h => h⟩
  refine Bm.mk (fun _ => Bm.mk (fun _ => Pn.mk (h1d.ldW (LdI.mk ood rfl (LdI.mk ood rfl (wFlip_ok h1d.r.W hg.big (by have := wf.b.2; omega) (hR m r k _ h1d (hg.mono (by omega))) fun e _ hei hfl hb0 hbl w2 hw2 he2 => hR _ _ _ w2 (h1d.flip hei hw2 he2) (Good.mono (Good.wireF hg fun e' he' => ?_) (by omega))))))) fun _ => same) fun _ => ?_
  · rcases List.mem_or_eq_of_mem_set he' with q | q
    · exact ⟨e', q, rfl, fun _ _ _ _ _ _ h => h⟩
    · subst q
      exact ⟨e, List.mem_of_getElem? hei, rfl, fun _ _ _ _ _ _ h => h.flipped (h1d.r.W.dat e (List.mem_of_getElem? hei)).2 hfl hb0 hbl⟩
  refine LdI.mk oo rfl (Bm.ite (fun _ => ?_) fun c0 => LdI.mk oo rfl ?_)
  · unfold hostlaw_World_Step.B1
    exact Bm.pos rfl same
  unfold hostlaw_World_Step.B1
  refine Bm.ite (fun _ => same) fun c3 => LdI.mk oo rfl ?_
  obtain ⟨c, ec⟩ : ∃ c : Nat, op.c = (c : Int) := ⟨op.c.toNat, by omega⟩
  rw [ec] at oo c0 c3
  have hc : c < 3 := by omega
  have b2 : ∀ m' r' k' w', LawAt w0 w' a m' r' k' → MidZ Z0 (n + 400) m' r' k' (K0of m) → hostlaw_World_Step.B2 (some ⟨a, 0, none⟩) true w' R := fun m' r' k' w' h g => by
    unfold hostlaw_World_Step.B2
    exact Bm.pos rfl (look_ok h g.toMid (by omega) fun r2 k2 w2 h2 g2 _ => hR _ _ _ w2 h2 (g2.mono (by omega)))
  have b3 : ∀ tt, hostlaw_World_Step.B3 (some ⟨a, 0, none⟩) o tt w1 R := fun tt => by
    unfold hostlaw_World_Step.B3
    exact Bm.mk (fun _ => LdI.mk oo rfl (LdI.mk oo rfl (LdI.mk oo rfl (LdI.mk oo rfl (LdI.mk oo rfl (LdS.mk oo rfl (LdS.mk oo rfl (observe_ok h1 hg.z0 h0 (by omega) hc fun r' w' h g => hR _ _ _ w' h (g.toGood.mono (by omega)))))))))) fun _ => same
  refine Bm.mk (fun _ => LdI.mk oo rfl (LdI.mk oo rfl (lawListen_ok h1 hg.z0 h0 (by omega) hc b2))) fun _ => ?_
  refine Bm.mk (fun _ => LdI.mk oo rfl (LdI.mk oo rfl (LdI.mk oo rfl (lawConnect_ok h1 hg.z0 h0 (by omega) hc (fun z => z.1.elim) b2)))) fun _ => ?_
  refine Bm.mk (fun _ => LdI.mk oo rfl (LdI.mk oo rfl (lawAccept_ok h1 hg.z0 h0 (by omega) hc b2))) fun _ => ?_
  refine Bm.mk (fun _ => LdI.mk oo rfl (LdI.mk oo rfl (LdS.mk oo rfl (toBytes_ok fun kd cap w2 z hz hkd hs2 hf he2 => ?_)))) fun _ => ?_
  · have hls : (strB op.s).length = op.s.size := by simp [strB]
    have hws := wf.s
    rw [← hls]
    exact lawSend_ok (h1.ext0 he2) hg.z0 h0 (by omega) hc hf (h1.r.fresh (by omega)).1 (by omega) (by omega) b2
  refine Bm.mk (fun _ => LdI.mk oo rfl (LdI.mk oo rfl (LdI.mk oo rfl (lawRecv_ok h1 hg.z0 h0 (by omega) hc b2)))) fun _ => ?_
  refine Bm.mk (fun _ => LdI.mk oo rfl (LdI.mk oo rfl (lawEnd_ok h1 hg.z0 h0 (by omega) hc (fun z => z.1.elim) b2))) fun _ => ?_
  refine Bm.mk (fun _ => LdI.mk oo rfl (LdI.mk oo rfl (lawEnd_ok h1 hg.z0 h0 (by omega) hc (fun z => z.1.elim) b2))) fun _ => ?_
  exact Bm.mk (fun _ => b3 _) fun _ => Bm.mk (fun _ => b3 _) fun _ => Bm.mk (fun _ => b3 _) fun _ => Bm.mk (fun _ => b3 _) fun _ => b3 _
end
theorem walk_ok {w : World} {sb : Option Addr} {n c : Nat} {ops : Nat → OpV} {steady quiet : Bool} {R : Int → Int → World → Prop} (hs : ScriptIs w sb n ops) (hR : ∀ m w', Ext [] w w' → R (-1) m w') : hostlaw_walk.Call sb n c steady quiet w R := by
  apply hostlaw_walk.sound
  unfold hostlaw_walk.B0
  have hnn := hs.1
  refine newWorld_ok fun a BH BQ wp np w1 h1 => ?_
  refine look_ok h1 (good00 BH BQ quiet wp np).mid (by omega) fun r2 k2 w2 h2 g2 _ => Bm.neg rfl ?_
  unfold hostlaw_walk.L1
  refine ⟨fun mm sb' n' c' st' x' i w' => sb = sb' ∧ n = n' ∧ c = c' ∧ steady = st' ∧ some ⟨a, 0, none⟩ = x' ∧ 0 ≤ i ∧ i ≤ n ∧ i ≤ 1048576 ∧ mm = (n - i).toNat ∧ ∃ m r k, LawAt w w' a m r k ∧ Good (50 + 3510000 * i) m r k, n, ⟨rfl, rfl, rfl, rfl, rfl, by omega, by omega, by omega, by omega, _, _, _, h2, g2.mono (by omega)⟩, ?_⟩
  rintro mm sb' n' c' st' x' i w' ⟨rfl, rfl, rfl, rfl, rfl, i0, i1, i2, rfl, m, r, k, hI, gI⟩
  unfold hostlaw_walk.L1b
  have hM := gI.cnt.M
  have hIn := gI.cnt.I
  have hO := gI.cnt.O
  have b2 : ∀ q : Int, hostlaw_walk.B2 (some ⟨a, 0, none⟩) q w' R := fun q => by
    unfold hostlaw_walk.B2
    exact untouched_ok hI (by omega) (by omega) (by omega) fun w3 he3 => Bm.neg rfl (hR q w3 (hI.ext.trans he3))
  have stop : ∀ tt : Bool, tt = false → ∀ N1, hostlaw_walk.B1 sb n c steady (some ⟨a, 0, none⟩) i tt w' N1 R := by
    intro tt htt N1
    unfold hostlaw_walk.B1
    generalize (decide (((n : Nat) : Int) > 1048576)) = bb
    exact Bm.neg htt (Bm.mk (fun _ => b2 _) (fun _ => b2 _))
  by_cases hi : i < (n : Int)
  rotate_left
  · generalize hf : false = ff
    exact Bm.neg (decide_eq_false hi) (stop ff hf.symm _)
  refine Bm.pos (decide_eq_true hi) ?_
  by_cases hi2 : i < 1048576
  rotate_left
  · exact stop _ (decide_eq_false hi2) _
  rw [decide_eq_true hi2]
  unfold hostlaw_walk.B1
  refine Bm.pos rfl ?_
  have hE' := hI.ext
  obtain ⟨xx, rfl, hop⟩ := hs.2 i.toNat (by omega)
  have cl : ∀ {y : Addr} {v : Value}, y.block = (xx.add (i.toNat * 6)).block → w.cell? y = some v → w'.cell? y = some v := fun {y v} hy hv => by
    rw [hE'.cell (by rw [hy]; exact hop.blk) (by simp)]
    exact hv
  have bk : ∀ j, ((xx.add (i.toNat * 6)).add j).block = (xx.add (i.toNat * 6)).block := fun j => by unfold Addr.add; split <;> rfl
  refine Pn.mk ⟨⟨i0, hi⟩, ⟨_, cl rfl hop.k, ⟨_, cl (bk 1) hop.a, ⟨_, cl (bk 2) hop.b, ⟨_, cl (bk 3) hop.c, ⟨_, cl (bk 4) hop.s, ⟨_, cl (bk 5) hop.t, ?_⟩⟩⟩⟩⟩⟩⟩
  refine step_ok hI gI (by omega) (by omega) hop.wf fun m3 r3 k3 w3 h3 g3 => Bm.neg rfl ⟨(n - (i + 1)).toNat, by omega, rfl, rfl, rfl, rfl, rfl, ?_⟩
  rw [w64 (by omega) (by omega)]
  exact ⟨by omega, by omega, by omega, rfl, m3, r3, k3, h3, by rw [show 50 + 3510000 * (i + 1) = 50 + 3510000 * i + 3510000 by omega]; exact g3⟩
theorem refines_law {w : World} {sb : Option Addr} {n c : Nat} {ops : Nat → OpV} (hs : ScriptIs w sb n ops) {R : Bool → World → Prop} (hR : ∀ w', Ext [] w w' → R true w') : hostlaw_Refines.Call sb n c w R := by
  apply hostlaw_Refines.sound
  unfold hostlaw_Refines.B0
  apply hostlaw_RefinesUpTo.sound
  unfold hostlaw_RefinesUpTo.B0
  exact walk_ok hs fun m w' he => hR w' he
theorem refinesSteady_law {w : World} {sb : Option Addr} {n c : Nat} {ops : Nat → OpV} (hs : ScriptIs w sb n ops) {R : Bool → World → Prop} (hR : ∀ w', Ext [] w w' → R true w') : hostlaw_RefinesSteady.Call sb n c w R := by
  apply hostlaw_RefinesSteady.sound
  unfold hostlaw_RefinesSteady.B0
  exact walk_ok hs fun m w' he => hR w' he
theorem refinesQuiet_law {w : World} {sb : Option Addr} {n c : Nat} {ops : Nat → OpV} (hs : ScriptIs w sb n ops) {R : Bool → World → Prop} (hR : ∀ w', Ext [] w w' → R true w') : hostlaw_RefinesQuiet.Call sb n c w R := by
  apply hostlaw_RefinesQuiet.sound
  unfold hostlaw_RefinesQuiet.B0
  apply hostlaw_RefinesQuietUpTo.sound
  unfold hostlaw_RefinesQuietUpTo.B0
  exact walk_ok hs fun m w' he => hR w' he
end Go.Proofs.Qxb6500424aGreat
