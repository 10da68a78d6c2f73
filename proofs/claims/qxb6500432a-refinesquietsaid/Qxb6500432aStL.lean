/-
  storelaw: the walk.
-/
import Derived.Test.Qxb6500432aStK
import Derived.Test.Qxb6500432aScript
set_option linter.unusedVariables false
set_option linter.unusedSimpArgs false
open Go.Vc
namespace Go.Proofs.Qxb6500432a

structure Inv (w0 : World) (b t q : Nat) (N : Int) (w : World) (d : Nat) (D : DiskS) (F : List Nat) (M : MSt) : Prop where
  pair : Pair w t q d D F M
  bel : Own w b #[.pointer (some ⟨d, 0, none⟩)] T_storelaw_Below
  cuts : Cuts D M.A0 M.A N
  hist : HistOk M
  log : D.log.length ≤ 10
  ext : Ext [] w0 w
  foot : ∀ k ∈ pfoot t q F M, w0.heap.size ≤ k
  b0 : w0.heap.size ≤ b
def InvE (w0 : World) (b t q : Nat) (N : Int) (w : World) : Prop := ∃ d D F M, Inv w0 b t q N w d D F M
section
variable {w0 w w' : World} {b t q d : Nat} {D : DiskS} {F : List Nat} {M : MSt} {N : Int}
theorem Inv.ext0 (h : Inv w0 b t q N w d D F M) (he : Ext [] w w') : Inv w0 b t q N w' d D F M := ⟨h.pair.ext0 he, he.own h.bel (by simp), h.cuts, h.hist, h.log, h.ext.trans he, h.foot, h.b0⟩
theorem Inv.up {N' : Int} (h : Inv w0 b t q N w d D F M) (hn : N ≤ N') : Inv w0 b t q N' w d D F M := ⟨h.pair, h.bel, h.cuts.mono hn, h.hist, h.log, h.ext, h.foot, h.b0⟩
theorem bel_not (hp : Pair w t q d D F M) {b : Nat} {cs : Array Value} (ho : Own w b cs T_storelaw_Below) : b ∉ pfoot t q F M := fun hk => by
  obtain ⟨cs', T, ho', hT, _⟩ := hp.ty hk
  exact hT (ho.unique ho').2.symm
theorem op_not (hp : Pair w t q d D F M) {b : Nat} {cs : Array Value} (ho : Own w b cs T_api_Op) : b ∉ pfoot t q F M := fun hk => by
  obtain ⟨cs', T, ho', _, hT⟩ := hp.ty hk
  exact hT (ho.unique ho').2.symm

/-! ### the fresh disk -/
theorem fresh_blk {i : Nat} (h : i < 14) : blk freshDisk i = zblock := by
  unfold blk freshDisk
  simp only [List.getD]
  rw [List.getElem?_replicate, if_pos h]
  rfl
theorem z_whole : whole zblock = false := by
  unfold whole
  have e : byteAt zblock 0 = 0 := by
    have := byteAt_nat zblock 0
    have h2 : ubyte zblock 0 = 0 := zbytes_get 64 0
    rw [h2] at this
    exact this
  rw [e]
  simp
theorem fresh_pick : pickM freshDisk = false ∧ pickH freshDisk = false := by
  constructor
  · unfold pickM
    rw [fresh_blk (by omega), decMeta_torn z_whole]
    rfl
  · unfold pickH
    rw [fresh_blk (by omega), decHead_torn z_whole]
    rfl
theorem decMeta_z : decMeta zblock = ⟨false, 0, 0, 0⟩ := by
  unfold decMeta
  rw [if_neg (by simp [z_whole])]
theorem decHead_z : decHead zblock = ⟨false, 0, 0, 0, 0, 0⟩ := by
  unfold decHead headOk
  rw [z_whole]
  rfl
theorem fresh_cur : curM freshDisk = ⟨false, 0, 0, -1⟩ ∧ curH freshDisk = ⟨false, 0, 0, 0, 1, 0⟩ := by
  have e1 : rawM freshDisk = ⟨false, 0, 0, 0⟩ := by
    unfold rawM
    rw [if_neg (by simp [fresh_pick.1]), fresh_blk (by omega), decMeta_z]
  have e2 : rawH freshDisk = ⟨false, 0, 0, 0, 0, 0⟩ := by
    unfold rawH
    rw [if_neg (by simp [fresh_pick.2]), fresh_blk (by omega), decHead_z]
  constructor
  · unfold curM
    rw [e1]
    rfl
  · unfold curH
    rw [e2]
    rfl
theorem fresh_good : Good freshDisk 0 := by
  have hb : ∀ i, i < 14 → blk freshDisk i = zblock := fun i hi => fresh_blk hi
  refine ⟨by simp [freshDisk], fun i hi => by rw [hb i hi]; exact zbytes_size 64, by rw [fresh_cur.1]; simp, fun hok => ?_, by rw [fresh_cur.2]; simp, fun hok => ?_⟩
  · have hs : slotM freshDisk = 1 := by unfold slotM; rw [if_neg (by simp [fresh_pick.1])]
    rw [hs, hb _ (by decide), decMeta_z] at hok
    cases hok
  · have hs : slotH freshDisk = 1 := by unfold slotH; rw [if_neg (by simp [fresh_pick.2])]
    rw [hs, hb _ (by decide), decHead_z] at hok
    cases hok
theorem fresh_like {d : Nat} : Like (openR d freshDisk) ⟨0, -1, 0, 0, estr, fun _ => false, fun _ => ⟨0, 0, estr⟩⟩ := by
  have em : (openR d freshDisk).m = curM freshDisk := rfl
  have eh : (openR d freshDisk).h = curH freshDisk := rfl
  have es : (openR d freshDisk).snap = areaV freshDisk (curH freshDisk).area (curH freshDisk).size := rfl
  refine ⟨by rw [em, fresh_cur.1], by rw [em, fresh_cur.1], by rw [eh, fresh_cur.2], by rw [eh, fresh_cur.2], ?_, fun s hs => ?_, fun s hs hu => by cases hu⟩
  · rw [es, fresh_cur.2]
    rfl
  · rw [openR_used hs, fresh_blk (by omega)]
    exact recOk_torn z_whole
theorem fresh_pend {A : AbsS} (h : Like (openR 0 freshDisk) A) : Pend freshDisk A 0 := pend_marked (D := freshDisk) fresh_good (likeI_mk (d := 0) h)

/-! ### one op -/
theorem Inv.like (h : Inv w0 b t q N w d D F M) : Like (openR d D) M.A := likeI_of h.cuts.last
/-- A step that writes the pair's blocks alone. -/
theorem Inv.next (h : Inv w0 b t q N w d D F M) {D' : DiskS} {F' : List Nat} {M' : MSt} {N' : Int} (hp : Pair w' t q d D' F' M') (he : Ext (pfoot t q F M) w w') (hg : Grew w (pfoot t q F M) (pfoot t q F' M')) (hc : Cuts D' M'.A0 M'.A N') (hh : HistOk M') (hl : D'.log.length ≤ 10) : Inv w0 b t q N' w' d D' F' M' := by
  have hz := h.ext.size
  refine ⟨hp, he.own h.bel (bel_not h.pair h.bel), hc, hh, hl, h.ext.trans' he (fun x hx hlt => by have := h.foot x hx; omega), fun k hk => ?_, h.b0⟩
  rcases hg k hk with q1 | q1
  · exact h.foot k q1
  · omega
theorem walk_ok {w : World} {sb : Option Addr} {n c : Nat} {ops : Nat → OpV} {steady quiet : Bool} {R : Int → Int → World → Prop} (hs : ScriptIs w sb n ops) (hR : ∀ m w', Ext [] w w' → R (-1) m w') : storelaw_walk.Call sb n c steady quiet w R := by
  apply storelaw_walk.sound
  unfold storelaw_walk.B0
  have hnn := hs.1
  refine ground_ok fun d F w1 hd hF hD1 he1 => NewSet.mk rfl rfl fun b w3 hb hs3 ob3 he3 => LdP.mk ob3 rfl ?_
  have hD3 := hD1.ext he3 (by simp)
  have E3 : Ext [] w w3 := he1.trans he3
  apply store_New.sound
  unfold store_New.B0
  refine open_ok hD3 fresh_good.wf fun t w4 ht hS4 he4 => mdNew_ok fun q M w5 hq hM5 hA hA0 hH he5 => ?_
  have E4 : Ext [] w w4 := E3.trans he4
  have E5 : Ext [] w w5 := E4.trans he5
  have hz1 := he1.size
  have hz3 := E3.size
  have hz4 := E4.size
  have hS5 : StoreAt w5 t (openR d freshDisk) := he5.own hS4 (by simp)
  have hD5 : DiskAt w5 d freshDisk F := (hD3.ext he4 (by simp)).ext he5 (by simp)
  have ob5 := he5.own (he4.own ob3 (by simp)) (by simp)
  have hL0 : Like (openR d freshDisk) M.A := by rw [hA]; exact fresh_like
  have hinv : Inv w b t q 0 w5 d freshDisk F M := ⟨⟨hS5, hD5, hM5⟩, ob5, by rw [hA0]; exact (fresh_pend (by rw [hA]; exact fresh_like)).cuts, .inl ⟨hH, hA0.symm⟩, by simp [freshDisk], E5, fun k hk => by
    simp only [pfoot, List.mem_cons, List.mem_append] at hk
    rcases hk with e | e | e
    · omega
    · exact hF k e
    · have := hq k e
      omega, by omega⟩
  refine LdP.mk ob5 rfl (lawSteps_ok hD5 fun w6 he6 => Bm.neg rfl ?_)
  have hinv6 := hinv.ext0 he6
  have main : ∀ w7, Inv w b t q 0 w7 d freshDisk F M → storelaw_walk.B1 sb n c steady quiet b (some ⟨t, 0, none⟩) (some ⟨q, 0, none⟩) false w7 R := by
    intro w7 hI7
    unfold storelaw_walk.B1
    refine Bm.neg rfl ?_
    unfold storelaw_walk.L1
    refine ⟨fun m sb' n' c' st' qu' b' x' m' i w' => sb = sb' ∧ n = n' ∧ c = c' ∧ steady = st' ∧ quiet = qu' ∧ b = b' ∧ 0 ≤ i ∧ i ≤ n ∧ i ≤ 4398046511104 ∧ m = (n - i).toNat ∧ ∃ t q, some ⟨t, 0, none⟩ = x' ∧ some ⟨q, 0, none⟩ = m' ∧ InvE w b t q i w', n, ⟨rfl, rfl, rfl, rfl, rfl, rfl, by omega, by omega, by omega, by omega, t, q, rfl, rfl, d, freshDisk, F, M, hI7⟩, ?_⟩
    rintro m sb' n' c' st' qu' b' x' m' i w' ⟨rfl, rfl, rfl, rfl, rfl, rfl, i0, i1, i2, rfl, t, q, rfl, rfl, d, D, F, M, hI⟩
    unfold storelaw_walk.L1b
    have stop : ∀ tt : Bool, tt = false → ∀ N1, storelaw_walk.B2 sb n c steady quiet b (some ⟨t, 0, none⟩) (some ⟨q, 0, none⟩) i tt w' N1 R := by
      intro tt htt N1
      unfold storelaw_walk.B2
      generalize (decide (((n : Nat) : Int) < 4398046511104)) = bb
      exact Bm.neg htt (Bm.mk (fun _ => hR _ w' hI.ext) (fun _ => hR _ w' hI.ext))
    by_cases hi : i < (n : Int)
    rotate_left
    · generalize hf : false = ff
      exact Bm.neg (decide_eq_false hi) (stop ff hf.symm _)
    refine Bm.pos (decide_eq_true hi) ?_
    by_cases hi2 : i < 4398046511104
    rotate_left
    · exact stop _ (decide_eq_false hi2) _
    rw [decide_eq_true hi2]
    unfold storelaw_walk.B2
    refine Bm.pos rfl ?_
    have hE' := hI.ext
    obtain ⟨x, rfl, hop⟩ := hs.2 i.toNat (by omega)
    have cl : ∀ {y : Addr} {v : Value}, y.block = (x.add (i.toNat * 6)).block → w.cell? y = some v → w'.cell? y = some v := fun {y v} hy hv => by
      rw [hE'.cell (by rw [hy]; exact hop.blk) (by simp)]
      exact hv
    have bk : ∀ j, ((x.add (i.toNat * 6)).add j).block = (x.add (i.toNat * 6)).block := fun j => by unfold Addr.add; split <;> rfl
    refine Pn.mk ⟨⟨i0, hi⟩, ⟨_, cl rfl hop.k, ⟨_, cl (bk 1) hop.a, ⟨_, cl (bk 2) hop.b, ⟨_, cl (bk 3) hop.c, ⟨_, cl (bk 4) hop.s, ⟨_, cl (bk 5) hop.t, ?_⟩⟩⟩⟩⟩⟩⟩
    refine NewSet.mk rfl rfl fun o w2 ho hs2 oo2 he2 => LdI.mk oo2 rfl ?_
    have hI2 := hI.ext0 he2
    have ss := hop.wf.s
    generalize ops i.toNat = op at oo2 ss
    -- going on
    have go : ∀ {w9 : World} {t q : Nat}, InvE w b t q (i + 1) w9 → storelaw_walk.B5 (some x) n c steady quiet b (some ⟨t, 0, none⟩) (some ⟨q, 0, none⟩) i w9 (fun sb' n' c' st' qu' b' x' m' i' w'' => ∃ m1, m1 < (n - i).toNat ∧ some x = sb' ∧ n = n' ∧ c = c' ∧ steady = st' ∧ quiet = qu' ∧ b = b' ∧ 0 ≤ i' ∧ i' ≤ n ∧ i' ≤ 4398046511104 ∧ m1 = (n - i').toNat ∧ ∃ t q, some ⟨t, 0, none⟩ = x' ∧ some ⟨q, 0, none⟩ = m' ∧ InvE w b t q i' w'') R := fun {w9 t q} hI9 => by
      unfold storelaw_walk.B5
      rw [w64 (by omega) (by omega)]
      exact ⟨(n - (i + 1)).toNat, by omega, rfl, rfl, rfl, rfl, rfl, rfl, by omega, by omega, by omega, rfl, t, q, rfl, rfl, hI9⟩
    refine Bm.mk (fun hk6 => ?_) (fun hk6 => ?_)
    · -- an op that is no cut
      refine LdP.mk hI2.bel rfl (lawMark_ok hI2.pair.dk fun w3 F3 hD3 he3 hg3 => ?_)
      have hz2 := he2.size
      have hz3 := he3.size
      have hG := hI2.cuts.good
      have hopenM : openR d D.marked = openR d D := openR_now rfl
      have hS3 : StoreAt w3 t (openR d D.marked) := by rw [hopenM]; exact he3.own hI2.pair.st hI2.pair.tF
      have he3' : Ext (t :: F) w2 w3 := he3.mono (fun x hx _ => List.mem_cons_of_mem _ hx)
      have hM3 := hI2.pair.md2 he3'
      refine mdMark_ok hM3 fun nm w4 hnm hM4 he4 => ?_
      have hp3 : Pair w3 t q d D.marked F3 M := ⟨hS3, hD3, hM3⟩
      have hqT : ∀ {k : Nat} {cs : Array Value} {T : TypeId}, Own w3 k cs T → T ≠ T_storem_Store → k ∉ [q] := fun {k cs T} hoo hT hx => by
        simp at hx
        subst hx
        exact hT (hoo.unique hM3.own).2
      have hp4 : Pair w4 t q d D.marked F3 { M with mb := nm, A0 := M.A, H := [], hb := none, hc := 0 } := ⟨he4.own hS3 (hqT hS3 (by decide)), hD3.ext he4 (fun k hk => by
        obtain ⟨cs, T, hoo, hT⟩ := hD3.ty hk
        exact hqT hoo (by rcases hT with e | e | e <;> rw [e] <;> decide)), hM4⟩
      have he24 : Ext (pfoot t q F M) w2 w4 := (he3.mono (fun x hx _ => by simp [pfoot, hx])).trans (he4.mono (fun x hx _ => by simp at hx; simp [pfoot, MSt.foot, hx]))
      have hg24 : Grew w2 (pfoot t q F M) (pfoot t q F3 { M with mb := nm, A0 := M.A, H := [], hb := none, hc := 0 }) := fun k hk => by
        simp only [pfoot, MSt.foot, rowBlk, List.mem_cons, List.mem_append, List.not_mem_nil, or_false] at hk ⊢
        rcases hk with e | e | e | e
        · exact .inl (.inl e)
        · rcases hg3 k e with q1 | q1
          · exact .inl (.inr (.inl q1))
          · exact .inr q1
        · exact .inl (.inr (.inr (.inl e)))
        · exact .inl (.inr (.inr (.inr (.inl e))))
      have hPend : Pend D.marked M.A i := pend_marked hG hI2.cuts.last
      have hI4 : Inv w b t q i w4 d D.marked F3 { M with mb := nm, A0 := M.A, H := [], hb := none, hc := 0 } := hI2.next hp4 he24 hg24 hPend.cuts (.inl ⟨rfl, rfl⟩) (by simp [DiskS.marked])
      have oo4 := he24.own oo2 (op_not hI2.pair oo2)
      refine LdI.mk oo4 rfl (LdI.mk oo4 rfl (LdI.mk oo4 rfl (LdI.mk oo4 rfl (LdS.mk oo4 rfl (LdS.mk oo4 rfl (play_ok hp4 hPend rfl rfl rfl (by omega) ss fun ch w5 D5 F5 M5 hp5 hc5 hh5 hch hl5 he5 hg5 => ?_))))))
      have hI5 : Inv w b t q (i + 1) w5 d D5 F5 M5 := hI4.next hp5 he5 hg5 hc5 hh5 hl5
      refine LdP.mk hI5.bel rfl (lawSteps_ok hI5.pair.dk fun w6 he6 => ?_)
      have hI6 := hI5.ext0 he6
      have b3 : ∀ tt, tt = false → storelaw_walk.B3 (some x) n c steady quiet b (some ⟨t, 0, none⟩) (some ⟨q, 0, none⟩) i (D5.log.length : Int) tt w6 (fun sb' n' c' st' qu' b' x' m' i' w'' => ∃ m1, m1 < (n - i).toNat ∧ some x = sb' ∧ n = n' ∧ c = c' ∧ steady = st' ∧ quiet = qu' ∧ b = b' ∧ 0 ≤ i' ∧ i' ≤ n ∧ i' ≤ 4398046511104 ∧ m1 = (n - i').toNat ∧ ∃ t q, some ⟨t, 0, none⟩ = x' ∧ some ⟨q, 0, none⟩ = m' ∧ InvE w b t q i' w'') R := fun tt htt => by
        unfold storelaw_walk.B3
        refine Bm.neg htt (Bm.mk (fun _ => ?_) (fun _ => ?_))
        · refine LdP.mk hI6.bel rfl (seen_ok hI6.pair.st hI6.pair.dk hI6.cuts.good (by omega) hI6.pair.md hI6.like fun w7 he7 => ?_)
          unfold storelaw_walk.B6
          exact Bm.neg rfl (go ⟨d, D5, F5, M5, hI6.ext0 he7⟩)
        · unfold storelaw_walk.B6
          exact Bm.neg rfl (go ⟨d, D5, F5, M5, hI6⟩)
      refine Bm.neg rfl (Bm.mk (fun hc => b3 _ ?_) (fun hc => b3 false rfl))
      have : ch = false := by simpa using hc
      rw [hch this]
      rfl
    · -- a cut
      refine Bm.mk (fun _ => ?_) (fun _ => go ⟨d, D, F, M, hI2.up (by omega)⟩)
      refine LdP.mk hI2.bel rfl (lawSteps_ok hI2.pair.dk fun w3 he3 => ?_)
      have hI3 := hI2.ext0 he3
      refine LdP.mk hI3.bel rfl (NewSet.mk rfl rfl fun b0 w5 hb0 hs5 ob5 he5 => LdP.mk ob5 rfl ?_)
      have hI5 := hI3.ext0 he5
      have oo5 := he5.own (he3.own oo2 (by simp)) (by simp)
      have hcuts := hI.cuts
      -- the cut image
      have himg : Good (img (cutI D op.a.toNat)) i ∧ (LikeI (cutI D op.a.toNat) M.A0 ∨ LikeI (cutI D op.a.toNat) M.A) ∧ (op.a ≤ 0 → LikeI (cutI D op.a.toNat) M.A0) ∧ ((D.log.length : Int) ≤ op.a → LikeI (cutI D op.a.toNat) M.A) := by
        have hover : D.log.length ≤ op.a.toNat → cutI D op.a.toNat = D.now := fun h => by rw [cutI_over h, hcuts.fin]
        have hall : Good (img (cutI D op.a.toNat)) i ∧ (LikeI (cutI D op.a.toNat) M.A0 ∨ LikeI (cutI D op.a.toNat) M.A) := by
          by_cases h : op.a.toNat ≤ D.log.length
          · exact hcuts.all _ h
          · rw [cutI_over (by omega)]
            exact hcuts.all _ (Nat.le_refl _)
        refine ⟨hall.1, hall.2, fun h0 => ?_, fun h1 => ?_⟩
        · have : op.a.toNat = 0 := by omega
          rw [this]
          exact hcuts.first
        · rw [hover (by omega)]
          exact hcuts.last
      refine LdI.mk oo5 rfl (lawAfter_ok hI5.pair.dk hcuts.mark hcuts.log (by have := hI.log; omega) fun d' F' w6 hF' hD6 he6 => ?_)
      have hI6 := hI5.ext0 he6
      have ob6 := he6.own ob5 (by simp)
      have oo6 := he6.own oo5 (by simp)
      refine Sts.full hI6.bel rfl rfl fun w7 hs7 obb7 he7 => LdP.mk obb7 rfl ?_
      have hz6 := he6.size
      have hz5 := he5.size
      have hz3 := he3.size
      have hz2 := he2.size
      have hzw := hE'.size
      have hbl := hI.bel.lt
      have bT : ∀ {k : Nat} {cs : Array Value} {T : TypeId}, Own w6 k cs T → T ≠ T_storelaw_Below → k ∉ [b] := fun {k cs T} hoo hT hx => by
        simp at hx
        subst hx
        exact hT (hoo.unique hI6.bel).2
      have hD7 : DiskAt w7 d' (img (cutI D op.a.toNat)) F' := hD6.ext he7 (fun k hk hx => by
        simp at hx
        have := hF' k hk
        omega)
      have hp7 : Pair w7 t q d D F M := ⟨he7.own hI6.pair.st (bT hI6.pair.st (by decide)), hI6.pair.dk.ext he7 (fun k hk => by
        obtain ⟨cs, T, hoo, hT⟩ := hI6.pair.dk.ty hk
        exact bT hoo (by rcases hT with e | e | e <;> rw [e] <;> decide)), hI6.pair.md.extT he7 (fun k hk cs T hoo => by
        simp at hk
        subst hk
        have := (hoo.unique hI6.bel).2
        rw [this]
        decide)⟩
      have oo7 := he7.own oo6 (bT oo6 (by decide))
      have ob7 := he7.own ob6 (by simp; omega)
      have E7 : Ext [] w w7 := hI6.ext.trans' he7 (fun x hx hlt => by simp at hx; have := hI.b0; omega)
      have hz7 := E7.size
      refine open_ok hD7 himg.1.wf fun t' w8 ht' hS8 he8 => LdP.mk (he8.own obb7 (by simp)) rfl (lawSteps_ok (hD7.ext he8 (by simp)) fun w9 he9 => ?_)
      have E79 : Ext [] w7 w9 := he8.trans he9
      have hS9 : StoreAt w9 t' (openR d' (img (cutI D op.a.toNat))) := he9.own hS8 (by simp)
      have hp9 := hp7.ext0 E79
      refine fits_ok hS9 hp9.md hI.hist (himg.2.1.imp (fun h => likeI_of (D := img _) h) (fun h => likeI_of (D := img _) h)) fun j w10 hj hlj he10 => ?_
      have E710 := E79.trans he10
      have hD10 := hD7.ext E710 (by simp)
      have hS10 := he10.own hS9 (by simp)
      refine check'_ok hS10 hD10 himg.1 (by omega) fun w11 he11 => ?_
      have E711 := E710.trans he11
      have obb11 := E711.own obb7 (by simp)
      refine LdP.mk obb11 rfl (lawSteps_ok (hD7.ext E711 (by simp)) fun w12 he12 => ?_)
      have E712 := E711.trans he12
      have hp12 := hp7.ext0 E712
      have hS12 : StoreAt w12 t' (openR d' (img (cutI D op.a.toNat))) := he12.own (he11.own hS10 (by simp)) (by simp)
      have oo12 := E712.own oo7 (by simp)
      have obb12 := E712.own obb7 (by simp)
      have ob12 := E712.own ob7 (by simp)
      have hD12 := hD7.ext E712 (by simp)
      have hz12 := E712.size
      refine Bm.neg rfl (Bm.neg (by rw [estr_eq]; rfl) ?_)
      have elen : (((img (cutI D op.a.toNat)).log.length : Int) != 0) = false := rfl
      rw [elen]
      unfold storelaw_walk.B4
      refine Bm.neg rfl (Bm.neg (decide_eq_false (by omega)) (LdI.mk oo12 rfl ?_))
      have hlen1 : M.H.length ≤ 1 := by
        rcases hI.hist with ⟨h1, _⟩ | ⟨nn, h⟩
        · rw [h1]; simp
        · rw [h]; simp
      -- behind the claims
      have b8 : ∀ w13, Ext [] w12 w13 → ∀ tt, tt = false → storelaw_walk.B8 (some x) n c steady quiet b (some ⟨t', 0, none⟩) (some ⟨q, 0, none⟩) i o b0 j tt w13 (fun sb' n' c' st' qu' b' x' m' i' w'' => ∃ m1, m1 < (n - i).toNat ∧ some x = sb' ∧ n = n' ∧ c = c' ∧ steady = st' ∧ quiet = qu' ∧ b = b' ∧ 0 ≤ i' ∧ i' ≤ n ∧ i' ≤ 4398046511104 ∧ m1 = (n - i').toNat ∧ ∃ t q, some ⟨t, 0, none⟩ = x' ∧ some ⟨q, 0, none⟩ = m' ∧ InvE w b t q i' w'') R := by
        intro w13 he13 tt htt
        unfold storelaw_walk.B8
        have hp13 := hp12.ext0 he13
        refine Bm.neg htt (mdAfter_ok hp13.md (by omega) fun q' M' w14 hq' hM14 hA14 hA0 hH14 he14 => ?_)
        have E1214 := he13.trans he14
        have E714 := E712.trans E1214
        have E14 := E7.trans E714
        have hz14 := E714.size
        have mk : ∀ {w15 : World} {d2 t2 : Nat} {F2 : List Nat}, Ext [] w14 w15 ∨ Ext [b] w14 w15 → Own w15 b #[.pointer (some ⟨d2, 0, none⟩)] T_storelaw_Below → StoreAt w15 t2 (openR d2 (img (cutI D op.a.toNat))) → DiskAt w15 d2 (img (cutI D op.a.toNat)) F2 → (∀ k ∈ F2, w.heap.size ≤ k) → w.heap.size ≤ t2 → InvE w b t2 q' (i + 1) w15 := fun {w15 d2 t2 F2} he15 obb st2 dk2 hF2 ht2 => by
          have hM15 : MdAt w15 q' M' := by
            rcases he15 with he15 | he15
            · exact hM14.ext0 he15
            · refine hM14.extT he15 (fun k hk cs T hoo => ?_)
              simp at hk
              subst hk
              have := (hoo.unique (E1214.own obb12 (by simp))).2
              rw [this]
              decide
          have E15 : Ext [] w w15 := by
            rcases he15 with he15 | he15
            · exact E14.trans he15
            · exact E14.trans' he15 (fun x hx hlt => by simp at hx; have := hI.b0; omega)
          have hz13 := he13.size
          refine ⟨d2, img (cutI D op.a.toNat), F2, M', ⟨st2, dk2, hM15⟩, obb, ?_, .inl ⟨hH14, by rw [hA14, hA0]⟩, by simp [img], E15, fun k hk => ?_, hI.b0⟩
          · rw [hA0, hA14]
            exact (pend_marked (D := img (cutI D op.a.toNat)) (himg.1.mono (by omega)) (likeI_mk (d := d') hlj)).cuts
          · simp only [pfoot, List.mem_cons, List.mem_append] at hk
            rcases hk with e | e | e
            · omega
            · exact hF2 k e
            · have := hq' k e
              omega
        refine Bm.mk (fun _ => ?_) (fun _ => ?_)
        · have hp14 := hp13.ext0 he14
          refine LdP.mk (E1214.own ob12 (by simp)) rfl (LdI.mk (E1214.own oo12 (by simp)) rfl (lawAfter_ok hp14.dk hcuts.mark hcuts.log (by have := hI.log; omega) fun d2 F2 w15 hF2 hD15 he15 => ?_))
          have obb15 := he15.own (E1214.own obb12 (by simp)) (by simp)
          refine Sts.full obb15 rfl rfl fun w16 hs16 obb16 he16 => LdP.mk obb16 rfl ?_
          have hz15 := he15.size
          have hbl15 := obb12.lt
          have hz13 := he13.size
          have hz1214 := E1214.size
          have hD16 : DiskAt w16 d2 (img (cutI D op.a.toNat)) F2 := hD15.ext he16 (fun k hk hx => by
            simp at hx
            have := hF2 k hk
            omega)
          refine open_ok hD16 himg.1.wf fun t2 w17 ht2 hS17 he17 => go (mk (w15 := w17) (d2 := d2) (t2 := t2) (F2 := F2) (.inr ((he15.nil.trans he16).trans he17.nil)) (he17.own obb16 (by simp)) hS17 (hD16.ext he17 (by simp)) (fun k hk => by have := hF2 k hk; omega) (by omega))
        · exact go (mk (w15 := w14) (.inl (Ext.refl _ _)) (E1214.own obb12 (by simp)) (E1214.own hS12 (by simp)) (hD12.ext E1214 (by simp)) (fun k hk => by have := hF' k hk; omega) (by omega))
      have b7 : ∀ tt, tt = false → storelaw_walk.B7 (some x) n c steady quiet b (some ⟨t', 0, none⟩) (some ⟨q, 0, none⟩) i o (D.log.length : Int) b0 j tt w12 (fun sb' n' c' st' qu' b' x' m' i' w'' => ∃ m1, m1 < (n - i).toNat ∧ some x = sb' ∧ n = n' ∧ c = c' ∧ steady = st' ∧ quiet = qu' ∧ b = b' ∧ 0 ≤ i' ∧ i' ≤ n ∧ i' ≤ 4398046511104 ∧ m1 = (n - i').toNat ∧ ∃ t q, some ⟨t, 0, none⟩ = x' ∧ some ⟨q, 0, none⟩ = m' ∧ InvE w b t q i' w'') R := fun tt htt => by
        unfold storelaw_walk.B7
        refine Bm.neg htt (mdSteps_ok hp12.md (mdAfter_ok hp12.md (by omega) fun q2 M2 w13 hq2 hM13 hA13 _ _ he13 => LdI.mk (he13.own oo12 (by simp)) rfl (Bm.ite (fun hge => ?_) (fun hge => b8 w13 he13 false rfl))))
        refine alike'_ok (he13.own hS12 (by simp)) hM13 fun xx w14 hxx he14 => ?_
        have : xx = true := hxx.2 (by
          rw [hA13, at_all hI.hist]
          exact likeI_of (D := img _) (himg.2.2.2 hge))
        subst this
        exact b8 w14 (he13.trans he14) _ rfl
      refine Bm.ite (fun h0 => b7 _ ?_) (fun h0 => b7 false rfl)
      rcases hj with e | ⟨e, hno⟩
      · rw [e]
        rfl
      · exact absurd (likeI_of (d := d') (D := img _) (himg.2.2.1 h0)) hno
  refine Bm.mk (fun _ => ?_) (fun _ => main w6 hinv6)
  refine LdP.mk hinv6.bel rfl (seen_ok (D := freshDisk) hinv6.pair.st hinv6.pair.dk fresh_good (by omega) hinv6.pair.md hL0 fun w7 he7 => main w7 (hinv6.ext0 he7))
end
theorem refines_law {w : World} {sb : Option Addr} {n c : Nat} {ops : Nat → OpV} (hs : ScriptIs w sb n ops) {R : Bool → World → Prop} (hR : ∀ w', Ext [] w w' → R true w') : storelaw_Refines.Call sb n c w R := by
  apply storelaw_Refines.sound
  unfold storelaw_Refines.B0
  apply storelaw_RefinesUpTo.sound
  unfold storelaw_RefinesUpTo.B0
  exact walk_ok hs fun m w' he => hR w' he
theorem refinesSteady_law {w : World} {sb : Option Addr} {n c : Nat} {ops : Nat → OpV} (hs : ScriptIs w sb n ops) {R : Bool → World → Prop} (hR : ∀ w', Ext [] w w' → R true w') : storelaw_RefinesSteady.Call sb n c w R := by
  apply storelaw_RefinesSteady.sound
  unfold storelaw_RefinesSteady.B0
  exact walk_ok hs fun m w' he => hR w' he
theorem refinesQuiet_law {w : World} {sb : Option Addr} {n c : Nat} {ops : Nat → OpV} (hs : ScriptIs w sb n ops) {R : Bool → World → Prop} (hR : ∀ w', Ext [] w w' → R true w') : storelaw_RefinesQuiet.Call sb n c w R := by
  apply storelaw_RefinesQuiet.sound
  unfold storelaw_RefinesQuiet.B0
  exact walk_ok hs fun m w' he => hR w' he
end Go.Proofs.Qxb6500432a
