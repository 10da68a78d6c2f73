/-
  ip: the law's SameOutput.
-/
import Derived.Test.Qxb6500425aLawD
set_option linter.unusedVariables false
set_option linter.unusedSimpArgs false
open Go.Vc
namespace Go.Proofs.Qxb6500425a

theorem outErr_zero {dst proto : Int} {n : Nat} {credit : Int} (h : outErr dst proto n credit = 0) : n ≤ 40 ∧ 0 < credit ∧ (0 ≤ dst ∧ dst ≤ 255) ∧ (0 ≤ proto ∧ proto ≤ 255) := by
  unfold outErr at h
  split at h
  · omega
  split at h
  · omega
  split at h
  · omega
  split at h
  · omega
  omega
theorem pktF_len {proto src dst id : Int} {d : List Int} {i : Nat} (hd : d.length ≤ 40) : 8 ≤ (pktF proto src dst id d i).length ∧ (pktF proto src dst id d i).length ≤ 48 := by
  unfold pktF
  split
  · rw [pkt_length, List.length_take, List.length_drop]
    omega
  · rw [pkt_length, List.length_drop]
    omega
section
variable {w w' : World} {a : Nat} {σ : LS} {N : Int}
/-- A string put into the pool. -/
theorem LawAt.pool1 (h : LawAt w a σ N) {s : ByteArray} {nb lc' : Nat} {lb' : Option Addr} (hs : s.size ≤ 140737488351232) (hnb : w.heap.size ≤ nb) (ho : Own w' a (putArr (fnArr 9 (lawCell σ)) 4 [.slice lb' ((σ.ls 0).n + 1) lc']) 43) (hrow : Row w' lb' ((σ.ls 0).n + 1) lc' 1 9 ((σ.ls 0).vs ++ [.string s])) (he : Ext (nb :: a :: rowBlk (σ.ls 0).b) w w') (hgr : ∀ x ∈ rowBlk lb', x ∈ rowBlk (σ.ls 0).b ∨ w.heap.size ≤ x) :
    ∃ σ', Next w a σ σ' (N + 1) w' ∧ ∀ k, NotKept σ k → NotKept σ' k := by
  let x : KL := ⟨lb', (σ.ls 0).n + 1, lc', (σ.ls 0).vs ++ [.string s]⟩
  have hown : Own w' a (fnArr 9 (lawCell (σ.setL 0 x))) 43 := by
    have ex : Value.slice lb' ((σ.ls 0).n + 1) lc' = x.val := rfl
    have hp := put_list σ (i := 0) (by omega) x
    rw [ex, putArr_fn (by simp)] at ho
    rw [← fnArr_congr hp]
    exact ho
  have hcG : ∀ j, j < 5 → (((σ.setL 0 x).ls j).n : Int) ≤ N + 1 := fun j hj => by
    by_cases ej : j = 0
    · subst ej
      rw [setL_same]
      have := h.cnt 0 hj
      show (((σ.ls 0).n + 1 : Nat) : Int) ≤ N + 1
      omega
    · rw [setL_ne _ _ ej]
      have := h.cnt j hj
      omega
  obtain ⟨hg, hl⟩ := h.grow (x := x) (by omega) he hown hrow hgr (h.notNew hnb) (h.fresh hnb) (fun _ v hv => by
    rcases List.mem_append.1 hv with q | q
    · exact h.pool v q
    · simp at q
      exact ⟨s, q, hs⟩) (fun h1 => by omega) hcG
  refine ⟨σ.setL 0 x, ⟨hl, he.mono (fun y hy hlt => ?_), hg⟩, fun k hk j h1 h5 => ?_⟩
  · rcases List.mem_cons.1 hy with e | hy
    · omega
    rcases List.mem_cons.1 hy with e | hy
    · exact mem_foot.2 (.inl e)
    · exact mem_foot.2 (.inr (.inr (.inr ⟨0, by omega, hy⟩)))
  · rw [setL_ne _ _ (by omega)]
    exact hk j h1 h5
theorem sameOutput_ok {c dst proto : Int} {data : ByteArray} {R : Bool → World → Prop} (h : LawAt w a σ N) (hN : N ≤ 80000000) (c0 : 0 ≤ c) (c2 : c < 2) (hsz : data.size ≤ 140737488351232) (hR : ∀ σ' w', Next w a σ σ' (N + 8) w' → R true w') : iplaw_World_SameOutput.Call (some ⟨a, 0, none⟩) c dst proto data w R := by
  apply iplaw_World_SameOutput.sound
  unfold iplaw_World_SameOutput.B0
  have hcn : c.toNat < 2 := by omega
  have hsB := strB_length data
  refine toBytes_ok2 (by omega) fun k1 cap1 w1 z1 hcap1 hcb1 hk1 hs1 hf1 he1 => toBytes_ok2 (by omega) fun k2 cap2 w2 z2 hcap2 hcb2 hk2 hs2 hf2 he2 => ?_
  have E2 : Ext [] w w2 := he1.trans he2
  have h2 := h.ext0 E2
  have hp2 := h2.real _ hcn
  have hm2 := h2.mod _ hcn
  have hf1' := hf1.ext0 he2
  have hz2 := E2.size
  have hnum := h2.num _ hcn
  have hsame := h2.same _ hcn
  have hcr : (σ.M c.toNat).credit = (σ.S c.toNat).credit := hsame.2.2
  refine Pn.mk ⟨⟨c0, by omega⟩, h2.ldP c0 c2 (realOutput_ok hp2 hnum.addr hnum.next hnum.credit hf1'.rd hsB (by omega) (by omega) (fun k o e => ?_) (fun herr => ?_) fun hok ob K w3 hob hh3 hr3 he3 => ?_)⟩
  · simp only [Option.some.injEq, Addr.mk.injEq] at e
    rw [← e.1]
    exact Own.ne_type hf1'.1 hp2 (by decide)
  · -- an error: both sides are as they were
    refine Pn.mk ⟨⟨c0, by omega⟩, h2.ldQ c0 c2 (modOutput_ok hm2 (by rw [hsame.1]; exact hnum.addr) (by rw [hsame.2.1]; exact hnum.next) (by rw [hcr]; exact hnum.credit) hf2.rd hsB (by omega) (by omega) (fun k o e => ?_) (fun herr' => ?_) fun hok => ?_)⟩
    · simp only [Option.some.injEq, Addr.mk.injEq] at e
      rw [← e.1]
      exact Own.ne_type hf2.1 hm2.own (by decide)
    · rw [hcr]
      refine untouched_ok h2 (by omega) fun w5 he5 => Bm.neg rfl (Bm.neg (by simp) (Bm.neg (by simp) (toStr_str (hf1'.ext0 he5).rd rfl ?_)))
      rw [beq_self_eq_true]
      unfold iplaw_World_SameOutput.B1
      have nx5 : Next w a σ σ N w5 := (Next.refl h).ext0 (E2.trans he5)
      have hf5 := hf1'.ext0 he5
      refine Bm.neg rfl (keepOwn_ok (n := cap1) nx5.law (by omega) hf5.1 (by simp [U8]; omega) hcb1 (nx5.law.not hf5.1 (by decide)) (h.fresh (by omega)) fun σ2 w6 hk6 => ?_)
      have nx6 := nx5.keep hk6 (by omega)
      unfold iplaw_World_SameOutput.L1
      refine ⟨fun m a' b' l' c' b2 l2 c2 i w' => some ⟨a, 0, none⟩ = a' ∧ none = b' ∧ 0 = l' ∧ 0 = c' ∧ w6 = w' ∧ i = 0, 0, ⟨rfl, rfl, rfl, rfl, rfl, rfl⟩, ?_⟩
      rintro m a' b' l' c' b2 l2 c2 i w' ⟨rfl, rfl, rfl, rfl, rfl, rfl⟩
      unfold iplaw_World_SameOutput.L1b
      refine Bm.neg rfl ?_
      unfold iplaw_World_SameOutput.L2
      refine ⟨fun m a' b' l' c' b2 l2 c2 i w' => some ⟨a, 0, none⟩ = a' ∧ none = b' ∧ 0 = l' ∧ 0 = c' ∧ w6 = w' ∧ i = 0, 0, ⟨rfl, rfl, rfl, rfl, rfl, rfl⟩, ?_⟩
      rintro m a' b' l' c' b2 l2 c2 i w' ⟨rfl, rfl, rfl, rfl, rfl, rfl⟩
      unfold iplaw_World_SameOutput.L2b
      exact Bm.neg rfl (lawOwnOut_zero (hR _ _ (nx6.up (by omega))))
    · rw [hcr] at hok
      exact absurd hok herr
  · obtain ⟨hl40, hcpos, hdst, hprt⟩ := outErr_zero hok
    have hcnt := cntF_le hl40
    have hpq : σ.P c.toNat ∉ (σ.M c.toNat).foot (σ.Q c.toNat) := fun hk => by
      obtain ⟨cs', t', ho', ht'⟩ := hm2.footTy hk
      have e := (Own.unique hp2 ho').2
      rcases ht' with e2 | e2 | e2 <;> rw [e2] at e <;> exact absurd e (by decide)
    have hqf : σ.Q c.toNat ∈ (σ.M c.toNat).foot (σ.Q c.toNat) := by simp [MS.foot]
    have hpa : a ≠ σ.P c.toNat := Own.ne_type h2.own hp2 (by decide)
    have hown3 := he3.own h2.own (by simpa using hpa)
    have hm3 : ModAt w3 (σ.Q c.toNat) (σ.M c.toNat) := hm2.ext he3 (fun k hk hx => by
      simp at hx
      subst hx
      exact hpq hk)
    have hf2' := hf2.ext he3 (by have := Own.ne_type hf2.1 hp2 (by decide); simpa using this)
    have hz3 := he3.size
    refine Pn.mk ⟨⟨c0, by omega⟩, LdP.cell (by rw [add_mk, add_mk, Nat.mul_one, Nat.zero_add]; exact cellQ hown3 hcn) (modOutput_ok hm3 (by rw [hsame.1]; exact hnum.addr) (by rw [hsame.2.1]; exact hnum.next) (by rw [hcr]; exact hnum.credit) hf2'.rd hsB (by omega) (by omega) (fun k o e => ?_) (fun herr' => ?_) fun hok' ob' oc' vs w4 hrow4 hfr4 hit4 hm4 he4 => ?_)⟩
    · simp only [Option.some.injEq, Addr.mk.injEq] at e
      rw [← e.1]
      exact Own.ne_type hf2'.1 hm3.own (by decide)
    · rw [hcr] at herr'
      exact absurd hok herr'
    rw [hsame.1, hsame.2.1] at hit4
    generalize hP : pktF proto (σ.S c.toNat).addr dst (σ.S c.toNat).next (strB data) = P at hh3 hit4
    have hPl : ∀ i, 8 ≤ (P i).length ∧ (P i).length ≤ 48 := fun i => by rw [← hP]; exact pktF_len (by omega)
    generalize hn : cntF data.size = cnt at hcnt hh3 hit4 hrow4
    have hpQ : σ.P c.toNat ≠ σ.Q c.toNat := fun e => hpq (e ▸ hqf)
    have hr4 : RealAt w4 (σ.P c.toNat) { (σ.S c.toNat) with next := ((σ.S c.toNat).next + 1) % 256, credit := (σ.S c.toNat).credit - 1 } := he4.own hr3 (by simpa using hpQ)
    have hz4 := he4.size
    have hrel2 := h2.rel _ hcn
    have hn0 := hnum.next
    have hc00 := hnum.credit
    have nx4 := h2.stepped hcn (S := { (σ.S c.toNat) with next := ((σ.S c.toNat).next + 1) % 256, credit := (σ.S c.toNat).credit - 1 }) (M := { (σ.M c.toNat) with next := ((σ.M c.toNat).next + 1) % 256, credit := (σ.M c.toNat).credit - 1 })
      ((he3.mono (fun x hx _ => by simp at hx; simp [hx])).trans (he4.mono (fun x hx _ => by simp at hx; rw [hx]; exact List.mem_cons_of_mem _ hqf))) hr4 hm4 ⟨hrel2.perm, hrel2.sorted, hrel2.kne, hrel2.swf, hrel2.rwf⟩ ⟨hnum.addr, ⟨by show 0 ≤ ((σ.S c.toNat).next + 1) % 256; omega, by show ((σ.S c.toNat).next + 1) % 256 < 256; omega⟩, ⟨by show 0 ≤ (σ.S c.toNat).credit - 1; omega, by show (σ.S c.toNat).credit - 1 ≤ 24; omega⟩⟩ ⟨hsame.1, by show ((σ.M c.toNat).next + 1) % 256 = ((σ.S c.toNat).next + 1) % 256; rw [hsame.2.1], by show (σ.M c.toNat).credit - 1 = (σ.S c.toNat).credit - 1; rw [hcr]⟩ (Grew.refl _ _)
    have nx4' := nx4.pre E2
    generalize hσ4 : σ.setN c.toNat { (σ.S c.toNat) with next := ((σ.S c.toNat).next + 1) % 256, credit := (σ.S c.toNat).credit - 1 } { (σ.M c.toNat) with next := ((σ.M c.toNat).next + 1) % 256, credit := (σ.M c.toNat).credit - 1 } = σ4 at nx4 nx4'
    have hft4 : ∀ k ∈ σ4.foot a, k < w2.heap.size := fun k hk => by
      refine h2.lt (mem_foot.2 ?_)
      rw [← hσ4] at hk
      rcases mem_foot.1 hk with e | e | ⟨c', hc', e⟩ | e
      · exact .inl e
      · exact .inr (.inl e)
      · refine .inr (.inr (.inl ⟨c', hc', ?_⟩))
        have hQ : ∀ S M, (σ.setN c.toNat S M).Q = σ.Q := fun _ _ => rfl
        rw [hQ] at e
        by_cases ec : c' = c.toNat
        · subst ec
          simpa [LS.setN, updF, MS.foot] using e
        · simpa [LS.setN, updF, ec] using e
      · exact .inr (.inr (.inr e))
    have hnk4 : ∀ k, w.heap.size ≤ k → NotKept σ4 k := fun k hk => by
      rw [← hσ4]
      exact h.fresh hk
    -- the answers in w4
    have t57 : ∀ {k : Nat} {cs : Array Value} {t : TypeId}, Own w3 k cs t → t ≠ 57 → k ∉ [σ.Q c.toNat] := fun {k cs t} ho ht hx => by
      simp at hx
      subst hx
      exact ht (ho.unique hm3.own).2
    have oob4 := he4.own hh3.1 (t57 hh3.1 (by decide))
    have hbf4 : ∀ j, j < cnt → Bf w4 (K j) (P j) ∧ w2.heap.size ≤ K j ∧ K j < w3.heap.size := fun j hj => ⟨(hh3.2.1 j hj).1.ext he4 (t57 (hh3.2.1 j hj).1.1 (by decide)), (hh3.2.1 j hj).2, (hh3.2.1 j hj).1.lt⟩
    have hobl := hh3.1.lt
    have hf1_3 := hf1'.ext he3 (by have := Own.ne_type hf1'.1 hp2 (by decide); simpa using this)
    have hf1_4 : Bf w4 k1 (strB data ++ z1) := hf1_3.ext he4 (t57 hf1_3.1 (by decide))
    refine untouched_ok nx4.law (by omega) fun w5 he5 => Bm.neg rfl (Bm.neg (by simp) (Bm.neg (by simp) (toStr_str (hf1_4.ext0 he5).rd rfl ?_)))
    rw [beq_self_eq_true]
    unfold iplaw_World_SameOutput.B1
    have nx5 := nx4'.ext0 he5
    have hf5 := hf1_4.ext0 he5
    refine Bm.neg rfl (keepOwn_ok (n := cap1) nx5.law (by omega) hf5.1 (by simp [U8]; omega) hcb1 (nx5.law.not hf5.1 (by decide)) (hnk4 k1 (by omega)) fun σ6 w6 hk6 => ?_)
    have nx6 := nx5.keep hk6 (by omega)
    have hz5 := he5.size
    have hz6 := hk6.ext.size
    -- the answers in w6
    have old6 : ∀ k, w2.heap.size ≤ k → k ∉ k1 :: σ4.foot a := fun k hk hx => by
      rcases List.mem_cons.1 hx with e | hx
      · omega
      · have := hft4 k hx
        omega
    have oob6 := hk6.ext.own (he5.own oob4 (by simp)) (old6 ob hob)
    have hbf6 : ∀ j, j < cnt → Bf w6 (K j) (P j) := fun j hj => ((hbf4 j hj).1.ext0 he5).ext hk6.ext (old6 _ (hbf4 j hj).2.1)
    have hrow6 := (hrow4.ext he5 (fun _ _ h => by cases h)).ext hk6.ext (fun k hk => old6 k (by have := hfr4 k hk; omega))
    have hit6 : ∀ j, j < cnt → ∃ v, vs[j]? = some v ∧ MItem w3.heap.size w6 v (P j) := fun j hj => by
      obtain ⟨v, e1, e2⟩ := hit4 j hj
      refine ⟨v, e1, (e2.ext he5 (fun k hk => by cases hk)).ext hk6.ext (fun k hk _ hk3 cs ho => ?_)⟩
      exact old6 k (by omega) hk
    have hnf6 : ∀ k, w2.heap.size ≤ k → k < w5.heap.size → k ∉ σ6.foot a := fun k hk hlt hx => by
      rcases hk6.grew k hx with q | q
      · have := hft4 k q
        omega
      · omega
    have hnk6 : ∀ k, w2.heap.size ≤ k → NotKept σ6 k := fun k hk => hk6.not k (by omega) (hnk4 k (by omega))
    -- the comparison
    unfold iplaw_World_SameOutput.L1
    refine ⟨fun m a' b' l' c' b2 l2 c2 i w' => some ⟨a, 0, none⟩ = a' ∧ some ⟨ob, 0, none⟩ = b' ∧ cnt = l' ∧ cnt = c' ∧ ob' = b2 ∧ cnt = l2 ∧ oc' = c2 ∧ 0 ≤ i ∧ i ≤ cnt ∧ m = (cnt - i).toNat ∧ Ext [] w6 w', cnt, ⟨rfl, rfl, rfl, rfl, rfl, rfl, rfl, by omega, by omega, by omega, Ext.refl _ _⟩, ?_⟩
    rintro m a' b' l' c' b2 l2 c2 i w' ⟨rfl, rfl, rfl, rfl, rfl, rfl, rfl, i0, i1, rfl, hE⟩
    unfold iplaw_World_SameOutput.L1b
    have hrow6l := hrow6.1
    refine Bm.ite (fun hi => ?_) (fun hi => ?_)
    · have hEd : Ext [] w6 w'.drew := hE.trans (Ext.drew [] w')
      have oobd := hEd.own oob6 (by simp)
      have hin : i.toNat < cnt := by omega
      obtain ⟨v, hv, hvi⟩ := hit6 i.toNat hin
      obtain ⟨vb, vc, rfl, hvrow, hvb, _⟩ := hvi.ext hEd (fun k hk => by cases hk)
      have hrowd := hrow6.ext hEd (fun _ _ h => by cases h)
      obtain ⟨kb, rfl, cs, hokb, hcb⟩ := hrowd.at (i := i.toNat) (by omega) (by omega)
      have hbfd := (hbf6 i.toNat hin).ext0 hEd
      have hcell1 : w'.drew.cell? ⟨ob, i.toNat, none⟩ = some (sv (K i.toNat) (P i.toNat).length) := by
        refine oobd.cell ?_
        rw [fnArr_get _ hin, if_pos hin]
      have hcell2 : w'.drew.cell? ⟨kb, i.toNat, none⟩ = some (.slice vb (P i.toNat).length vc) := by
        rw [hokb.cell_eq]
        have := hcb 0 (by omega)
        rw [Nat.mul_one, Nat.add_zero] at this
        rw [this, hv]
      refine Pn.mk ⟨⟨i0, by omega⟩, LdL.cell (by rw [add_mk, Nat.zero_add, Nat.mul_one]; exact hcell1) (Pn.mk ⟨⟨i0, by omega⟩, LdL.cell (by rw [add_mk, Nat.zero_add, Nat.mul_one]; exact hcell2) ?_⟩)⟩
      have fin : iplaw_World_SameOutput.B2 (some ⟨a, 0, none⟩) (some ⟨ob, 0, none⟩) cnt cnt (some ⟨kb, 0, none⟩) cnt oc' i (!((bStr (P i.toNat)).toList == (bStr (P i.toNat)).toList)) w'.drew (fun a' b' l' c' b2 l2 c2 i' w'' => ∃ m', m' < (cnt - i).toNat ∧ some ⟨a, 0, none⟩ = a' ∧ some ⟨ob, 0, none⟩ = b' ∧ cnt = l' ∧ cnt = c' ∧ some ⟨kb, 0, none⟩ = b2 ∧ cnt = l2 ∧ oc' = c2 ∧ 0 ≤ i' ∧ i' ≤ cnt ∧ m' = (cnt - i').toNat ∧ Ext [] w6 w'') R := by
        rw [beq_self_eq_true]
        unfold iplaw_World_SameOutput.B2
        refine Bm.neg rfl ?_
        rw [w64 (by omega) (by omega)]
        exact ⟨(cnt - (i + 1)).toNat, by omega, rfl, rfl, rfl, rfl, rfl, rfl, rfl, by omega, by omega, rfl, hEd⟩
      exact ⟨toStr_rd hbfd.rd0 rfl ⟨by rw [add_mk, Nat.zero_add, Nat.mul_one]; exact hcell2, toStr_rd (Row.rd hvrow hvb) rfl fin⟩, toStr_rd (Row.rd hvrow hvb) rfl ⟨by rw [add_mk, Nat.zero_add, Nat.mul_one]; exact hcell1, toStr_rd hbfd.rd0 rfl fin⟩⟩
    -- the keeping
    unfold iplaw_World_SameOutput.L2
    have base : ∀ j, j < cnt → w2.heap.size ≤ K j ∧ K j < w3.heap.size := fun j hj => (hbf4 j hj).2
    refine ⟨fun m a' b' l' c' b2 l2 c2 i w' => some ⟨a, 0, none⟩ = a' ∧ some ⟨ob, 0, none⟩ = b' ∧ cnt = l' ∧ cnt = c' ∧ ob' = b2 ∧ cnt = l2 ∧ oc' = c2 ∧ 0 ≤ i ∧ i ≤ cnt ∧ m = (cnt - i).toNat ∧ ∃ σ', Next w a σ σ' (N + 1 + 2 * i) w' ∧ Own w' ob (fnArr cnt fun j => if j < cnt then sv (K j) (P j).length else .slice none 0 0) 68 ∧ ob ∉ σ'.foot a ∧ NotKept σ' ob ∧
        (∀ j : Nat, i ≤ j → j < cnt → Bf w' (K j) (P j) ∧ NotKept σ' (K j)) ∧ Row w' ob' cnt oc' 1 68 vs ∧ (∀ k ∈ rowBlk ob', k ∉ σ'.foot a) ∧ (∀ j, j < cnt → ∃ v, vs[j]? = some v ∧ MItem w3.heap.size w' v (P j)) ∧ w6.heap.size ≤ w'.heap.size, cnt,
      ⟨rfl, rfl, rfl, rfl, rfl, rfl, rfl, by omega, by omega, by omega, σ6, ((nx6.ext0 hE).up (by omega)), hE.own oob6 (by simp), hnf6 ob hob (by omega), hnk6 ob hob, fun j _ hj => ⟨(hbf6 j hj).ext0 hE, hnk6 _ (base j hj).1⟩, hrow6.ext hE (fun _ _ h => by cases h), fun k hk => hnf6 k (by have := hfr4 k hk; omega) (by obtain ⟨_, ho⟩ := rowTy hrow4 hk; have := ho.lt; omega), fun j hj => by
        obtain ⟨v, e1, e2⟩ := hit6 j hj
        exact ⟨v, e1, e2.ext hE (fun k hk => by cases hk)⟩, hE.size⟩, ?_⟩
    rintro m a' b' l' c' b2 l2 c2 i w7 ⟨rfl, rfl, rfl, rfl, rfl, rfl, rfl, i0, i1, rfl, σ7, nx7, oob7, hobF7, hobK7, hbf7, hrow7, hobF7', hit7, hz67⟩
    unfold iplaw_World_SameOutput.L2b
    refine Bm.ite (fun hi => ?_) (fun hi => ?_)
    · have hin : i.toNat < cnt := by omega
      have h7 := nx7.law
      have h7d := h7.ext0 (Ext.drew [] w7)
      have hc0 := h7.cnt 0 (by omega)
      obtain ⟨v, hv, hvi⟩ := hit7 i.toNat hin
      obtain ⟨vb, vc, rfl, hvrow, hvb, hvf⟩ := hvi.ext (Ext.drew [] w7) (fun k hk => by cases hk)
      have hrowd := hrow7.ext (Ext.drew [] w7) (fun _ _ h => by cases h)
      obtain ⟨kb, rfl, cs, hokb, hcb⟩ := hrowd.at (i := i.toNat) (by omega) (by omega)
      have hcell2 : w7.drew.cell? ⟨kb, i.toNat, none⟩ = some (.slice vb (P i.toNat).length vc) := by
        rw [hokb.cell_eq]
        have := hcb 0 (by omega)
        rw [Nat.mul_one, Nat.add_zero] at this
        rw [this, hv]
      have hpl4 : w7.drew.cell? ⟨a, 4, none⟩ = some (.slice (σ7.ls 0).b (σ7.ls 0).n (σ7.ls 0).c) := h7d.len (i := 0) (by omega)
      refine Pn.mk (LdL.cell (by rw [add_mk, Nat.zero_add]; exact hpl4) (Pn.mk ⟨⟨i0, by omega⟩, LdL.cell (by rw [add_mk, Nat.zero_add, Nat.mul_one]; exact hcell2) (toStr_rd (Row.rd hvrow hvb) rfl ⟨by rw [add_mk, Nat.zero_add]; exact hpl4, New.mk fun nb w8 hnb hs8 onb he8 => ⟨?_, ?_⟩⟩)⟩))
      · rw [add_mk, Nat.zero_add]
        exact (h7d.ext0 he8).len (i := 0) (by omega)
      have h8 := h7d.ext0 he8
      have hzd : w7.drew.heap.size = w7.heap.size := rfl
      have hsl : (bStr (P i.toNat)).size ≤ 140737488351232 := by
        rw [bStr_size]
        have := (hPl i.toNat).2
        omega
      refine Vc.Append.mk (news := [.string (bStr (P i.toNat))]) (h8.row 0 (by omega)) (CellsAt.own onb (fun j v hj => by simpa using hj)) rfl rfl rfl (by omega) (by omega) fun lb' lc' w9 hrow9 hE9 hb9 => Pn.mk ?_
      have ha9 : a ∉ rowBlk (σ7.ls 0).b := fun hx => by
        obtain ⟨_, ho'⟩ := rowTy (h8.row 0 (by omega)) hx
        exact Own.ne_type h8.own ho' (by decide) rfl
      have hown9 := hE9.own h8.own ha9
      rw [add_mk, Nat.zero_add]
      refine Sts.mk hown9 (by rw [fnArr_size]; simp) rfl fun w10 hs10 ho10 he10 => ?_
      have hz8 := he8.size
      have hz9 := hE9.size
      have E10 : Ext (nb :: a :: rowBlk (σ7.ls 0).b) w7 w10 := ((((Ext.drew _ w7).trans he8.nil).trans (hE9.mono (fun x hx _ => by simp [hx]))).trans (he10.mono (fun x hx _ => by simp at hx; simp [hx])))
      have hrow10 : Row w10 lb' ((σ7.ls 0).n + 1) lc' 1 9 ((σ7.ls 0).vs ++ [.string (bStr (P i.toNat))]) := hrow9.ext he10 (fun x hx hx2 => by
        simp at hx2
        subst hx2
        obtain ⟨_, ho'⟩ := rowTy hrow9 hx
        exact Own.ne_type hown9 ho' (by decide) rfl)
      obtain ⟨σ8, nx8, hnk8⟩ := h7.pool1 hsl (nb := nb) (by omega) ho10 hrow10 E10 (fun x hx => by
        rcases hb9 x hx with q | q
        · exact .inl q
        · exact .inr (by omega))
      have hlaw8 := nx8.law
      have apart10 : ∀ k, k < w7.heap.size → k ∉ σ7.foot a → k ∉ nb :: a :: rowBlk (σ7.ls 0).b := fun k hlt hk hx => by
        rcases List.mem_cons.1 hx with e | hx
        · omega
        rcases List.mem_cons.1 hx with e | hx
        · exact hk (mem_foot.2 (.inl e))
        · exact hk (mem_foot.2 (.inr (.inr (.inr ⟨0, by omega, hx⟩))))
      have oob10 := E10.own oob7 (apart10 ob oob7.lt hobF7)
      have hK10 : ∀ j : Nat, i ≤ j → j < cnt → Bf w10 (K j) (P j) := fun j h1 h2 => (hbf7 j h1 h2).1.ext E10 (apart10 _ (hbf7 j h1 h2).1.lt (h7.not (hbf7 j h1 h2).1.1 (by decide)))
      have hcell1 : w10.cell? ⟨ob, i.toNat, none⟩ = some (sv (K i.toNat) (P i.toNat).length) := by
        refine oob10.cell ?_
        rw [fnArr_get _ hin, if_pos hin]
      have hrow7' := hrow7.ext E10 (fun k hk => apart10 k (hrow7.lt k hk) (hobF7' k hk))
      have hit10 : ∀ j, j < cnt → ∃ v, vs[j]? = some v ∧ MItem w3.heap.size w10 v (P j) := fun j hj => by
        obtain ⟨v', e1, e2⟩ := hit7 j hj
        refine ⟨v', e1, e2.ext E10 (fun k hk hlt _ cs ho => ?_)⟩
        exact apart10 k hlt (h7.not ho (by decide)) hk
      have hKi := hK10 i.toNat (by omega) hin
      have hkn := (hbf7 i.toNat (by omega) hin).2
      refine Pn.mk ⟨⟨i0, by omega⟩, LdL.cell (by rw [add_mk, Nat.zero_add, Nat.mul_one]; exact hcell1) (keepOwn_ok hlaw8 (by omega) hKi.1 (by simp [U8]) (by have := (hPl i.toNat).2; omega) (hlaw8.not hKi.1 (by decide)) (hnk8 _ hkn) fun σ9 w11 hk11 => ?_)⟩
      rw [w64 (by omega) (by omega)]
      have nx8' := nx7.trans nx8
      have hKb := base i.toNat hin
      have nx9 := nx8'.keep hk11 (by omega)
      have hz10 := E10.size
      have hz11 := hk11.ext.size
      have grow8 : ∀ k, k < w7.heap.size → k ∉ σ7.foot a → k ∉ σ8.foot a := fun k hlt hk hx => by
        rcases nx8.grew k hx with q | q
        · exact hk q
        · omega
      have grow9 : ∀ k, k < w10.heap.size → k ∉ σ8.foot a → k ∉ σ9.foot a := fun k hlt hk hx => by
        rcases hk11.grew k hx with q | q
        · exact hk q
        · omega
      have notK : ∀ k, k ∉ σ8.foot a → k ≠ K i.toNat → k ∉ K i.toNat :: σ8.foot a := fun k hk hne hx => by
        rcases List.mem_cons.1 hx with e | hx
        · exact hne e
        · exact hk hx
      have hobne : ob ≠ K i.toNat := Own.ne_type oob10 hKi.1 (by decide)
      have hob8 := grow8 ob oob7.lt hobF7
      have hKne : ∀ j : Nat, i + 1 ≤ j → j < cnt → K j ≠ K i.toNat := fun j h1 h2 e => by
        exact hh3.2.2 j i.toNat h2 hin (by omega) e
      refine ⟨(cnt - (i + 1)).toNat, by omega, rfl, rfl, rfl, rfl, rfl, rfl, rfl, by omega, by omega, rfl, σ9, nx9.up (by omega), hk11.ext.own oob10 (notK ob hob8 hobne), grow9 ob oob10.lt hob8, hk11.not ob hobne (hnk8 ob hobK7), fun j h1 h2 => ⟨(hK10 j (by omega) h2).ext hk11.ext (notK _ (hlaw8.not (hK10 j (by omega) h2).1 (by decide)) (hKne j h1 h2)), hk11.not _ (hKne j h1 h2) (hnk8 _ (hbf7 j (by omega) h2).2)⟩, hrow7'.ext hk11.ext (fun k hk => ?_), fun k hk => ?_, fun j hj => ?_, by omega⟩
      · obtain ⟨_, hok⟩ := rowTy hrow7' hk
        exact notK k (grow8 k (hrow7.lt k hk) (hobF7' k hk)) (Own.ne_type hok hKi.1 (by decide))
      · exact grow9 k (hrow7'.lt k hk) (grow8 k (hrow7.lt k hk) (hobF7' k hk))
      · obtain ⟨v', e1, e2⟩ := hit10 j hj
        refine ⟨v', e1, e2.ext hk11.ext (fun k hk hlt hk3 cs ho => ?_)⟩
        exact notK k (hlaw8.not ho (by decide)) (by omega) hk
    · have hic : i = cnt := by omega
      exact keepOut_ok nx7.law (by omega) oob7 (by rw [fnArr_size]) (by omega) hobF7 hobK7 fun σ8 w8 hk8 => hR _ _ ((nx7.keep hk8 (by omega)).up (by omega))
end
end Go.Proofs.Qxb6500425a
