/-
  ip: the law keeps; SameInput.
-/
import Derived.Test.Qxb6500425aLawC
import Derived.Test.Qxb6500425aStrs
set_option linter.unusedVariables false
set_option linter.unusedSimpArgs false
open Go.Vc
namespace Go.Proofs.Qxb6500425a

def NotKept (σ : LS) (k : Nat) : Prop := ∀ j, 1 ≤ j → j < 5 → KeptNot k (σ.ls j).vs
structure KeepR (w : World) (a : Nat) (σ : LS) (N : Int) (k : Nat) (σ' : LS) (w' : World) : Prop where
  law : LawAt w' a σ' (N + 1)
  ext : Ext (k :: σ.foot a) w w'
  grew : Grew w (σ.foot a) (σ'.foot a)
  not : ∀ k', k' ≠ k → NotKept σ k' → NotKept σ' k'
section
variable {w w' : World} {a : Nat} {σ : LS} {N : Int}
theorem LawAt.fresh (h : LawAt w a σ N) {k : Nat} (hk : w.heap.size ≤ k) : NotKept σ k := fun j h1 h5 => (h.kept j h1 h5).fresh hk
theorem LawAt.keep (h : LawAt w a σ N) {i k n : Nat} (h1 : 1 ≤ i) (hi : i < 5) (hkl : k < w.heap.size) (hkF : k ∉ σ.foot a) (hkn : NotKept σ k) (hn : n ≤ 9223372036854775807) {lb' : Option Addr} {lc' : Nat} (ho : Own w' a (putArr (fnArr 9 (lawCell σ)) (4 + i) [.slice lb' ((σ.ls i).n + 1) lc']) 43) (hrow : Row w' lb' ((σ.ls i).n + 1) lc' 1 (lT i) ((σ.ls i).vs ++ [.slice (some ⟨k, 0, none⟩) n n]))
    (hst : Own w' k (stampArr n (lS i) (lR i)) (lE i)) (he : Ext (k :: a :: rowBlk (σ.ls i).b) w w') (hgr : ∀ x ∈ rowBlk lb', x ∈ rowBlk (σ.ls i).b ∨ w.heap.size ≤ x) : ∃ σ', KeepR w a σ N k σ' w' := by
  let x : KL := ⟨lb', (σ.ls i).n + 1, lc', (σ.ls i).vs ++ [.slice (some ⟨k, 0, none⟩) n n]⟩
  have hown : Own w' a (fnArr 9 (lawCell (σ.setL i x))) 43 := by
    have ex : Value.slice lb' ((σ.ls i).n + 1) lc' = x.val := rfl
    rw [ex, putArr_fn (by simp; omega), fnArr_congr (put_list σ hi x)] at ho
    exact ho
  have hkG : k ∉ (σ.setL i x).foot a := fun hx => by
    have hx' : k ∈ (σ.setL i x).foot a := hx
    rcases mem_foot.1 hx' with e | e | e | ⟨j, hj, e⟩
    · exact hkF (mem_foot.2 (.inl e))
    · exact hkF (mem_foot.2 (.inr (.inl e)))
    · exact hkF (mem_foot.2 (.inr (.inr (.inl e))))
    · by_cases ej : j = i
      · subst ej
        rw [setL_same] at e
        rcases hgr k e with q | q
        · exact hkF (mem_foot.2 (.inr (.inr (.inr ⟨j, hj, q⟩))))
        · omega
      · rw [setL_ne _ _ ej] at e
        exact hkF (mem_foot.2 (.inr (.inr (.inr ⟨j, hj, e⟩))))
  have hcG : ∀ j, j < 5 → (((σ.setL i x).ls j).n : Int) ≤ N + 1 := fun j hj => by
    by_cases ej : j = i
    · subst ej
      rw [setL_same]
      have := h.cnt j hj
      show (((σ.ls j).n + 1 : Nat) : Int) ≤ N + 1
      omega
    · rw [setL_ne _ _ ej]
      have := h.cnt j hj
      omega
  obtain ⟨hg, hl⟩ := h.grow (x := x) hi he hown hrow hgr hkF hkn (fun e => by omega) (fun _ hK => hK.add hst hkG hn) hcG
  · refine ⟨σ.setL i x, hl, he.mono (fun y hy _ => ?_), hg, fun k' hne hk' j hj1 hj5 b n' c hv e => ?_⟩
    · rcases List.mem_cons.1 hy with e | hy
      · exact e ▸ List.mem_cons_self ..
      refine List.mem_cons_of_mem _ ?_
      rcases List.mem_cons.1 hy with e | hy
      · exact mem_foot.2 (.inl e)
      · exact mem_foot.2 (.inr (.inr (.inr ⟨i, hi, hy⟩)))
    · by_cases ej : j = i
      · subst ej
        rw [setL_same] at hv
        rcases List.mem_append.1 hv with q | q
        · exact hk' j hj1 hj5 b n' c q e
        · simp only [List.mem_cons, Value.slice.injEq, Option.some.injEq, Addr.mk.injEq, and_true, List.not_mem_nil, or_false] at q
          omega
      · rw [setL_ne _ _ ej] at hv
        exact hk' j hj1 hj5 b n' c hv e
theorem KeepR.refl (h : LawAt w a σ N) (k : Nat) : KeepR w a σ N k σ w := ⟨h.up (by omega), Ext.refl _ _, Grew.refl _ _, fun _ _ hk => hk⟩
theorem keepOwn_ok {k n l : Nat} {cs : Array Value} {R : World → Prop} (h : LawAt w a σ N) (hN : N ≤ 90000000) (hk : Own w k cs 5) (hcs : cs.size = n) (hn : n ≤ 9223372036854775807) (hkF : k ∉ σ.foot a) (hkn : NotKept σ k) (hR : ∀ σ' w', KeepR w a σ N k σ' w' → R w') : iplaw_World_Own.Call (some ⟨a, 0, none⟩) (some ⟨k, 0, none⟩) l n w R := by
  have hc := h.cnt 1 (by omega)
  refine lawOwn_ok h.own (h.cellL (i := 1) (by omega)) (h.row 1 (by omega)) hk (by omega) hn (fun e => hkF (mem_foot.2 (.inl e))) (fun hx => hkF (mem_foot.2 (.inr (.inr (.inr ⟨1, by omega, hx⟩))))) (by omega) (fun _ => hR σ w (KeepR.refl h k)) fun _ lb' lc' w' ho hrow hst he hgr => ?_
  obtain ⟨σ', hσ⟩ := h.keep (i := 1) (by omega) (by omega) hk.lt hkF hkn hn ho hrow hst he hgr
  exact hR σ' w' hσ
theorem keepRows_ok {k n l : Nat} {cs : Array Value} {R : World → Prop} (h : LawAt w a σ N) (hN : N ≤ 90000000) (hk : Own w k cs 70) (hcs : cs.size = n * 6) (hn : n ≤ 9223372036854775807) (hkF : k ∉ σ.foot a) (hkn : NotKept σ k) (hR : ∀ σ' w', KeepR w a σ N k σ' w' → R w') : iplaw_World_OwnRows.Call (some ⟨a, 0, none⟩) (some ⟨k, 0, none⟩) l n w R := by
  have hc := h.cnt 2 (by omega)
  refine lawOwnRows_ok h.own (h.cellL (i := 2) (by omega)) (h.row 2 (by omega)) hk hcs hn (fun e => hkF (mem_foot.2 (.inl e))) (fun hx => hkF (mem_foot.2 (.inr (.inr (.inr ⟨2, by omega, hx⟩))))) (by omega) (fun _ => hR σ w (KeepR.refl h k)) fun _ lb' lc' w' ho hrow hst he hgr => ?_
  obtain ⟨σ', hσ⟩ := h.keep (i := 2) (by omega) (by omega) hk.lt hkF hkn hn ho hrow hst he hgr
  exact hR σ' w' hσ
theorem keepNums_ok {k n l : Nat} {cs : Array Value} {R : World → Prop} (h : LawAt w a σ N) (hN : N ≤ 90000000) (hk : Own w k cs 3) (hcs : cs.size = n) (hn : n ≤ 9223372036854775807) (hkF : k ∉ σ.foot a) (hkn : NotKept σ k) (hR : ∀ σ' w', KeepR w a σ N k σ' w' → R w') : iplaw_World_OwnNums.Call (some ⟨a, 0, none⟩) (some ⟨k, 0, none⟩) l n w R := by
  have hc := h.cnt 3 (by omega)
  refine lawOwnNums_ok h.own (h.cellL (i := 3) (by omega)) (h.row 3 (by omega)) hk (by omega) hn (fun e => hkF (mem_foot.2 (.inl e))) (fun hx => hkF (mem_foot.2 (.inr (.inr (.inr ⟨3, by omega, hx⟩))))) (by omega) (fun _ => hR σ w (KeepR.refl h k)) fun _ lb' lc' w' ho hrow hst he hgr => ?_
  obtain ⟨σ', hσ⟩ := h.keep (i := 3) (by omega) (by omega) hk.lt hkF hkn hn ho hrow hst he hgr
  exact hR σ' w' hσ
theorem keepOut_ok {k n l : Nat} {cs : Array Value} {R : World → Prop} (h : LawAt w a σ N) (hN : N ≤ 90000000) (hk : Own w k cs 68) (hcs : cs.size = n) (hn : n ≤ 9223372036854775807) (hkF : k ∉ σ.foot a) (hkn : NotKept σ k) (hR : ∀ σ' w', KeepR w a σ N k σ' w' → R w') : iplaw_World_OwnOut.Call (some ⟨a, 0, none⟩) (some ⟨k, 0, none⟩) l n w R := by
  have hc := h.cnt 4 (by omega)
  refine lawOwnOut_ok h.own (h.cellL (i := 4) (by omega)) (h.row 4 (by omega)) hk (by omega) hn (fun e => hkF (mem_foot.2 (.inl e))) (fun hx => hkF (mem_foot.2 (.inr (.inr (.inr ⟨4, by omega, hx⟩))))) (by omega) (fun _ => hR σ w (KeepR.refl h k)) fun _ lb' lc' w' ho hrow hst he hgr => ?_
  obtain ⟨σ', hσ⟩ := h.keep (i := 4) (by omega) (by omega) hk.lt hkF hkn hn ho hrow hst he hgr
  exact hR σ' w' hσ

/-! ### steps composed -/
theorem Next.refl (h : LawAt w a σ N) : Next w a σ σ N w := ⟨h, Ext.refl _ _, Grew.refl _ _⟩
theorem Next.ext0 {σ' : LS} {w2 : World} (h : Next w a σ σ' N w') (he : Ext [] w' w2) : Next w a σ σ' N w2 := ⟨h.law.ext0 he, h.ext.trans he.nil, h.grew⟩
theorem Next.trans {σ' σ'' : LS} {N' : Int} {w2 : World} (h : Next w a σ σ' N w') (h' : Next w' a σ' σ'' N' w2) : Next w a σ σ'' N' w2 :=
  ⟨h'.law, h.ext.trans' h'.ext (fun x hx hlt => by
    rcases h.grew x hx with q | q
    · exact q
    · omega), h.grew.trans h.ext.size h'.grew⟩
theorem Next.keep {σ' σ'' : LS} {w2 : World} {k : Nat} (h : Next w a σ σ' N w') (h' : KeepR w' a σ' N k σ'' w2) (hk : w.heap.size ≤ k) : Next w a σ σ'' (N + 1) w2 :=
  ⟨h'.law, h.ext.trans' h'.ext (fun x hx hlt => by
    rcases List.mem_cons.1 hx with e | hx
    · omega
    rcases h.grew x hx with q | q
    · exact q
    · omega), h.grew.trans h.ext.size h'.grew⟩
theorem Next.pre {σ' : LS} {w0 : World} (he : Ext [] w0 w) (h : Next w a σ σ' N w') : Next w0 a σ σ' N w' := ⟨h.law, he.nil.trans h.ext, fun k hk => by
  rcases h.grew k hk with q | q
  · exact .inl q
  · exact .inr (by have := he.size; omega)⟩
theorem Next.up {σ' : LS} {N' : Int} (h : Next w a σ σ' N w') (hn : N ≤ N') : Next w a σ σ' N' w' := ⟨h.law.up hn, h.ext, h.grew⟩
theorem cellP {c : Nat} (ho : Own w a (fnArr 9 (lawCell σ)) 43) (hc : c < 2) : w.cell? ⟨a, c, none⟩ = some (.pointer (some ⟨σ.P c, 0, none⟩)) := by
  refine ho.cell ?_
  rw [fnArr_get _ (by omega)]
  unfold lawCell
  rw [if_pos hc]
theorem cellQ {c : Nat} (ho : Own w a (fnArr 9 (lawCell σ)) 43) (hc : c < 2) : w.cell? ⟨a, 2 + c, none⟩ = some (.pointer (some ⟨σ.Q c, 0, none⟩)) := by
  refine ho.cell ?_
  rw [fnArr_get _ (by omega)]
  unfold lawCell
  rw [if_neg (by omega), if_pos (by omega), show 2 + c - 2 = c by omega]

theorem inF_len (addr : Int) (A : List AR) (v : List Int) : (inF addr A v).data.length ≤ v.length + 40 := by
  have hn : ∀ e B, (noneR e B).data.length ≤ v.length + 40 := fun e B => by simp [noneR]
  have hf : ∀ r old, (fragR addr A v r old).data.length ≤ v.length + 40 := fun r old => by
    unfold fragR
    split
    · exact hn _ _
    split
    · have : (nextRow r v).cell.length = 40 := by simp [nextRow, layC]
      simp only [List.length_take]
      omega
    · exact hn _ _
  unfold inF
  split
  · exact hn _ _
  split
  · exact hn _ _
  split
  · exact hn _ _
  split
  · exact hn _ _
  split
  · exact hn _ _
  split
  · exact hn _ _
  split
  · exact hn _ _
  split
  · simp
    omega
  split
  · exact hf _ _
  split
  · exact hn _ _
  · exact hf _ _

theorem sameInput_ok {c : Int} {raw : ByteArray} {R : Bool → World → Prop} (h : LawAt w a σ N) (hN : N ≤ 80000000) (c0 : 0 ≤ c) (c2 : c < 2) (hsz : raw.size ≤ 140737488351232) (hR : ∀ σ' w', Next w a σ σ' (N + 2) w' → R true w') : iplaw_World_SameInput.Call (some ⟨a, 0, none⟩) c raw w R := by
  apply iplaw_World_SameInput.sound
  unfold iplaw_World_SameInput.B0
  have hcn : c.toNat < 2 := by omega
  have hsB := strB_length raw
  refine toBytes_ok2 (by omega) fun k1 cap1 w1 z1 hcap1 hcb1 hk1 hs1 hf1 he1 => toBytes_ok2 (by omega) fun k2 cap2 w2 z2 hcap2 hcb2 hk2 hs2 hf2 he2 => ?_
  have E2 : Ext [] w w2 := he1.trans he2
  have h2 := h.ext0 E2
  have hp2 := h2.real _ hcn
  have hm2 := h2.mod _ hcn
  have hf1' := hf1.ext0 he2
  have hz2 := E2.size
  refine Pn.mk ⟨⟨c0, by omega⟩, h2.ldP c0 c2 (realInput_ok hp2 (h2.rel _ hcn) hf1'.rd hsB (by omega) (by omega) (fun k o e => ?_) fun b' l' w3 hpost => ?_)⟩
  · simp only [Option.some.injEq, Addr.mk.injEq] at e
    rw [← e.1]
    exact Own.ne_type hf1'.1 hp2 (by decide)
  obtain ⟨S', hr3, hrel3, ea, en, ec, hbs3, hfr3, he3⟩ := hpost
  have hsame := h2.same _ hcn
  refine NewSet.mk rfl rfl fun dx w5 hdx hs5 odx he5 => ?_
  have E5 : Ext [σ.P c.toNat] w2 w5 := he3.trans he5.nil
  have hpa : a ≠ σ.P c.toNat := Own.ne_type h2.own hp2 (by decide)
  have hown5 := E5.own h2.own (by simpa using hpa)
  have hm5 : ModAt w5 (σ.Q c.toNat) (σ.M c.toNat) := hm2.ext E5 (fun k hk hx => by
    simp at hx
    subst hx
    obtain ⟨cs', t', ho', ht'⟩ := hm2.footTy hk
    have e := (Own.unique hp2 ho').2
    rcases ht' with e2 | e2 | e2 <;> rw [e2] at e <;> exact absurd e (by decide))
  have hf2' := hf2.ext E5 (by have := Own.ne_type hf2.1 hp2 (by decide); simpa using this)
  have hz3 := he3.size
  have hz5 := he5.size
  have hadr : (σ.M c.toNat).addr = (σ.S c.toNat).addr := hsame.1
  refine Pn.mk ⟨⟨c0, by omega⟩, LdP.cell (by rw [add_mk, add_mk, Nat.mul_one, Nat.zero_add]; exact cellQ hown5 hcn) (modInput_ok hm5 (h2.rel _ hcn).sorted (h2.rel _ hcn).rwf (rows_len (h2.rel _ hcn)) hf2'.rd hsB (by omega) (by omega) (fun k o e => ?_) fun b'' l'' c'' w6 hmp => ?_)⟩
  · simp only [Option.some.injEq, Addr.mk.injEq] at e
    rw [← e.1]
    exact ⟨_, hf2'.1⟩
  rw [hadr] at hmp ⊢
  obtain ⟨M', hm6, hrows6, ma, mn, mc, hrd6, hl6, he6, hg6, hty6⟩ := hmp
  generalize hrr : inF (σ.S c.toNat).addr (σ.M c.toNat).rows (strB raw) = r at hrel3 hbs3 hrows6 hrd6 hl6 odx
  refine NewSet.mk rfl rfl fun dm w8 hdm hs8 odm he8 => ?_
  have hz6 := he6.size
  have hz8 := he8.size
  have e26 : Ext (σ.P c.toNat :: (σ.M c.toNat).foot (σ.Q c.toNat)) w2 w8 := ((E5.mono (fun x hx _ => by simp at hx; simp [hx])).trans (he6.mono (fun x hx _ => List.mem_cons_of_mem _ hx))).trans he8.nil
  have hpq : σ.P c.toNat ∉ (σ.M c.toNat).foot (σ.Q c.toNat) := fun hk => by
    obtain ⟨cs', t', ho', ht'⟩ := hm2.footTy hk
    have e := (Own.unique hp2 ho').2
    rcases ht' with e2 | e2 | e2 <;> rw [e2] at e <;> exact absurd e (by decide)
  have hr8 : RealAt w8 (σ.P c.toNat) S' := he8.own (he6.own (he5.own hr3 (by simp)) hpq) (by simp)
  have nx8 : Next w2 a σ (σ.setN c.toNat S' M') N w8 := h2.stepped hcn e26 hr8 (hm6.ext0 he8) (by rw [hrows6]; exact hrel3) ⟨by rw [ea]; exact (h2.num _ hcn).addr, by rw [en]; exact (h2.num _ hcn).next, by rw [ec]; exact (h2.num _ hcn).credit⟩ ⟨by rw [ma, ea]; exact hsame.1, by rw [mn, en]; exact hsame.2.1, by rw [mc, ec]; exact hsame.2.2⟩ (fun k hk => by
    rcases hg6 k hk with q | q
    · exact .inl q
    · exact .inr (by omega))
  have nx8' := nx8.pre E2
  -- blocks of bytes and of answers lie apart from the step's
  have byT : ∀ {k : Nat} {cs : Array Value} {t : TypeId}, Own w5 k cs t → (t = 5 ∨ t = 81) → k ∉ (σ.M c.toNat).foot (σ.Q c.toNat) := fun {k cs t} ho ht hk => by
    obtain ⟨cs', t', ho', ht'⟩ := hm5.footTy hk
    have e := (Own.unique ho ho').2
    rcases ht with rfl | rfl <;> rcases ht' with e2 | e2 | e2 <;> rw [e2] at e <;> exact absurd e (by decide)
  have hf1_5 := hf1'.ext E5 (by have := Own.ne_type hf1'.1 hp2 (by decide); simpa using this)
  have hf1_8 : Bf w8 k1 (strB raw ++ z1) := (hf1_5.ext he6 (byT hf1_5.1 (.inl rfl))).ext0 he8
  have odx8 := he8.own (he6.own odx (byT odx (.inr rfl))) (by simp)
  have hbs5 := hbs3.ext0 he5
  have hbs8 : Bs w8 b' l' l' r.data := (hbs5.ext he6 (fun k e => by
    rcases hbs5.2 with ⟨e0, _⟩ | ⟨k', z, e', hb, _⟩
    · rw [e0] at e; cases e
    · rw [e'] at e
      simp only [Option.some.injEq, Addr.mk.injEq, and_true] at e
      rw [← e]
      exact byT hb.1 (.inl rfl))).ext0 he8
  have hrd8 := hrd6.ext0 he8
  refine untouched_ok nx8.law (by omega) fun w9 he9 => Bm.neg rfl (Bm.neg (by simp) (toStr_str (hf1_8.ext0 he9).rd rfl ?_))
  rw [beq_self_eq_true]
  unfold iplaw_World_SameInput.B1
  have nx9 := nx8'.ext0 he9
  have h9 := nx9.law
  have hf1_9 := hf1_8.ext0 he9
  have hnk : ∀ k, w.heap.size ≤ k → NotKept (σ.setN c.toNat S' M') k := fun k hk => h.fresh hk
  refine Bm.neg rfl (keepOwn_ok (n := cap1) h9 (by omega) hf1_9.1 (by simp [U8]; omega) hcb1 (h9.not hf1_9.1 (by decide)) (hnk k1 (by omega)) fun σ2 w10 hk10 => ?_)
  have nx10 := nx9.keep hk10 (by omega)
  -- what lies apart from the keeping
  have byK : ∀ {k : Nat} {cs : Array Value} {t : TypeId}, Own w9 k cs t → (t = 5 ∨ t = 81) → k ≠ k1 → k ∉ k1 :: (σ.setN c.toNat S' M').foot a := fun {k cs t} ho ht hne hx => by
    rcases List.mem_cons.1 hx with e | hx
    · exact hne e
    · exact h9.not ho (by rcases ht with rfl | rfl <;> decide) hx
  have odx9 := he9.own odx8 (by simp)
  have odm9 := he9.own odm (by simp)
  have odx10 := hk10.ext.own odx9 (byK odx9 (.inr rfl) (Own.ne_type odx9 hf1_9.1 (by decide)))
  have odm10 := hk10.ext.own odm9 (byK odm9 (.inr rfl) (Own.ne_type odm9 hf1_9.1 (by decide)))
  have hbs9 := hbs8.ext0 he9
  have hbs10 : Bs w10 b' l' l' r.data := hbs9.ext hk10.ext (fun k e => by
    rcases hbs9.2 with ⟨e0, _⟩ | ⟨k', z, e', hb, _⟩
    · rw [e0] at e; cases e
    · have := hfr3 k (by rw [e]; simp [rowBlk])
      rw [e'] at e
      simp only [Option.some.injEq, Addr.mk.injEq, and_true] at e
      subst e
      exact byK hb.1 (.inl rfl) (by omega))
  have hrd10 : Rd w10 b'' r.data := (hrd8.ext0 he9).ext hk10.ext (fun k o e => by
    obtain ⟨⟨cs, ho⟩, hk⟩ := hty6 k o e
    have ho9 := he9.own (he8.own ho (by simp)) (by simp)
    exact byK ho9 (.inl rfl) (by omega))
  have hll : l'' = l' := by rw [hl6]; exact hbs10.1.symm
  refine LdI.mk odx10 rfl (LdI.mk odm10 rfl (Bm.neg (by simp) (LdI.mk odx10 rfl (LdI.mk odm10 rfl (Bm.neg (by simp) (LdI.mk odx10 rfl (LdI.mk odm10 rfl (Bm.neg (by simp) (LdL.mk odx10 rfl (toStr_rd hbs10.rd hbs10.1.symm (LdL.mk odm10 rfl (toStr_rd hrd10 hl6.symm ?_))))))))))))
  rw [beq_self_eq_true]
  unfold iplaw_World_SameInput.B2
  refine Bm.neg rfl (LdL.mk odx10 rfl ?_)
  rcases hbs10.2 with ⟨e0, e1, e2⟩ | ⟨k, z, e0, hb, e1⟩
  · rw [e0, e1]
    exact lawOwn_zero (hR _ _ (nx10.up (by omega)))
  · have hkf := hfr3 k (by rw [e0]; simp [rowBlk])
    rw [e0]
    have hl10 := hbs10.1
    refine keepOwn_ok hk10.law (by omega) hb.1 (by simp [U8]; omega) ?_ (hk10.law.not hb.1 (by decide)) (hk10.not k (by omega) (hnk k (by omega))) fun σ3 w11 hk11 => hR _ _ ((nx10.keep hk11 (by omega)).up (by omega))
    have : r.data.length ≤ 281474976710656 := by
      have hdl : r.data.length ≤ (strB raw).length + 40 := by
        rw [← hrr]
        exact inF_len _ _ _
      omega
    omega
end
end Go.Proofs.Qxb6500425a
