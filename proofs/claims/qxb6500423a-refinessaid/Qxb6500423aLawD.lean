/-
  Play, walk, and the two laws.
-/
import Derived.Test.Qxb6500423aLawC
import Derived.Test.Qxb6500423aScript
set_option linter.unusedVariables false
open Go.Vc
namespace Go.Proofs.Qxb6500423a

def updN (S : Nat → Nat) (c : Nat) (s : Nat) : Nat → Nat := fun i => if i = c then s else S i
/-- Node c built anew. -/
def LawS.renew (σ : LawS) (c p q : Nat) (x : Int) : LawS := { σ with P := updN σ.P c p, Q := updN σ.Q c q, S := upd σ.S c (freshLink x) }

theorem LawAt.renew {w w' : World} {a : Nat} {σ : LawS} {N : Int} {c p q : Nat} {x : Int} (h : LawAt w a σ N) (hN : 0 ≤ N) (hc : c < 2) (he : Ext [a] w w') (hp : RealAt w' p (freshLink x)) (hq : ModAt w' q (freshLink x)) (hp0 : w.heap.size ≤ p) (hq0 : w.heap.size ≤ q)
    (ho : Own w' a (putArr (putArr σ.cells c [pt p]) (2 + c) [pt q]) T_framelaw_World) : LawAt w' a (σ.renew c p q x) N := by
  have noa : ∀ {k : Nat} {cs : Array Value} {T : TypeId}, Own w k cs T → T ≠ T_framelaw_World → k ∉ [a] := fun {k cs T} hoo hT hk => by
    simp at hk
    exact Own.ne_type hoo h.own hT hk
  have nb : NoB w [a] := fun k hk cs hoo => noa hoo (by decide) hk
  have lp : ∀ i, i < 2 → σ.P i < w.heap.size := fun i hi => Own.lt (h.real i hi)
  have lq : ∀ i, i < 2 → σ.Q i < w.heap.size := fun i hi => Own.lt (h.mod i hi)
  have p0 := lp 0 (by omega)
  have p1 := lp 1 (by omega)
  have q0 := lq 0 (by omega)
  have q1 := lq 1 (by omega)
  refine ⟨?_, fun i hi => ?_, fun i hi => ?_, fun i hi => ?_, ?_, ?_, h.last.extT he nb, h.pay.extT he nb, h.good, h.mine.ext he (fun k hk => by obtain ⟨cs, ho⟩ := rowT h.mine hk; exact noa ho (by decide)), h.mark.ext he (fun k hk => by obtain ⟨cs, ho⟩ := rowT h.mark hk; exact noa ho (by decide)), h.apart, h.kept.extT he nb, h.cnt⟩
  · match c, hc with
    | 0, _ => exact ho
    | 1, _ => exact ho
  · show RealAt w' (updN σ.P c p i) (upd σ.S c _ i)
    unfold updN upd
    by_cases e : i = c
    · rw [if_pos e, if_pos e]; exact hp
    · rw [if_neg e, if_neg e]; exact he.own (h.real i hi) (noa (h.real i hi) (by decide))
  · show ModAt w' (updN σ.Q c q i) (upd σ.S c _ i)
    unfold updN upd
    by_cases e : i = c
    · rw [if_pos e, if_pos e]; exact hq
    · rw [if_neg e, if_neg e]; exact he.own (h.mod i hi) (noa (h.mod i hi) (by decide))
  · show (upd σ.S c _ i).Wf N
    unfold upd
    by_cases e : i = c
    · rw [if_pos e]; exact (freshLink_wf x).mono hN
    · rw [if_neg e]; exact h.wf i hi
  · show updN σ.P c p 0 ≠ updN σ.P c p 1
    match c, hc with
    | 0, _ => simp only [updN]; simp; omega
    | 1, _ => simp only [updN]; simp; omega
  · show updN σ.Q c q 0 ≠ updN σ.Q c q 1
    match c, hc with
    | 0, _ => simp only [updN]; simp; omega
    | 1, _ => simp only [updN]; simp; omega

theorem play_ok {w : World} {a : Nat} {σ : LawS} {N : Int} {o0 o1 o2 o3 : Int} {s t : ByteArray} {R : Bool → World → Prop}
    (h : LawAt w a σ N) (hN0 : 0 ≤ N) (hN : N < 1048576) (hsl : s.size ≤ 140737488351232) (hR : ∀ w', Next w a σ N w' → R true w') :
    framelaw_Play.Call (some ⟨a, 0, none⟩) o0 o1 o2 o3 s t w R := by
  apply framelaw_Play.sound
  unfold framelaw_Play.B0
  refine New.mk fun o w1 ho hs1 oo1 he1 => LdI.mk oo1 rfl ?_
  have h1 := h.ext0 he1
  have nxt : ∀ w', Next w1 a σ N w' → Next w a σ N w' := fun w' ⟨σ', q1, q2, q3⟩ => ⟨σ', q1, he1.nil.trans q2, fun k hk => by
    rcases q3 k hk with q | q
    · exact .inl q
    · exact .inr (by have := he1.size; omega)⟩
  have stay : ∀ w', Ext [] w1 w' → Next w a σ N w' := fun w' he => nxt w' ((h1.ext0 he).next he)
  refine Bm.ite (fun hc => ?_) (fun hc => ?_)
  · unfold framelaw_Play.B1
    exact Bm.pos rfl (hR w1 (stay w1 (Ext.refl _ _)))
  unfold framelaw_Play.B1
  refine Bm.ite (fun hc2 => hR w1 (stay w1 (Ext.refl _ _))) (fun hc2 => ?_)
  have c0 : 0 ≤ o3 := by omega
  have c2 : o3 < 2 := by omega
  have hcn : o3.toNat < 2 := by omega
  have hsd := h1.ext0 (Ext.drew [] w1)
  refine LdI.mk oo1 rfl (Bm.mk (fun _ => ?_) (fun _ => Bm.mk (fun _ => ?_) (fun _ => Bm.mk (fun _ => ?_) (fun _ => Bm.mk (fun _ => ?_) (fun _ => Bm.mk (fun _ => ?_) (fun _ => Bm.mk (fun _ => ?_) (fun _ => Bm.mk (fun _ => ?_) (fun _ => Bm.mk (fun _ => ?_) (fun _ => hR w1 (stay w1 (Ext.refl _ _)))))))))))
  · exact LdI.mk oo1 rfl (LdI.mk oo1 rfl (LdS.mk oo1 rfl (lawEncode_ok h1 hN c0 c2 hsl fun w' hn => hR w' (nxt w' hn))))
  · refine LdS.mk oo1 rfl (toBytes_ok fun k cap w2 z hcap hk hs2 hf2 he2 => ?_)
    have h2 := h1.ext0 he2
    refine lawDecode_ok h2 hN c0 c2 hf2.rd (strB_length s) (by omega) (by omega) (fun k' o' e => ?_) fun w3 σ' gb gl h3 kin hbg he3 hg3 => NewSet.mk rfl rfl fun v w5 hv hs5 ho5 he5 => ?_
    · simp only [Option.some.injEq, Addr.mk.injEq] at e
      rw [← e.1]
      exact ⟨_, hf2.1⟩
    · refine hR w5 (nxt w5 ⟨σ', h3.ext0 he5, (he2.nil.trans he3).trans he5.nil, fun k hk => ?_⟩)
      rcases hg3 k hk with q | q
      · exact .inl q
      · exact .inr (by have := he2.size; omega)
  · exact lawRound_ok h1 hN c0 c2 fun w' hn => hR w' (nxt w' hn)
  · exact LdI.mk oo1 rfl (lawFlip_ok h1 hN c0 c2 fun w' hn => hR w' (nxt w' hn))
  · refine LdI.mk oo1.drew rfl (Pn.mk (frameNew_ok fun p w8 hp hs8 hr8 he8 => ⟨⟨c0, by omega⟩, ?_⟩))
    have E8 : Ext [] w1 w8 := (Ext.drew [] w1).trans he8
    have h8 := h1.ext0 E8
    rw [add_mk, Nat.mul_one, Nat.zero_add]
    refine Sts.mk h8.own (by simp [LawS.cells]; omega) rfl fun w9 hs9 ho9 he9 => ?_
    have hao : o ≠ a := Own.ne_type oo1 h1.own (by decide)
    have halt := h1.own.lt
    have hz1 := E8.size
    refine LdI.mk (he9.own (E8.own oo1 (by simp)) (by simp; exact hao)).drew rfl (Pn.mk (framemNew_ok fun q w10 hq hs10 hq10 he10 => ⟨⟨c0, by omega⟩, ?_⟩))
    rw [add_mk, add_mk, Nat.zero_add]
    have hpz : w1.drew.heap.size = w1.heap.size := rfl
    have hqz : w9.drew.heap.size = w9.heap.size := rfl
    refine Sts.mk (he10.own ho9.drew (by simp)) (by simp [LawS.cells, size_putArr]; omega) rfl fun w11 hs11 ho11 he11 => ?_
    have E11 : Ext [a] w1 w11 := ((((E8.nil.trans he9).trans (Ext.drew [a] w9)).trans he10.nil).trans he11)
    have hp11 : RealAt w11 p (freshLink o1) := he11.own (he10.own (Own.drew (he9.own hr8 (by simp; omega))) (by simp)) (by simp; omega)
    have hq11 : ModAt w11 q (freshLink o1) := he11.own hq10 (by simp; omega)
    refine hR w11 (nxt w11 ⟨σ.renew o3.toNat p q o1, (h1.renew hN0 hcn E11 hp11 hq11 (by omega) (by omega) ho11).up (by omega), E11.mono (fun x hx _ => by simp at hx; simp [blk, hx]), fun k hk => ?_⟩)
    have hc01 : o3.toNat = 0 ∨ o3.toNat = 1 := by omega
    simp only [blk, List.mem_cons, List.mem_append, LawS.renew, updN] at hk ⊢
    rcases hc01 with e | e <;> rw [e] at hk <;> simp at hk <;> rcases hk with q | q | q | q | q | q | q <;> first | exact .inr (by omega) | exact .inl (by simp [q])
  · refine Pn.mk ⟨⟨c0, by omega⟩, hsd.ldP c0 c2 (Pn.mk ⟨⟨c0, by omega⟩, hsd.ldQ c0 c2 (sameAddr_ok (hsd.real _ hcn) (hsd.mod _ hcn) (hsd.wf _ hcn) (hR _ (stay _ (Ext.drew [] w1))))⟩)⟩
  · refine Pn.mk ⟨⟨c0, by omega⟩, hsd.ldP c0 c2 (Pn.mk ⟨⟨c0, by omega⟩, hsd.ldQ c0 c2 (sameStats_ok (hsd.real _ hcn) (hsd.mod _ hcn) fun w' he => hR _ (stay _ ((Ext.drew [] w1).trans he)))⟩)⟩
  · refine Pn.mk ⟨⟨c0, by omega⟩, h1.ldP c0 c2 (linkCheck_ok (h1.real _ hcn) (h1.wf _ hcn) (by omega) (hR _ (stay _ (Ext.refl _ _))))⟩

/-! ### the walk -/
/-- The walk's state behind i ops, seen from the world w0 in which it began. -/
def Inv (w0 : World) (a : Nat) (N : Int) (w : World) : Prop := Ext [] w0 w ∧ ∃ σ, LawAt w a σ N ∧ ∀ k ∈ blk a σ, w0.heap.size ≤ k
theorem Inv.ext0 {w0 : World} {a : Nat} {N : Int} {w w' : World} (h : Inv w0 a N w) (he : Ext [] w w') : Inv w0 a N w' := by
  obtain ⟨h1, σ, h2, h3⟩ := h
  exact ⟨h1.trans he, σ, h2.ext0 he, h3⟩
theorem Inv.next {w0 : World} {a : Nat} {σ : LawS} {N : Int} {w w' : World} (h1 : Ext [] w0 w) (h3 : ∀ k ∈ blk a σ, w0.heap.size ≤ k) (hn : Next w a σ N w') : Inv w0 a (N + 1) w' := by
  obtain ⟨σ', q1, q2, q3⟩ := hn
  refine ⟨h1.trans' q2 (fun x hx hlt => by have := h3 x hx; omega), σ', q1, fun k hk => ?_⟩
  rcases q3 k hk with q | q
  · exact h3 k q
  · have := h1.size; omega

def nilS : LawS := ⟨fun _ => 0, fun _ => 0, fun _ => ⟨0, 0, 0, 0, 0⟩, none, 0, 0, [], 0, 0, 0, none, 0, 0, [], none, 0, 0, [], none, 0, []⟩
def cells0 : Array Value := #[.pointer none, .pointer none, .pointer none, .pointer none, .slice none 0 0, .int .i64 0, .int .i64 0, .int .i64 0, .slice none 0 0, .slice none 0 0, .slice none 0 0]

theorem walk_ok {w : World} {sb : Option Addr} {n c : Nat} {ops : Nat → OpV} {quiet : Bool} {R : Int → Int → World → Prop} (hs : ScriptIs w sb n ops) (hR : ∀ m w', Ext [] w w' → R (-1) m w') : framelaw_walk.Call sb n c quiet w R := by
  apply framelaw_walk.sound
  unfold framelaw_walk.B0
  refine New.mk fun a w1 ha hs1 ho1 he1 => ?_
  unfold framelaw_walk.L1
  have hnn := hs.1
  refine ⟨fun m sb' n' c' q' a' cc w' => sb = sb' ∧ n = n' ∧ c = c' ∧ quiet = q' ∧ a = a' ∧ m = (2 - cc).toNat ∧ Ext [] w w' ∧
    ((cc = 0 ∧ Own w' a cells0 T_framelaw_World) ∨ (cc = 1 ∧ ∃ p q, w.heap.size ≤ p ∧ w.heap.size ≤ q ∧ Own w' a (putArr (putArr cells0 0 [pt p]) 2 [pt q]) T_framelaw_World ∧ RealAt w' p (freshLink 1) ∧ ModAt w' q (freshLink 1)) ∨ (cc = 2 ∧ Inv w a 0 w')), 2,
    ⟨rfl, rfl, rfl, rfl, rfl, rfl, he1, .inl ⟨rfl, ho1⟩⟩, ?_⟩
  rintro m sb' n' c' q' a' cc w' ⟨rfl, rfl, rfl, rfl, rfl, rfl, hE, hcase⟩
  unfold framelaw_walk.L1b
  have hzE := hE.size
  rcases hcase with ⟨rfl, ho⟩ | ⟨rfl, p0, q0, hp0, hq0, ho, hr0, hm0⟩ | ⟨rfl, hInv⟩
  · refine Bm.pos rfl ?_
    have hd := ho.drew
    refine frameNew_ok fun p w2 hp hs2 hr2 he2 => ⟨by omega, ?_⟩
    rw [show Addr.add ⟨a, 0, none⟩ ((0 : Int).toNat * 1) = ⟨a, 0, none⟩ from rfl]
    refine Sts.mk (he2.own hd (by simp)) (by simp [cells0]) rfl fun w3 hs3 ho3 he3 => framemNew_ok fun q w4 hq hs4 hq4 he4 => ⟨by omega, ?_⟩
    rw [show Addr.add ⟨a, 2, none⟩ ((0 : Int).toNat * 1) = ⟨a, 2, none⟩ from rfl]
    refine Sts.mk (he4.own ho3.drew (by simp)) (by simp [cells0, size_putArr]) rfl fun w5 hs5 ho5 he5 => ?_
    have hdz : w'.drew.heap.size = w'.heap.size := rfl
    have hdz3 : w3.drew.heap.size = w3.heap.size := rfl
    have hal := ho.lt
    rw [show IntKind.i64.wrap ((0 : Int) + 1) = 1 from rfl] at *
    refine ⟨1, by decide, rfl, rfl, rfl, rfl, rfl, rfl, ?_, .inr (.inl ⟨rfl, p, q, by omega, by omega, ho5, ?_, ?_⟩)⟩
    · refine (hE.trans ((Ext.drew [] w').trans he2)).trans' (((he3.trans (Ext.drew [a] w3)).trans he4.nil).trans he5) (fun x hx hlt => by simp at hx; omega)
    · exact he5.own (he4.own (Own.drew (he3.own hr2 (by simp; omega))) (by simp)) (by simp; omega)
    · exact he5.own hq4 (by simp; omega)
  · refine Bm.pos rfl ?_
    have hd := ho.drew
    have p0lt := Own.lt hr0
    have q0lt := Own.lt hm0
    have hal := ho.lt
    have hap : p0 ≠ a := Own.ne_type hr0 ho (by decide)
    have haq : q0 ≠ a := Own.ne_type hm0 ho (by decide)
    refine frameNew_ok fun p w2 hp hs2 hr2 he2 => ⟨by omega, ?_⟩
    rw [show Addr.add ⟨a, 0, none⟩ ((1 : Int).toNat * 1) = ⟨a, 1, none⟩ from rfl]
    refine Sts.mk (he2.own hd (by simp)) (by simp [cells0, size_putArr]) rfl fun w3 hs3 ho3 he3 => framemNew_ok fun q w4 hq hs4 hq4 he4 => ⟨by omega, ?_⟩
    rw [show Addr.add ⟨a, 2, none⟩ ((1 : Int).toNat * 1) = ⟨a, 3, none⟩ from rfl]
    refine Sts.mk (he4.own ho3.drew (by simp)) (by simp [cells0, size_putArr]) rfl fun w5 hs5 ho5 he5 => ?_
    have hdz : w'.drew.heap.size = w'.heap.size := rfl
    have hdz3 : w3.drew.heap.size = w3.heap.size := rfl
    rw [show IntKind.i64.wrap ((1 : Int) + 1) = 2 from rfl] at *
    have E5 : Ext [a] w' w5 := (((((Ext.drew [a] w').trans he2.nil).trans he3).trans (Ext.drew [a] w3)).trans he4.nil).trans he5
    have E05 : Ext [] w w5 := hE.trans' E5 (fun x hx hlt => by simp at hx; omega)
    have hp5 : RealAt w5 p (freshLink 2) := he5.own (he4.own (Own.drew (he3.own hr2 (by simp; omega))) (by simp)) (by simp; omega)
    have hq5 : ModAt w5 q (freshLink 2) := he5.own hq4 (by simp; omega)
    have hp05 : RealAt w5 p0 (freshLink 1) := E5.own hr0 (by simp; exact hap)
    have hq05 : ModAt w5 q0 (freshLink 1) := E5.own hm0 (by simp; exact haq)
    refine ⟨0, by decide, rfl, rfl, rfl, rfl, rfl, rfl, E05, .inr (.inr ⟨rfl, E05, { nilS with P := fun i => if i = 0 then p0 else p, Q := fun i => if i = 0 then q0 else q, S := fun i => if i = 0 then freshLink 1 else freshLink 2 }, ?_, ?_⟩)⟩
    · refine ⟨ho5, fun i hi => ?_, fun i hi => ?_, fun i hi => ?_, ?_, ?_, Bs.nil _, Bs.nil _, .inl rfl, Row.nil _ _ _, Row.nil _ _ _, fun k hk => by simp [nilS, rowBlk] at hk, ⟨rfl, fun j x hx => by simp [nilS] at hx⟩, by simp [nilS]⟩
      · match i, hi with
        | 0, _ => exact hp05
        | 1, _ => exact hp5
      · match i, hi with
        | 0, _ => exact hq05
        | 1, _ => exact hq5
      · match i, hi with
        | 0, _ => exact freshLink_wf 1
        | 1, _ => exact freshLink_wf 2
      · show (if (0 : Nat) = 0 then p0 else p) ≠ (if (1 : Nat) = 0 then p0 else p)
        simp
        omega
      · show (if (0 : Nat) = 0 then q0 else q) ≠ (if (1 : Nat) = 0 then q0 else q)
        simp
        omega
    · intro k hk
      simp [blk, nilS, rowBlk] at hk
      omega
  · refine Bm.neg rfl ?_
    -- the ops
    have ops_ok : ∀ w', Inv w a 0 w' → framelaw_walk.B1 sb n c quiet a false w' R := by
      intro w' hInv
      unfold framelaw_walk.B1
      refine Bm.neg rfl ?_
      unfold framelaw_walk.L2
      refine ⟨fun m sb' n' c' q' a' i w' => sb = sb' ∧ n = n' ∧ c = c' ∧ quiet = q' ∧ a = a' ∧ 0 ≤ i ∧ i ≤ n ∧ i ≤ 1048576 ∧ m = (n - i).toNat ∧ Inv w a i w', n, ⟨rfl, rfl, rfl, rfl, rfl, by omega, by omega, by omega, by omega, hInv⟩, ?_⟩
      rintro m sb' n' c' q' a' i w' ⟨rfl, rfl, rfl, rfl, rfl, i0, i1, i2, rfl, hI⟩
      unfold framelaw_walk.L2b
      have fin : ∀ m : Int, framelaw_walk.B4 a m w' R := fun m => by
        unfold framelaw_walk.B4
        obtain ⟨hE', σ, hL, hB⟩ := hI
        exact untouched_ok hL (by omega) fun w2 he2 => Bm.neg rfl (hR m w2 (hE'.trans he2))
      have stop : framelaw_walk.B2 sb n c quiet a i false w' (fun sb' n' c' q' a' i' w'' => ∃ m', m' < (n - i).toNat ∧ sb = sb' ∧ n = n' ∧ c = c' ∧ quiet = q' ∧ a = a' ∧ 0 ≤ i' ∧ i' ≤ n ∧ i' ≤ 1048576 ∧ m' = (n - i').toNat ∧ Inv w a i' w'') R := by
        unfold framelaw_walk.B2
        exact Bm.neg rfl (Bm.mk (fun _ => fin _) (fun _ => fin _))
      refine Bm.ite (fun hi => ?_) (fun hi => stop)
      by_cases hi2 : i < 1048576
      · rw [decide_eq_true hi2]
        unfold framelaw_walk.B2
        refine Bm.pos rfl ?_
        obtain ⟨hE', σ, hL, hB⟩ := hI
        obtain ⟨x, rfl, hop⟩ := hs.2 i.toNat (by omega)
        have cl : ∀ {y : Addr} {v : Value}, y.block = (x.add (i.toNat * 6)).block → w.cell? y = some v → w'.cell? y = some v := fun {y v} hy hv => by
          rw [hE'.cell (by rw [hy]; exact hop.blk) (by simp)]
          exact hv
        have bk : ∀ j, ((x.add (i.toNat * 6)).add j).block = (x.add (i.toNat * 6)).block := fun j => by unfold Addr.add; split <;> rfl
        refine Pn.mk ⟨⟨i0, hi⟩, ⟨_, cl rfl hop.k, ⟨_, cl (bk 1) hop.a, ⟨_, cl (bk 2) hop.b, ⟨_, cl (bk 3) hop.c, ⟨_, cl (bk 4) hop.s, ⟨_, cl (bk 5) hop.t, ?_⟩⟩⟩⟩⟩⟩⟩
        refine play_ok hL i0 hi2 hop.wf.s fun w2 hn => Bm.neg rfl ?_
        have hI2 := Inv.next hE' hB hn
        have go : ∀ w3, Ext [] w2 w3 → framelaw_walk.B3 (some x) n c quiet a i false w3 (fun sb' n' c' q' a' i' w'' => ∃ m', m' < (n - i).toNat ∧ some x = sb' ∧ n = n' ∧ c = c' ∧ quiet = q' ∧ a = a' ∧ 0 ≤ i' ∧ i' ≤ n ∧ i' ≤ 1048576 ∧ m' = (n - i').toNat ∧ Inv w a i' w'') R := fun w3 he3 => by
          unfold framelaw_walk.B3
          refine Bm.neg rfl ?_
          rw [w64 (by omega) (by omega)]
          exact ⟨(n - (i + 1)).toNat, by omega, rfl, rfl, rfl, rfl, rfl, by omega, by omega, by omega, rfl, hI2.ext0 he3⟩
        refine Bm.mk (fun _ => ?_) (fun _ => go w2 (Ext.refl _ _))
        obtain ⟨_, σ2, hL2, _⟩ := hI2
        exact allAlike_ok hL2 (by omega) fun w3 he3 => go w3 he3
      · rw [decide_eq_false hi2]
        exact stop
    refine Bm.mk (fun _ => ?_) (fun _ => ops_ok w' hInv)
    obtain ⟨hE', σ, hL, hB⟩ := hInv
    exact allAlike_ok hL (by omega) fun w3 he3 => ops_ok w3 ⟨hE'.trans he3, σ, hL.ext0 he3, hB⟩

theorem refines_law {w : World} {sb : Option Addr} {n c : Nat} {ops : Nat → OpV} (hs : ScriptIs w sb n ops) {R : Bool → World → Prop} (hR : ∀ w', Ext [] w w' → R true w') : framelaw_Refines.Call sb n c w R := by
  apply framelaw_Refines.sound
  unfold framelaw_Refines.B0
  apply framelaw_RefinesUpTo.sound
  unfold framelaw_RefinesUpTo.B0
  exact walk_ok hs fun m w' he => hR w' he
theorem refinesQuiet_law {w : World} {sb : Option Addr} {n c : Nat} {ops : Nat → OpV} (hs : ScriptIs w sb n ops) {R : Bool → World → Prop} (hR : ∀ w', Ext [] w w' → R true w') : framelaw_RefinesQuiet.Call sb n c w R := by
  apply framelaw_RefinesQuiet.sound
  unfold framelaw_RefinesQuiet.B0
  exact walk_ok hs fun m w' he => hR w' he
end Go.Proofs.Qxb6500423a
