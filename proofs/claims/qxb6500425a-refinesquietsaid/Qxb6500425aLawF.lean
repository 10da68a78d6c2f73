/-
  ip: the law's Play, Step, NewWorld, walk.
-/
import Derived.Test.Qxb6500425aLawE
import Derived.Test.Qxb6500425aScript
set_option linter.unusedVariables false
set_option linter.unusedSimpArgs false
open Go.Vc
namespace Go.Proofs.Qxb6500425a

def pt (p : Nat) : Value := .pointer (some ⟨p, 0, none⟩)
theorem put_P (σ : LS) {c : Nat} (hc : c < 2) (p : Nat) : ∀ j, j < 9 → fnPut (lawCell σ) c [pt p] j = lawCell { σ with P := updF σ.P c p } j := by
  intro j hj
  unfold fnPut lawCell updF
  by_cases e : j = c
  · subst e
    rw [if_pos (by simp), if_pos hc]
    simp [pt]
  · rw [if_neg (by simp; omega)]
    by_cases h2 : j < 2
    · rw [if_pos h2, if_pos h2]
      simp [e]
    · rw [if_neg h2, if_neg h2]
theorem put_Q (σ : LS) {c : Nat} (hc : c < 2) (q : Nat) : ∀ j, j < 9 → fnPut (lawCell σ) (2 + c) [pt q] j = lawCell { σ with Q := updF σ.Q c q } j := by
  intro j hj
  unfold fnPut lawCell updF
  by_cases e : j = 2 + c
  · subst e
    rw [if_pos (by simp), if_neg (by omega), if_pos (by omega)]
    simp [pt]
  · rw [if_neg (by simp; omega)]
    by_cases h2 : j < 2
    · rw [if_pos h2, if_pos h2]
    · rw [if_neg h2, if_neg h2]
      by_cases h4 : j < 4
      · rw [if_pos h4, if_pos h4]
        have : ¬ j - 2 = c := by omega
        simp [this]
      · rw [if_neg h4, if_neg h4]
def LS.renew (σ : LS) (c p q : Nat) (S : IPS) (M : MS) : LS := { σ with P := updF σ.P c p, Q := updF σ.Q c q, S := updF σ.S c S, M := updF σ.M c M }
section
variable {w w' : World} {a : Nat} {σ : LS} {N : Int}
theorem LawAt.renew (h : LawAt w a σ N) {c p q : Nat} {x : Int} (hc : c < 2) (he : Ext [a] w w') (hr : RealAt w' p (freshIP x)) (hm : ModAt w' q (freshMS x)) (hp : w.heap.size ≤ p) (hq : w.heap.size ≤ q) (ho : Own w' a (fnArr 9 (lawCell (σ.renew c p q (freshIP x) (freshMS x)))) 43) : Next w a σ (σ.renew c p q (freshIP x) (freshMS x)) N w' := by
  have hne : ∀ {α : Type} (f : Nat → α) (y : α) {c' : Nat}, c' ≠ c → updF f c y c' = f c' := fun f y c' hn => by simp [updF, hn]
  have hsm : ∀ {α : Type} (f : Nat → α) (y : α), updF f c y c = y := fun f y => by simp [updF]
  have hfoot : ∀ q', (freshMS x).foot q' = [q'] := fun q' => rfl
  have hg : Grew w (σ.foot a) ((σ.renew c p q (freshIP x) (freshMS x)).foot a) := fun y hy => by
    rcases mem_foot.1 hy with e | ⟨c', hc', e⟩ | ⟨c', hc', e⟩ | e
    · exact .inl (mem_foot.2 (.inl e))
    · by_cases ec : c' = c
      · subst ec
        have : y = p := by rw [e]; exact hsm _ _
        exact .inr (by omega)
      · refine .inl (mem_foot.2 (.inr (.inl ⟨c', hc', ?_⟩)))
        rw [e]
        exact hne _ _ ec
    · by_cases ec : c' = c
      · subst ec
        have e' : y ∈ (updF σ.M c' (freshMS x) c').foot (updF σ.Q c' q c') := e
        rw [hsm, hsm, hfoot] at e'
        simp at e'
        exact .inr (by omega)
      · refine .inl (mem_foot.2 (.inr (.inr (.inl ⟨c', hc', ?_⟩))))
        have e' : y ∈ (updF σ.M c (freshMS x) c').foot (updF σ.Q c q c') := e
        rw [hne _ _ ec, hne _ _ ec] at e'
        exact e'
    · exact .inl (mem_foot.2 (.inr (.inr (.inr e))))
  have hna : ∀ {y : Nat} {cs : Array Value} {t : TypeId}, Own w y cs t → t ≠ 43 → y ∉ [a] := fun {y cs t} hoo ht hx => by
    simp at hx
    subst hx
    exact ht (hoo.unique h.own).2
  refine ⟨⟨ho, fun c' hc' => ?_, fun c' hc' => ?_, fun c' hc' => ?_, fun c' hc' => ?_, fun c' hc' => ?_, ?_, ?_, fun i hi => ?_, h.pool, fun i h1 hi => (h.kept i h1 hi).ext he (fun y hy _ => by simp at hy; exact mem_foot.2 (.inl hy)) hg, h.cnt⟩, he.mono (fun y hy _ => by simp at hy; exact mem_foot.2 (.inl hy)), hg⟩
  · show RealAt w' (updF σ.P c p c') (updF σ.S c (freshIP x) c')
    by_cases ec : c' = c
    · subst ec; rw [hsm, hsm]; exact hr
    · rw [hne _ _ ec, hne _ _ ec]; exact he.own (h.real c' hc') (hna (h.real c' hc') (by decide))
  · show ModAt w' (updF σ.Q c q c') (updF σ.M c (freshMS x) c')
    by_cases ec : c' = c
    · subst ec; rw [hsm, hsm]; exact hm
    · rw [hne _ _ ec, hne _ _ ec]
      refine (h.mod c' hc').ext he (fun k hk => ?_)
      obtain ⟨cs, t, hoo, ht⟩ := (h.mod c' hc').footTy hk
      exact hna hoo (by rcases ht with rfl | rfl | rfl <;> decide)
  · show Rel (updF σ.M c (freshMS x) c').rows (updF σ.S c (freshIP x) c')
    by_cases ec : c' = c
    · subst ec; rw [hsm, hsm]; exact fresh_rel x
    · rw [hne _ _ ec, hne _ _ ec]; exact h.rel c' hc'
  · show NumWf (updF σ.S c (freshIP x) c')
    by_cases ec : c' = c
    · subst ec; rw [hsm]; exact fresh_num x
    · rw [hne _ _ ec]; exact h.num c' hc'
  · show (updF σ.M c (freshMS x) c').addr = (updF σ.S c (freshIP x) c').addr ∧ (updF σ.M c (freshMS x) c').next = (updF σ.S c (freshIP x) c').next ∧ (updF σ.M c (freshMS x) c').credit = (updF σ.S c (freshIP x) c').credit
    by_cases ec : c' = c
    · subst ec; rw [hsm, hsm]; exact ⟨rfl, rfl, rfl⟩
    · rw [hne _ _ ec, hne _ _ ec]; exact h.same c' hc'
  · show updF σ.P c p 0 ≠ updF σ.P c p 1
    have p0 := Own.lt (h.real 0 (by omega))
    have p1 := Own.lt (h.real 1 (by omega))
    have h1 : c = 0 ∨ c = 1 := by omega
    rcases h1 with rfl | rfl
    · rw [hsm, hne _ _ (by omega)]; omega
    · rw [hsm, hne _ _ (by omega)]; omega
  · intro k hk hk2
    have hk' : k ∈ (updF σ.M c (freshMS x) 0).foot (updF σ.Q c q 0) := hk
    have hk2' : k ∈ (updF σ.M c (freshMS x) 1).foot (updF σ.Q c q 1) := hk2
    have h1 : c = 0 ∨ c = 1 := by omega
    rcases h1 with rfl | rfl
    · rw [hsm, hsm, hfoot] at hk'
      rw [hne _ _ (by omega), hne _ _ (by omega)] at hk2'
      simp at hk'
      have := (h.mod 1 (by omega)).lt hk2'
      omega
    · rw [hsm, hsm, hfoot] at hk2'
      rw [hne _ _ (by omega), hne _ _ (by omega)] at hk'
      simp at hk2'
      have := (h.mod 0 (by omega)).lt hk'
      omega
  · refine (h.row i hi).ext he (fun k hk => ?_)
    obtain ⟨cs, hoo⟩ := rowTy (h.row i hi) hk
    exact hna hoo (lT_not i hi).1
theorem play_ok {o0 o1 o2 o3 c : Int} {s t : ByteArray} {R : Bool → World → Prop} (h : LawAt w a σ N) (hN : N ≤ 80000000) (c0 : 0 ≤ c) (c2 : c < 2) (hs : s.size ≤ 140737488351232) (hR : ∀ σ' w', Next w a σ σ' (N + 8) w' → R true w') : iplaw_World_Play.Call (some ⟨a, 0, none⟩) o0 o1 o2 o3 s t c w R := by
  apply iplaw_World_Play.sound
  unfold iplaw_World_Play.B0
  have hcn : c.toNat < 2 := by omega
  refine New.mk fun o w1 ho hs1 oo1 he1 => LdI.mk oo1 rfl ?_
  have h1 := h.ext0 he1
  have hd := h1.ext0 (Ext.drew [] w1)
  have oo1d := oo1.drew
  have go : ∀ {σ' w' M}, Next w1 a σ σ' M w' → M ≤ N + 8 → R true w' := fun hn hm => hR _ _ ((hn.pre he1).up hm)
  have stay : ∀ w', Ext [] w1 w' → R true w' := fun w' he => go ((Next.refl h1).ext0 he) (by omega)
  have hdz : w1.drew.heap.size = w1.heap.size := rfl
  refine Bm.mk (fun _ => ?_) (fun _ => Bm.mk (fun _ => ?_) (fun _ => Bm.mk (fun _ => ?_) (fun _ => Bm.mk (fun _ => ?_) (fun _ => Bm.mk (fun _ => ?_) (fun _ => Bm.mk (fun _ => ?_) (fun _ => Bm.mk (fun _ => ?_) (fun _ => Bm.mk (fun _ => ?_) (fun _ => Bm.mk (fun _ => ?_) (fun _ => Bm.mk (fun _ => ?_) (fun _ => Bm.mk (fun _ => ?_) (fun _ => stay w1 (Ext.refl _ _))))))))))))
  · exact LdI.mk oo1 rfl (LdI.mk oo1 rfl (LdS.mk oo1 rfl (sameOutput_ok h1 hN c0 c2 hs fun σ' w' hn => go hn (by omega))))
  · exact LdS.mk oo1 rfl (sameInput_ok h1 hN c0 c2 hs fun σ' w' hn => go hn (by omega))
  · have out : iplaw_World_Play.B1 (some ⟨a, 0, none⟩) c o true w1.drew R := by
      unfold iplaw_World_Play.B1
      exact Bm.pos rfl (stay _ (Ext.drew [] w1))
    refine LdI.mk oo1d rfl (Bm.ite (fun _ => out) (fun hlo => LdI.mk oo1d rfl (Pn.mk (LdL.cell (by rw [add_mk, Nat.zero_add]; exact hd.len (i := 0) (by omega)) ?_))))
    by_cases hhi : o1 ≥ ((σ.ls 0).n : Int)
    · rw [decide_eq_true hhi]
      exact out
    rw [decide_eq_false hhi]
    unfold iplaw_World_Play.B1
    have E2 : Ext [] w1 w1.drew.drew := (Ext.drew [] w1).trans (Ext.drew [] _)
    have h2 := h1.ext0 E2
    refine Bm.neg rfl (Pn.mk (LdL.cell (by rw [add_mk, Nat.zero_add]; exact h2.len (i := 0) (by omega)) (LdI.mk oo1d.drew rfl ?_)))
    have hrow := h2.row 0 (by omega)
    have hl := hrow.1
    obtain ⟨k, hk, cs, hok, hc⟩ := hrow.at (i := o1.toNat) (by omega) (by omega)
    obtain ⟨v, hv⟩ : ∃ v, (σ.ls 0).vs[o1.toNat]? = some v := ⟨_, List.getElem?_eq_getElem (by omega)⟩
    obtain ⟨s', rfl, hs'⟩ := h.pool v (List.mem_of_getElem? hv)
    rw [hk]
    refine Pn.mk ⟨⟨by omega, by omega⟩, LdS.cell (n := s') ?_ (sameInput_ok h2 hN c0 c2 hs' fun σ' w' hn => go (hn.pre E2) (by omega))⟩
    rw [add_mk, Nat.zero_add, hok.cell_eq]
    have := hc 0 (by omega)
    rw [Nat.add_zero] at this
    rw [this, Nat.mul_one]
    exact hv
  · have hp1 := h1.real _ hcn
    have hm1 := h1.mod _ hcn
    refine Pn.mk ⟨⟨c0, by omega⟩, h1.ldP c0 c2 (realTick_ok hp1 (h1.rel _ hcn) fun w4 hs4 hr4 he4 => Pn.mk ⟨⟨c0, by omega⟩, ?_⟩)⟩
    have hpa : a ≠ σ.P c.toNat := Own.ne_type h1.own hp1 (by decide)
    have hown4 := he4.own h1.own (by simpa using hpa)
    have hpq : σ.P c.toNat ∉ (σ.M c.toNat).foot (σ.Q c.toNat) := fun hk => by
      obtain ⟨cs', t', ho', ht'⟩ := hm1.footTy hk
      have e := (Own.unique hp1 ho').2
      rcases ht' with e2 | e2 | e2 <;> rw [e2] at e <;> exact absurd e (by decide)
    have hm4 : ModAt w4 (σ.Q c.toNat) (σ.M c.toNat) := hm1.ext he4 (fun k hk hx => by
      simp at hx
      subst hx
      exact hpq hk)
    have hrel := h1.rel _ hcn
    have hLl : (σ.M c.toNat).rows.length = (σ.M c.toNat).L.length := by simp [MS.rows]
    have h3 := rows_len hrel
    refine LdP.cell (by rw [add_mk, add_mk, Nat.mul_one, Nat.zero_add]; exact cellQ hown4 hcn) (modTick_ok hm4 (by omega) (fun e he => (hrel.rwf e.abs (List.mem_map.2 ⟨e, he, rfl⟩)).left) fun M' w5 hm5 ea en ec er hl3 he5 hg5 => ?_)
    have hsame := h1.same _ hcn
    have hnum := h1.num _ hcn
    refine go (h1.stepped hcn (S := tickAll (σ.S c.toNat)) (M := M') ((he4.mono (fun x hx _ => by simp at hx; simp [hx])).trans (he5.mono (fun x hx _ => List.mem_cons_of_mem _ hx))) (he5.own hr4 hpq) hm5 (by rw [er]; exact hrel.tick) ⟨hnum.addr, hnum.next, by show (0 : Int) ≤ 24 ∧ (24 : Int) ≤ 24; omega⟩ ⟨by rw [ea]; exact hsame.1, by rw [en]; exact hsame.2.1, ec⟩ (fun k hk => ?_)) (by omega)
    rcases hg5 k hk with q | q
    · exact .inl q
    · exact .inr (by omega)
  · exact Pn.mk ⟨⟨c0, by omega⟩, hd.ldP c0 c2 (Pn.mk ⟨⟨c0, by omega⟩, hd.ldQ c0 c2 (sameAddr_ok (hd.real _ hcn) (hd.mod _ hcn) (hd.same _ hcn).1 (stay _ (Ext.drew [] w1)))⟩)⟩
  · exact Pn.mk ⟨⟨c0, by omega⟩, hd.ldP c0 c2 (Pn.mk ⟨⟨c0, by omega⟩, hd.ldQ c0 c2 (sameNextId_ok (hd.real _ hcn) (hd.mod _ hcn) (hd.same _ hcn).2.1 (stay _ (Ext.drew [] w1)))⟩)⟩
  · exact Pn.mk ⟨⟨c0, by omega⟩, hd.ldP c0 c2 (Pn.mk ⟨⟨c0, by omega⟩, hd.ldQ c0 c2 (sameCredit_ok (hd.real _ hcn) (hd.mod _ hcn) (hd.same _ hcn).2.2 (stay _ (Ext.drew [] w1)))⟩)⟩
  · refine Pn.mk ⟨⟨c0, by omega⟩, hd.ldP c0 c2 (Pn.mk ⟨⟨c0, by omega⟩, hd.ldQ c0 c2 (samePending_ok (hd.real _ hcn) (hd.mod _ hcn) (hd.rel _ hcn) fun b w3 hb ho3 he3 => ?_)⟩)⟩
    have E3 : Ext [] w1 w3 := (Ext.drew [] w1).trans he3
    have h3 := h1.ext0 E3
    refine untouched_ok h3 (by omega) fun w4 he4 => Bm.neg rfl ?_
    have h4 := h3.ext0 he4
    have ho4 := he4.own ho3 (by simp)
    have h3l := rows_len (h1.rel _ hcn)
    refine keepRows_ok h4 (by omega) ho4 (by simp [pendL_length]) (by omega) (h4.not ho4 (by decide)) (h1.fresh (by omega)) fun σ' w5 hk5 => go (((Next.refl h1).ext0 (E3.trans he4)).keep hk5 (by omega)) (by omega)
  · exact Pn.mk ⟨⟨c0, by omega⟩, h1.ldP c0 c2 (realCheck_ok (h1.real _ hcn) (h1.rel _ hcn) (h1.num _ hcn) fun w' he => stay w' he)⟩
  · refine LdI.mk oo1d rfl (Pn.mk (ipNew_ok fun p w3 hp hs3 hr3 he3 => ⟨⟨c0, by omega⟩, ?_⟩))
    have E3 : Ext [] w1 w3 := (Ext.drew [] w1).trans he3
    have h3 := h1.ext0 E3
    rw [add_mk, Nat.zero_add, Nat.mul_one]
    refine Sts.fn h3.own (by simp; omega) rfl (put_P σ hcn p) fun w4 hs4 ho4 he4 => ?_
    have hoa : o ≠ a := Own.ne_type oo1 h1.own (by decide)
    have oo4 := he4.own (E3.own oo1 (by simp)) (by simpa using hoa)
    refine LdI.mk oo4.drew rfl (Pn.mk (modNew_ok fun q w5 hq hs5 hm5 he5 => ⟨⟨c0, by omega⟩, ?_⟩))
    rw [add_mk, add_mk, Nat.zero_add]
    have ho5 := he5.own ho4.drew (by simp)
    refine Sts.fn ho5 (by simp; omega) rfl (put_Q { σ with P := updF σ.P c.toNat p } hcn q) fun w6 hs6 ho6 he6 => ?_
    have halt := h1.own.lt
    have hz4d : w4.drew.heap.size = w4.heap.size := rfl
    have E6 : Ext [a] w1 w6 := (((E3.nil.trans he4).trans (Ext.drew _ w4)).trans he5.nil).trans he6
    have hz3 := E3.size
    have hpa : p ≠ a := by omega
    have hr6 : RealAt w6 p (freshIP o1) := he6.own (he5.own (Own.drew (he4.own hr3 (by simpa using hpa))) (by simp)) (by simpa using hpa)
    have hm6 : ModAt w6 q (freshMS o1) := hm5.ext he6 (fun k hk hx => by
      have : k = q := by simpa [freshMS, MS.foot, rowBlk] using hk
      simp at hx
      omega)
    refine go (h1.renew (c := c.toNat) (p := p) (q := q) (x := o1) hcn E6 hr6 hm6 (by omega) (by omega) ?_) (by omega)
    exact ho6
  · refine Pn.mk ⟨⟨c0, by omega⟩, hd.ldP c0 c2 (Pn.mk ⟨⟨c0, by omega⟩, hd.ldQ c0 c2 (LdI.mk oo1d rfl (samePeek_ok (hd.real _ hcn) (hd.mod _ hcn) (hd.rel _ hcn) fun b n cs w3 hb ho3 hcs hn he3 => ?_))⟩)⟩
    have E3 : Ext [] w1 w3 := (Ext.drew [] w1).trans he3
    have h3 := h1.ext0 E3
    refine untouched_ok h3 (by omega) fun w4 he4 => Bm.neg rfl ?_
    have h4 := h3.ext0 he4
    have ho4 := he4.own ho3 (by simp)
    refine keepNums_ok h4 (by omega) ho4 hcs (by omega) (h1.notNew (by omega)) (h1.fresh (by omega)) fun σ' w5 hk5 => go (((Next.refl h1).ext0 (E3.trans he4)).keep hk5 (by omega)) (by omega)
theorem step_ok {o0 o1 o2 o3 : Int} {s t : ByteArray} {quiet : Bool} {R : Bool → World → Prop} (h : LawAt w a σ N) (hN : N ≤ 80000000) (hs : s.size ≤ 140737488351232) (hR : ∀ σ' w', Next w a σ σ' (N + 8) w' → R true w') : iplaw_World_Step.Call (some ⟨a, 0, none⟩) o0 o1 o2 o3 s t quiet w R := by
  apply iplaw_World_Step.sound
  unfold iplaw_World_Step.B0
  refine New.mk fun o w1 ho hs1 oo1 he1 => LdI.mk oo1 rfl ?_
  have h1 := h.ext0 he1
  have b2 : ∀ σ' w', Next w a σ σ' (N + 8) w' → iplaw_World_Step.B2 (some ⟨a, 0, none⟩) quiet w' R := fun σ' w' hn => by
    unfold iplaw_World_Step.B2
    refine untouched_ok hn.law (by omega) fun w2 he2 => Bm.neg rfl (Bm.mk (fun _ => hR σ' w2 (hn.ext0 he2)) (fun _ => both_ok (hn.law.ext0 he2) fun w3 he3 => hR σ' w3 ((hn.ext0 he2).ext0 he3)))
  have yes : 0 ≤ o3 → o3 < 2 → iplaw_World_Step.B1 (some ⟨a, 0, none⟩) quiet o true w1 R := fun q0 q2 => by
    unfold iplaw_World_Step.B1
    refine Bm.pos rfl (LdI.mk oo1 rfl (LdI.mk oo1 rfl (LdI.mk oo1 rfl (LdI.mk oo1 rfl (LdS.mk oo1 rfl (LdS.mk oo1 rfl (LdI.mk oo1 rfl (play_ok h1 hN q0 q2 hs fun σ' w' hn => Bm.neg rfl (b2 σ' w' (hn.pre he1))))))))))
  refine Bm.mk (fun e => ?_) (fun e => LdI.mk oo1 rfl ?_)
  · have e' : o3 = 0 := by simpa using e
    exact yes (by omega) (by omega)
  · by_cases e1 : o3 = 1
    · rw [show (o3 == 1) = true by simpa using e1]
      exact yes (by omega) (by omega)
    · rw [show (o3 == 1) = false by simpa using e1]
      unfold iplaw_World_Step.B1
      exact Bm.neg rfl (b2 σ w1 (((Next.refl h).ext0 he1).up (by omega)))
end

/-! ### the walk -/
def Inv (w0 : World) (a : Nat) (N : Int) (w : World) : Prop := Ext [] w0 w ∧ ∃ σ, LawAt w a σ N ∧ ∀ k ∈ σ.foot a, w0.heap.size ≤ k
theorem Inv.ext0 {w0 : World} {a : Nat} {N : Int} {w w' : World} (h : Inv w0 a N w) (he : Ext [] w w') : Inv w0 a N w' := by
  obtain ⟨h1, σ, h2, h3⟩ := h
  exact ⟨h1.trans he, σ, h2.ext0 he, h3⟩
theorem Inv.next {w0 : World} {a : Nat} {σ σ' : LS} {N : Int} {w w' : World} (h1 : Ext [] w0 w) (h3 : ∀ k ∈ σ.foot a, w0.heap.size ≤ k) (hn : Next w a σ σ' N w') : Inv w0 a N w' := by
  refine ⟨h1.trans' hn.ext (fun x hx hlt => by have := h3 x hx; omega), σ', hn.law, fun k hk => ?_⟩
  rcases hn.grew k hk with q | q
  · exact h3 k q
  · have := h1.size; omega
def cells0 : Array Value := #[.pointer none, .pointer none, .pointer none, .pointer none, .slice none 0 0, .slice none 0 0, .slice none 0 0, .slice none 0 0, .slice none 0 0]
theorem newWorld_ok {w : World} {R : Option Addr → World → Prop} (hR : ∀ a w', Inv w a 0 w' → R (some ⟨a, 0, none⟩) w') : iplaw_NewWorld.Call w R := by
  apply iplaw_NewWorld.sound
  unfold iplaw_NewWorld.B0
  refine New.mk fun a w1 ha hs1 ho1 he1 => ?_
  unfold iplaw_NewWorld.L1
  refine ⟨fun m a' cc w' => a = a' ∧ m = (2 - cc).toNat ∧ Ext [] w w' ∧
    ((cc = 0 ∧ Own w' a cells0 43) ∨ (cc = 1 ∧ ∃ p q, w.heap.size ≤ p ∧ w.heap.size ≤ q ∧ Own w' a (putArr (putArr cells0 0 [pt p]) 2 [pt q]) 43 ∧ RealAt w' p (freshIP 1) ∧ ModAt w' q (freshMS 1)) ∨ (cc = 2 ∧ Inv w a 0 w')), 2,
    ⟨rfl, rfl, he1, .inl ⟨rfl, ho1⟩⟩, ?_⟩
  rintro m a' cc w' ⟨rfl, rfl, hE, hcase⟩
  unfold iplaw_NewWorld.L1b
  have hzE := hE.size
  rcases hcase with ⟨rfl, ho⟩ | ⟨rfl, p0, q0, hp0, hq0, ho, hr0, hm0⟩ | ⟨rfl, hInv⟩
  · refine Bm.pos rfl ?_
    have hd := ho.drew
    rw [show IntKind.i64.wrap ((0 : Int) + 1) = 1 from rfl]
    refine ipNew_ok fun p w2 hp hs2 hr2 he2 => ⟨by omega, ?_⟩
    rw [show Addr.add ⟨a, 0, none⟩ ((0 : Int).toNat * 1) = ⟨a, 0, none⟩ from rfl]
    refine Sts.mk (he2.own hd (by simp)) (by simp [cells0]) rfl fun w3 hs3 ho3 he3 => modNew_ok fun q w4 hq hs4 hq4 he4 => ⟨by omega, ?_⟩
    rw [show Addr.add ⟨a, 2, none⟩ ((0 : Int).toNat * 1) = ⟨a, 2, none⟩ from rfl]
    refine Sts.mk (he4.own ho3.drew (by simp)) (by simp [cells0, size_putArr]) rfl fun w5 hs5 ho5 he5 => ?_
    have hdz : w'.drew.heap.size = w'.heap.size := rfl
    have hdz3 : w3.drew.heap.size = w3.heap.size := rfl
    have hal := ho.lt
    refine ⟨1, by decide, rfl, rfl, ?_, .inr (.inl ⟨rfl, p, q, by omega, by omega, ho5, ?_, ?_⟩)⟩
    · refine (hE.trans ((Ext.drew [] w').trans he2)).trans' (((he3.trans (Ext.drew [a] w3)).trans he4.nil).trans he5) (fun x hx hlt => by simp at hx; omega)
    · exact he5.own (he4.own (Own.drew (he3.own hr2 (by simp; omega))) (by simp)) (by simp; omega)
    · exact hq4.ext he5 (fun k hk hx => by
        have : k = q := by simpa [freshMS, MS.foot, rowBlk] using hk
        simp at hx
        omega)
  · refine Bm.pos rfl ?_
    have hd := ho.drew
    have p0lt := Own.lt hr0
    have q0lt := hm0.own.lt
    have hal := ho.lt
    have hap : p0 ≠ a := Own.ne_type hr0 ho (by decide)
    have haq : q0 ≠ a := Own.ne_type hm0.own ho (by decide)
    rw [show IntKind.i64.wrap ((1 : Int) + 1) = 2 from rfl]
    refine ipNew_ok fun p w2 hp hs2 hr2 he2 => ⟨by omega, ?_⟩
    rw [show Addr.add ⟨a, 0, none⟩ ((1 : Int).toNat * 1) = ⟨a, 1, none⟩ from rfl]
    refine Sts.mk (he2.own hd (by simp)) (by simp [cells0, size_putArr]) rfl fun w3 hs3 ho3 he3 => modNew_ok fun q w4 hq hs4 hq4 he4 => ⟨by omega, ?_⟩
    rw [show Addr.add ⟨a, 2, none⟩ ((1 : Int).toNat * 1) = ⟨a, 3, none⟩ from rfl]
    refine Sts.mk (he4.own ho3.drew (by simp)) (by simp [cells0, size_putArr]) rfl fun w5 hs5 ho5 he5 => ?_
    have hdz : w'.drew.heap.size = w'.heap.size := rfl
    have hdz3 : w3.drew.heap.size = w3.heap.size := rfl
    have E5 : Ext [a] w' w5 := (((((Ext.drew [a] w').trans he2.nil).trans he3).trans (Ext.drew [a] w3)).trans he4.nil).trans he5
    have E05 : Ext [] w w5 := hE.trans' E5 (fun x hx hlt => by simp at hx; omega)
    have hp5 : RealAt w5 p (freshIP 2) := he5.own (he4.own (Own.drew (he3.own hr2 (by simp; omega))) (by simp)) (by simp; omega)
    have fM : ∀ {x : Int} {q k : Nat}, k ∈ (freshMS x).foot q → k = q := fun {x q k} hk => by simpa [freshMS, MS.foot, rowBlk] using hk
    have hq5 : ModAt w5 q (freshMS 2) := hq4.ext he5 (fun k hk hx => by
      have := fM hk
      simp at hx
      omega)
    have hp05 : RealAt w5 p0 (freshIP 1) := E5.own hr0 (by simp; exact hap)
    have hq05 : ModAt w5 q0 (freshMS 1) := hm0.ext E5 (fun k hk hx => by
      have := fM hk
      simp at hx
      omega)
    refine ⟨0, by decide, rfl, rfl, E05, .inr (.inr ⟨rfl, E05, ⟨fun i => if i = 0 then p0 else p, fun i => if i = 0 then q0 else q, fun i => if i = 0 then freshIP 1 else freshIP 2, fun i => if i = 0 then freshMS 1 else freshMS 2, fun _ => KL.nil⟩, ?_, ?_⟩)⟩
    · refine ⟨ho5, fun i hi => ?_, fun i hi => ?_, fun i hi => ?_, fun i hi => ?_, fun i hi => ?_, ?_, ?_, fun i hi => Row.nil _ _ _, fun v hv => (by cases hv), fun i h1 h5 => Kept.nil _ _ _ _ _, fun i hi => by simp [KL.nil]⟩
      · have : i = 0 ∨ i = 1 := by omega
        rcases this with rfl | rfl
        · exact hp05
        · exact hp5
      · have : i = 0 ∨ i = 1 := by omega
        rcases this with rfl | rfl
        · exact hq05
        · exact hq5
      · have : i = 0 ∨ i = 1 := by omega
        rcases this with rfl | rfl
        · exact fresh_rel 1
        · exact fresh_rel 2
      · have : i = 0 ∨ i = 1 := by omega
        rcases this with rfl | rfl
        · exact fresh_num 1
        · exact fresh_num 2
      · have : i = 0 ∨ i = 1 := by omega
        rcases this with rfl | rfl
        · exact ⟨rfl, rfl, rfl⟩
        · exact ⟨rfl, rfl, rfl⟩
      · show p0 ≠ p
        omega
      · intro k hk hk2
        have e1 : k = q0 := fM hk
        have e2 : k = q := fM hk2
        omega
    · intro k hk
      rcases mem_foot.1 hk with e | ⟨i, hi, e⟩ | ⟨i, hi, e⟩ | ⟨i, hi, e⟩
      · omega
      · have : i = 0 ∨ i = 1 := by omega
        rcases this with rfl | rfl
        · have : k = p0 := e
          omega
        · have : k = p := e
          omega
      · have : i = 0 ∨ i = 1 := by omega
        rcases this with rfl | rfl
        · have : k = q0 := fM e
          omega
        · have : k = q := fM e
          omega
      · simp [KL.nil, rowBlk] at e
  · exact Bm.neg rfl (hR a w' hInv)

theorem walk_ok {w : World} {sb : Option Addr} {n c : Nat} {ops : Nat → OpV} {quiet : Bool} {R : Int → Int → World → Prop} (hs : ScriptIs w sb n ops) (hR : ∀ m w', Ext [] w w' → R (-1) m w') : iplaw_walk.Call sb n c quiet w R := by
  apply iplaw_walk.sound
  unfold iplaw_walk.B0
  have hnn := hs.1
  refine newWorld_ok fun a w1 hI1 => ?_
  have b1 : ∀ w2, Inv w a 0 w2 → iplaw_walk.B1 sb n c quiet (some ⟨a, 0, none⟩) w2 R := by
    intro w2 hI2
    unfold iplaw_walk.B1 iplaw_walk.L1
    refine ⟨fun m sb' n' c' q' a' i w' => sb = sb' ∧ n = n' ∧ c = c' ∧ quiet = q' ∧ some ⟨a, 0, none⟩ = a' ∧ 0 ≤ i ∧ i ≤ n ∧ i ≤ 1048576 ∧ m = (n - i).toNat ∧ Inv w a (8 * i) w', n, ⟨rfl, rfl, rfl, rfl, rfl, by omega, by omega, by omega, by omega, by simpa using hI2⟩, ?_⟩
    rintro m sb' n' c' q' a' i w' ⟨rfl, rfl, rfl, rfl, rfl, i0, i1, i2, rfl, hI⟩
    unfold iplaw_walk.L1b
    have stop : ∀ tt : Bool, tt = false → iplaw_walk.B2 sb n c quiet (some ⟨a, 0, none⟩) i tt w' (fun sb' n' c' q' a' i' w'' => ∃ m', m' < (n - i).toNat ∧ sb = sb' ∧ n = n' ∧ c = c' ∧ quiet = q' ∧ some ⟨a, 0, none⟩ = a' ∧ 0 ≤ i' ∧ i' ≤ n ∧ i' ≤ 1048576 ∧ m' = (n - i').toNat ∧ Inv w a (8 * i') w'') R := by
      intro tt ht
      unfold iplaw_walk.B2
      generalize (decide (((n : Nat) : Int) < 1048576)) = bb
      exact Bm.neg ht (Bm.mk (fun _ => hR _ w' hI.1) (fun _ => hR _ w' hI.1))
    by_cases hi : i < (n : Int)
    rotate_left
    · generalize hf : false = ff
      exact Bm.neg (decide_eq_false hi) (stop ff hf.symm)
    refine Bm.pos (decide_eq_true hi) ?_
    by_cases hi2 : i < 1048576
    · rw [decide_eq_true hi2]
      unfold iplaw_walk.B2
      refine Bm.pos rfl ?_
      obtain ⟨hE', σ, hL, hB⟩ := hI
      obtain ⟨x, rfl, hop⟩ := hs.2 i.toNat (by omega)
      have cl : ∀ {y : Addr} {v : Value}, y.block = (x.add (i.toNat * 6)).block → w.cell? y = some v → w'.cell? y = some v := fun {y v} hy hv => by
        rw [hE'.cell (by rw [hy]; exact hop.blk) (by simp)]
        exact hv
      have bk : ∀ j, ((x.add (i.toNat * 6)).add j).block = (x.add (i.toNat * 6)).block := fun j => by unfold Addr.add; split <;> rfl
      refine Pn.mk ⟨⟨i0, hi⟩, ⟨_, cl rfl hop.k, ⟨_, cl (bk 1) hop.a, ⟨_, cl (bk 2) hop.b, ⟨_, cl (bk 3) hop.c, ⟨_, cl (bk 4) hop.s, ⟨_, cl (bk 5) hop.t, ?_⟩⟩⟩⟩⟩⟩⟩
      refine step_ok hL (by omega) hop.wf.s fun σ' w3 hn => Bm.neg rfl ?_
      rw [w64 (by omega) (by omega)]
      have hI3 := Inv.next hE' hB hn
      refine ⟨(n - (i + 1)).toNat, by omega, rfl, rfl, rfl, rfl, rfl, by omega, by omega, by omega, rfl, ?_⟩
      rw [show 8 * (i + 1) = 8 * i + 8 by omega]
      exact hI3
    · exact stop _ (decide_eq_false hi2)
  refine Bm.mk (fun _ => ?_) (fun _ => b1 w1 hI1)
  obtain ⟨hE', σ, hL, hB⟩ := hI1
  exact both_ok hL fun w3 he3 => Bm.neg rfl (b1 w3 ⟨hE'.trans he3, σ, hL.ext0 he3, hB⟩)
theorem refines_law {w : World} {sb : Option Addr} {n c : Nat} {ops : Nat → OpV} (hs : ScriptIs w sb n ops) {R : Bool → World → Prop} (hR : ∀ w', Ext [] w w' → R true w') : iplaw_Refines.Call sb n c w R := by
  apply iplaw_Refines.sound
  unfold iplaw_Refines.B0
  apply iplaw_RefinesUpTo.sound
  unfold iplaw_RefinesUpTo.B0
  exact walk_ok hs fun m w' he => hR w' he
theorem refinesQuiet_law {w : World} {sb : Option Addr} {n c : Nat} {ops : Nat → OpV} (hs : ScriptIs w sb n ops) {R : Bool → World → Prop} (hR : ∀ w', Ext [] w w' → R true w') : iplaw_RefinesQuiet.Call sb n c w R := by
  apply iplaw_RefinesQuiet.sound
  unfold iplaw_RefinesQuiet.B0
  apply iplaw_RefinesQuietUpTo.sound
  unfold iplaw_RefinesQuietUpTo.B0
  exact walk_ok hs fun m w' he => hR w' he
end Go.Proofs.Qxb6500425a
