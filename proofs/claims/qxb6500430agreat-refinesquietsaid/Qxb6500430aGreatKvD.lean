/-
  kv: rebuild, add, drop.
-/
import Derived.Test.Qxb6500430aGreatKvC
set_option linter.unusedVariables false
open Go.Vc
namespace Go.Proofs.Qxb6500430aGreat.Kv

/-- Pairs laid in a row of cells. -/
def kp (L : List Pair) : Tb := fun j => L[j]?.map some
theorem kp_nil : kp [] = fun _ => none := by funext j; simp [kp]
theorem kp_snoc (L : List Pair) (p : Pair) : upd (kp L) L.length (some (some p)) = kp (L ++ [p]) := by
  funext j
  unfold upd kp
  by_cases h : j = L.length
  · subst h
    rw [if_pos rfl, List.getElem?_append_right (Nat.le_refl _)]
    simp
  · rw [if_neg h]
    by_cases h2 : j < L.length
    · rw [List.getElem?_append_left h2]
    · rw [List.getElem?_eq_none (by omega), List.getElem?_eq_none (by simp; omega)]
theorem kp_at {L : List Pair} {j : Nat} {p : Pair} (h : L[j]? = some p) : kp L j = some (some p) := by unfold kp; rw [h]; rfl
def keepF (K : Tb) (o : Nat) : Value := cv (K (o / 8)) (o % 8)
theorem keepF_cell {K : Tb} {i j : Nat} (hj : j < 8) : keepF K (i * 8 + j) = cv (K i) j := by
  unfold keepF
  rw [show (i * 8 + j) / 8 = i by omega, show (i * 8 + j) % 8 = j by omega]
theorem keepF_put {K : Tb} {i o : Nat} {c : Cel} : (if i * 8 ≤ o ∧ o < i * 8 + 8 then cv c (o - i * 8) else keepF K o) = keepF (upd K i c) o := by
  unfold keepF
  by_cases h : i * 8 ≤ o ∧ o < i * 8 + 8
  · rw [if_pos h, show o / 8 = i by omega, upd_eq, show o % 8 = o - i * 8 by omega]
  · rw [if_neg h, upd_ne (by omega)]
def wipe (T : Tb) (i : Nat) : Tb := fun j => if j < i then none else T j
theorem wipe_zero (T : Tb) : wipe T 0 = T := by funext j; simp [wipe]
theorem wipe_succ (T : Tb) (i : Nat) : upd (wipe T i) i none = wipe T (i + 1) := by
  funext j
  unfold upd wipe
  by_cases h : j = i
  · rw [if_pos h, if_pos (by omega)]
  · rw [if_neg h]
    by_cases h2 : j < i
    · rw [if_pos h2, if_pos (by omega)]
    · rw [if_neg h2, if_neg (by omega)]
theorem Tab.congr {w : World} {b n : Nat} {t : TypeId} {rest : Nat → Value} {T T' : Tb} {l m : Int} (h : Tab w b n t rest T l m) (hT : ∀ i, i < 8 → T i = T' i) : Tab w b n t rest T' l m := by
  refine ⟨?_, h.2⟩
  have := h.1
  rw [fnArr_congr (g := tabF rest T' l m) (fun j hj => ?_)] at this
  · exact this
  · unfold tabF
    by_cases h64 : j < 64
    · rw [if_pos h64, if_pos h64, hT _ (by omega)]
    · rw [if_neg h64, if_neg h64]
theorem Lvi_keys {T : Tb} (h : TInv T) : ∀ n, n ≤ 8 → (Lvi T n).Pairwise (fun p q => p.1 ≠ q.1)
  | 0, _ => List.Pairwise.nil
  | n + 1, hn => by
    rw [Lvi_succ]
    refine List.pairwise_append.2 ⟨Lvi_keys h n (by omega), ?_, fun p hp q hq he => ?_⟩
    · rcases hc : T n with _ | _ | q
      · exact List.Pairwise.nil
      · exact List.Pairwise.nil
      · exact List.pairwise_singleton ..
    · obtain ⟨i, hi, e⟩ := mem_Lvi.1 hp
      rcases hc : T n with _ | _ | r
      · rw [hc] at hq; cases hq
      · rw [hc] at hq; cases hq
      · rw [hc] at hq
        simp only [lv, List.mem_singleton] at hq
        subst hq
        have := h.uniq i n (by omega) (by omega) p q e hc he
        omega
section
variable {w : World} {b n : Nat} {t : TypeId} {rest : Nat → Value} {T : Tb} {l m : Int}
theorem rebuild_ok {R : World → Prop} (h : Tab w b n t rest T l m) (hT : TInv T) (h4 : (Lv T).length ≤ 4)
    (hR : ∀ w' T', TInv T' → (Lv T').Perm (Lv T) → tombs T' = 0 → Tab w' b n t rest T' ((Lv T).length : Int) 0 → Ext [b] w w' → R w') : kv_table_rebuild.Call (some ⟨b, 0, none⟩) w R := by
  apply kv_table_rebuild.sound
  unfold kv_table_rebuild.B0
  refine New.mk fun q w1 hq hs1 ho1 he1 => ?_
  have hlt := h.lt
  have ho1' : Own w1 q (fnArr 32 (keepF (kp []))) (275) := by rw [kp_nil]; exact ho1
  refine ⟨fun mm tt q' nn i w' => ∃ e : Nat, e ≤ 8 ∧ mm = 8 - e ∧ some ⟨b, 0, none⟩ = tt ∧ q = q' ∧ nn = ((Lvi T e).length : Int) ∧ i = (e : Int) ∧ Own w' q (fnArr 32 (keepF (kp (Lvi T e)))) (275) ∧ Tab w' b n t rest T l m ∧ Ext [] w w', _,
    ⟨0, by omega, rfl, rfl, rfl, rfl, rfl, ho1', h.ext0 he1, he1⟩, ?_⟩
  rintro mm tt q' nn i w' ⟨e, he8, rfl, rfl, rfl, rfl, rfl, ho, ht, he⟩
  unfold kv_table_rebuild.L1b
  refine Bm.ite (fun hlt8 => Pn.mk ⟨⟨by omega, by omega⟩, ht.ldS (by omega) ?_⟩) fun hge => ?_
  · have hsame : lv (T e) = [] → Lvi T (e + 1) = Lvi T e := fun hn => by rw [Lvi_succ, hn, List.append_nil]
    have skip : lv (T e) = [] → kv_table_rebuild.B2 (some ⟨b, 0, none⟩) q ((Lvi T e).length : Int) (e : Int) w' (fun tt q' nn i w' => ∃ m', m' < 8 - e ∧ ∃ e : Nat, e ≤ 8 ∧ m' = 8 - e ∧ some ⟨b, 0, none⟩ = tt ∧ q = q' ∧ nn = ((Lvi T e).length : Int) ∧ i = (e : Int) ∧ Own w' q (fnArr 32 (keepF (kp (Lvi T e)))) (275) ∧ Tab w' b n t rest T l m ∧ Ext [] w w') R := by
      intro hn
      unfold kv_table_rebuild.B2
      exact ⟨8 - (e + 1), by omega, e + 1, by omega, rfl, rfl, rfl, by rw [hsame hn], by rw [w64 (by omega) (by omega)]; omega, by rw [hsame hn]; exact ho, ht, he⟩
    rcases ci_state (T e) with ⟨h0, hc⟩ | ⟨h0, hc⟩ | ⟨p, h0, hc⟩
    · rw [h0]
      refine Bm.neg rfl ?_
      unfold kv_table_rebuild.B1
      exact Bm.neg rfl (skip (by rw [hc]; rfl))
    · rw [h0]
      refine Bm.neg rfl ?_
      unfold kv_table_rebuild.B1
      exact Bm.neg rfl (skip (by rw [hc]; rfl))
    · rw [h0]
      have hsucc : Lvi T (e + 1) = Lvi T e ++ [p] := by rw [Lvi_succ, hc]; rfl
      have hle := Lvi_le (T := T) (n := e + 1) (m := 8) (by omega)
      rw [hsucc, List.length_append] at hle
      simp only [List.length_cons, List.length_nil] at hle
      have h4' : (Lvi T 8).length ≤ 4 := h4
      refine Bm.pos rfl ?_
      unfold kv_table_rebuild.B1
      rw [decide_eq_true (show (((Lvi T e).length : Int)) < 4 by omega)]
      refine Bm.pos rfl (Pn.mk ⟨⟨by omega, by omega⟩, ht.ld (by omega) ⟨⟨by omega, by omega⟩, ?_⟩⟩)
      refine st8 (c := T e) (o := (Lvi T e).length * 8) ho (by rw [add_mk, Int.toNat_natCast, Nat.zero_add]) (by omega) (fun j hj => keepF_put) fun w2 hs2 ho2 he2 => ?_
      rw [hc, kp_snoc, ← hsucc] at ho2
      unfold kv_table_rebuild.B2
      have hge := he1.size
      refine ⟨8 - (e + 1), by omega, e + 1, by omega, rfl, rfl, rfl, ?_, by rw [w64 (by omega) (by omega)]; omega, ho2, ht.ext he2 (by simp; omega), he.trans' he2 (fun y hy hl => by simp at hy; omega)⟩
      rw [w64 (by omega) (by omega), hsucc, List.length_append]
      simp
  have e8 : e = 8 := by omega
  subst e8
  have hb1 := he.size
  refine ⟨fun mm tt q' nn i w' => ∃ e : Nat, e ≤ 8 ∧ mm = 8 - e ∧ some ⟨b, 0, none⟩ = tt ∧ q = q' ∧ nn = ((Lv T).length : Int) ∧ i = (e : Int) ∧ Own w' q (fnArr 32 (keepF (kp (Lv T)))) (275) ∧ Tab w' b n t rest (wipe T e) l m ∧ Ext [b] w w', _,
    ⟨0, by omega, rfl, rfl, rfl, rfl, rfl, ho, by rw [wipe_zero]; exact ht, he.nil⟩, ?_⟩
  clear ht he ho hb1 w'
  rintro mm tt q' nn i w' ⟨e, he8, rfl, rfl, rfl, rfl, rfl, ho, ht, he⟩
  have hqb : q ≠ b := by omega
  unfold kv_table_rebuild.L2b
  refine Bm.ite (fun hlt8 => Pn.mk ⟨⟨by omega, by omega⟩, ?_⟩) fun hge => ?_
  · refine ht.st (c := none) (by omega) fun w2 hs2 ht2 he2 => ?_
    rw [wipe_succ] at ht2
    exact ⟨8 - (e + 1), by omega, e + 1, by omega, rfl, rfl, rfl, rfl, by rw [w64 (by omega) (by omega)]; omega, he2.own ho (by simp; exact hqb), ht2, he.trans he2⟩
  have e8 : e = 8 := by omega
  subst e8
  have ht0 : Tab w' b n t rest (fun _ => none) l m := ht.congr fun i hi => by unfold wipe; rw [if_pos hi]
  refine Pn.mk (ht0.stL fun w2 hs2 ht2 he2 => Pn.mk (ht2.stM fun w3 hs3 ht3 he3 => ?_))
  refine ⟨fun mm tt q' nn j w' => ∃ e : Nat, e ≤ (Lv T).length ∧ mm = (Lv T).length - e ∧ some ⟨b, 0, none⟩ = tt ∧ q = q' ∧ nn = ((Lv T).length : Int) ∧ j = (e : Int) ∧ Own w' q (fnArr 32 (keepF (kp (Lv T)))) (275) ∧ (∃ T', TInv T' ∧ (Lv T').Perm ((Lv T).take e) ∧ tombs T' = 0 ∧ Tab w' b n t rest T' (e : Int) 0) ∧ Ext [b] w w', _,
    ⟨0, by omega, rfl, rfl, rfl, rfl, rfl, he3.own (he2.own ho (by simp; exact hqb)) (by simp; exact hqb), ⟨_, TInv.empty, by rw [Lv_empty, List.take_zero], tombs_empty, ht3⟩, (he.trans he2).trans he3⟩, ?_⟩
  clear ht he ho ht0 ht2 ht3 he2 he3 hs2 hs3 w2 w3 w'
  rintro mm tt q' nn j w' ⟨e, hel, rfl, rfl, rfl, rfl, rfl, ho, ⟨T', hT', hp', htm', ht⟩, he⟩
  unfold kv_table_rebuild.L3b
  refine Bm.ite (fun hlt8 => ⟨⟨by omega, by omega⟩, ?_⟩) fun hge => ?_
  · have hel' : e < (Lv T).length := by omega
    obtain ⟨p, hp⟩ : ∃ p, (Lv T)[e]? = some p := ⟨_, List.getElem?_eq_getElem hel'⟩
    have hkp := kp_at hp
    obtain ⟨i0, hi0, ei0⟩ := mem_Lv.1 (List.mem_of_getElem? hp)
    have hpo := hT.ok i0 hi0 p ei0
    refine ld8 (c := some (some p)) (o := e * 8) ho (by rw [add_mk, Int.toNat_natCast, Nat.zero_add]) (by omega) (fun j hj => by rw [keepF_cell hj, hkp]) ?_
    refine keyOf_ok hpo fun w2 he2 => ?_
    have hlen : (Lv T').length = e := by rw [hp'.length_eq, List.length_take]; omega
    have ho2 := he2.own ho (by simp)
    refine room_ok (ht.ext0 he2) (by have := hpo.2.1; omega) (by omega) fun d hd hf hbf => ⟨⟨by omega, by omega⟩, ?_⟩
    refine ld8 (c := some (some p)) (o := e * 8) ho2.drew (by rw [add_mk, Int.toNat_natCast, Nat.zero_add]) (by omega) (fun j hj => by rw [keepF_cell hj, hkp]) ?_
    refine Pn.mk ⟨⟨by omega, by have := pos_lt p.1 d; omega⟩, ?_⟩
    refine (ht.ext0 he2).drew.st (c := some (some p)) (pos_lt p.1 d) fun w3 hs3 ht3 he3 => Pn.mk (ht3.ldL (Pn.mk (ht3.stL fun w4 hs4 ht4 he4 => ?_)))
    have habs : Absent T' p.1 := by
      refine (absent_iff hp').2 fun x hx => ?_
      have hk := List.pairwise_iff_getElem.1 (Lvi_keys hT 8 (Nat.le_refl _))
      obtain ⟨y, hy⟩ := List.getElem?_of_mem hx
      rw [List.getElem?_take] at hy
      split at hy
      · rename_i hye
        have h1 := (List.getElem?_eq_some_iff.1 hy)
        have h2 := (List.getElem?_eq_some_iff.1 hp)
        have := hk y e h1.1 hel' hye
        have e1 : (Lvi T 8)[y]'h1.1 = x := h1.2
        have e2 : (Lvi T 8)[e]'hel' = p := h2.2
        rw [e1, e2] at this
        exact this
      · cases hy
    have htk : (Lv T).take (e + 1) = (Lv T).take e ++ [p] := by rw [List.take_add_one, hp]; rfl
    refine ⟨(Lv T).length - (e + 1), by omega, e + 1, by omega, rfl, rfl, rfl, rfl, by rw [w64 (by omega) (by omega)]; omega, he4.own (he3.own ho2.drew (by simp; exact hqb)) (by simp; exact hqb), ⟨_, hT'.add hpo habs hd hf hbf, ?_, ?_, ?_⟩, ?_⟩
    · rw [htk]
      exact ((Lv_add (pos_lt _ _) hf p).trans (hp'.cons p)).trans (List.perm_append_singleton ..).symm
    · have := tombs_upd T' (pos_lt p.1 d) (some (some p))
      simp only [tm, List.length_nil] at this
      omega
    · rw [w64 (by omega) (by omega)] at ht4
      exact ht4
    · exact (((he.trans he2.nil).trans (Ext.drew _ _)).trans he3).trans he4
  · have hee : e = (Lv T).length := by omega
    subst hee
    rw [List.take_length] at hp'
    exact hR w' T' hT' hp' htm' ht he
/-- What the table keeps true. -/
structure TGood (T : Tb) (l m : Int) : Prop where
  inv : TInv T
  live : l = ((Lv T).length : Int)
  tomb : m = (tombs T : Int)
  le : (Lv T).length ≤ 4
  lt : (Lv T).length + tombs T < 6
theorem add_ok {k v : ByteArray} {R : World → Prop} (h : Tab w b n t rest T l m) (hg : TGood T l m) (hp : PairOk (k, v)) (ha : Absent T k) (hl : (Lv T).length < 4)
    (hR : ∀ w' T' m', TGood T' (l + 1) m' → (Lv T').Perm ((k, v) :: Lv T) → Tab w' b n t rest T' (l + 1) m' → Ext [b] w w' → R w') : kv_table_add.Call (some ⟨b, 0, none⟩) k v w R := by
  apply kv_table_add.sound
  unfold kv_table_add.B0
  have hlive := hg.live
  have htomb := hg.tomb
  have hlt6 := hg.lt
  refine room_ok h (by have := hp.2.1; simp at this; omega) (by omega) fun d hd hf hbf => Pn.mk ⟨⟨by omega, by have := pos_lt k d; omega⟩, h.ldS (pos_lt k d) ?_⟩
  have hinv : TInv (upd T (pos k d) (some (some (k, v)))) := hg.inv.add hp ha hd hf hbf
  have hperm := Lv_add (pos_lt k d) hf (k, v)
  have htm := tombs_upd T (pos_lt k d) (some (some (k, v)))
  simp only [tm, List.length_nil] at htm
  have hlen := hperm.length_eq
  rw [List.length_cons] at hlen
  have rest_ : ∀ w1 m1, Tab w1 b n t rest T l m1 → Ext [b] w w1 → m1 = (tombs (upd T (pos k d) (some (some (k, v)))) : Int) → kv_table_add.B1 (some ⟨b, 0, none⟩) k v (pos k d : Int) w1 R := by
    intro w1 m1 h1 he1 hm1
    unfold kv_table_add.B1
    refine Pn.mk (mkCell_ok hp.2.1 hp.2.2 fun w2 he2 => ⟨⟨by omega, by have := pos_lt k d; omega⟩, ?_⟩)
    refine (h1.drew.ext0 he2).st (c := some (some (k, v))) (pos_lt k d) fun w3 hs3 h3 he3 => Pn.mk (h3.ldL (Pn.mk (h3.stL fun w4 hs4 h4 he4 => Pn.mk (h4.drew.ldL (Pn.mk (h4.drew.ldM ?_))))))
    have he : Ext [b] w w4.drew := ((((he1.trans (Ext.drew _ _)).trans he2.nil).trans he3).trans he4).trans (Ext.drew _ _)
    rw [w64 (x := l + 1) (by omega) (by omega)] at h4
    rw [w64 (x := l + 1) (by omega) (by omega), w64 (by omega) (by omega)]
    refine Bm.ite (fun hge => ?_) fun hlt => ?_
    · refine rebuild_ok h4.drew hinv (by omega) fun w5 T' hT' hp' ht' h5 he5 => hR w5 T' 0 ⟨hT', ?_, by omega, ?_, ?_⟩ (hp'.trans hperm) ?_ (he.trans he5)
      · rw [hp'.length_eq]; omega
      · rw [hp'.length_eq]; omega
      · rw [hp'.length_eq]; omega
      · rw [hlen] at h5
        rw [show l + 1 = (((Lv T).length + 1 : Nat) : Int) by omega]
        exact h5
    · exact hR w4.drew _ m1 ⟨hinv, by omega, hm1, by omega, by omega⟩ hperm h4.drew he
  rcases ci_state (T (pos k d)) with ⟨h0, hc⟩ | ⟨h0, hc⟩ | ⟨p, h0, hc⟩
  · rw [h0]
    rw [hc] at htm
    simp only [List.length_nil] at htm
    exact Bm.neg rfl (rest_ w m h (Ext.refl _ _) (by omega))
  · rw [h0]
    rw [hc] at htm
    simp only [List.length_cons, List.length_nil] at htm
    refine Bm.pos rfl (Pn.mk (h.ldM (Pn.mk (h.stM fun w1 hs1 h1 he1 => rest_ w1 _ h1 he1 ?_))))
    rw [w64 (by omega) (by omega)]
    omega
  · rw [hc] at hf
    cases hf
theorem drop_ok {i : Nat} {q : Pair} {R : World → Prop} (h : Tab w b n t rest T l m) (hg : TGood T l m) (hi : i < 8) (hq : T i = some (some q))
    (hR : ∀ w', TGood (upd T i (some none)) (l - 1) (m + 1) → Tab w' b n t rest (upd T i (some none)) (l - 1) (m + 1) → Ext [b] w w' → R w') : kv_table_drop.Call (some ⟨b, 0, none⟩) (i : Int) w R := by
  apply kv_table_drop.sound
  unfold kv_table_drop.B0
  have hlive := hg.live
  have htomb := hg.tomb
  have hlt6 := hg.lt
  have hle := hg.le
  refine Pn.mk ⟨⟨by omega, by omega⟩, h.st (c := some none) hi fun w1 hs1 h1 he1 => Pn.mk (h1.ldL (Pn.mk (h1.stL fun w2 hs2 h2 he2 => Pn.mk (h2.ldM (Pn.mk (h2.stM fun w3 hs3 h3 he3 => ?_))))))⟩
  rw [w64 (by omega) (by omega), w64 (by omega) (by omega)] at h3
  have hperm := (Lv_upd T hi (some none)).length_eq
  have htm := tombs_upd T hi (some none)
  rw [hq] at hperm htm
  simp only [lv, tm, List.length_append, List.length_cons, List.length_nil] at hperm htm
  exact hR w3 ⟨hg.inv.drop i, by omega, by omega, by omega, by omega⟩ h3 ((he1.trans he2).trans he3)
end
end Go.Proofs.Qxb6500430aGreat.Kv
