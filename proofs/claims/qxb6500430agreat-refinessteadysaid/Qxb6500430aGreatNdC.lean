/-
  node: the real decoder.
-/
import Derived.Test.Qxb6500430aGreatNdB
set_option linter.unusedVariables false
set_option linter.unusedSimpArgs false
open Go.Vc
namespace Go.Proofs.Qxb6500430aGreat
open Kv
section
variable {w w' : World} {d e : Nat} {s : ByteArray} {o : Ol}
def decC (s : ByteArray) (p : Int) (e : Nat) (bad : Bool) : Array Value := #[.string s, .int .i64 p, .int .i64 (e : Int), .bool bad]
def DAt (w : World) (d : Nat) (s : ByteArray) (e : Nat) (o : Ol) : Prop := ∃ p : Int, Own w d (decC s p e o.isNone) T_node_dec ∧ ∀ L, o = some L → ∃ n : Nat, p = n ∧ n ≤ e ∧ L = ((strB s).take e).drop n
theorem DAt.ext {X : List Nat} (h : DAt w d s e o) (he : Ext X w w') (hd : d ∉ X) : DAt w' d s e o := by
  obtain ⟨p, ow, hp⟩ := h
  exact ⟨p, he.own ow hd, hp⟩
theorem DAt.ty (h : DAt w d s e o) : ∃ cs, Own w d cs T_node_dec := by
  obtain ⟨p, ow, hp⟩ := h
  exact ⟨_, ow⟩
theorem take_at {n : Nat} (hn : n < e) (he : e ≤ s.size) : ((strB s).take e).drop n = byteAt s (n : Int) :: ((strB s).take e).drop (n + 1) := by
  have hl := strB_length s
  rw [List.drop_eq_getElem_cons (by rw [List.length_take]; omega)]
  congr 1
  rw [List.getElem_take]
  have := strB_get (s := s) (i := n) (by omega)
  rw [List.getElem?_eq_getElem (by omega)] at this
  exact Option.some.inj this
theorem take_end {n : Nat} (hn : e ≤ n) : ((strB s).take e).drop n = [] := List.drop_of_length_le (by rw [List.length_take]; omega)
theorem decOne_ok {R : Int → World → Prop} (h : DAt w d s e o) (hs : e ≤ s.size) (h3 : e ≤ 300) (hR : ∀ w', DAt w' d s e (rOne o).2 → Ext [d] w w' → R (rOne o).1 w') : node_dec_one.Call (some ⟨d, 0, none⟩) w R := by
  apply node_dec_one.sound
  unfold node_dec_one.B0
  obtain ⟨p, ow, hp⟩ := h
  have ow' : Own w.drew d (decC s p e o.isNone) T_node_dec := Own.drew ow
  have bad : rOne o = (0, none) → node_dec_one.B1 (some ⟨d, 0, none⟩) true w.drew R := fun hz => by
    unfold node_dec_one.B1
    refine Bm.pos rfl (Pn.mk ?_)
    rw [add_mk]
    refine Sts.mk ow' (by simp [decC]) rfl fun w1 hs1 o1 he1 => ?_
    have := hR w1 (by rw [hz]; exact ⟨p, o1, fun L hL => by cases hL⟩) ((Ext.drew [d] w).trans he1)
    rw [hz] at this
    exact this
  refine Pn.mk ?_
  rw [add_mk]
  refine LdB.mk ow' rfl ?_
  cases o with
  | none => exact Bm.pos rfl (bad rfl)
  | some L =>
    obtain ⟨n, rfl, hn, rfl⟩ := hp L rfl
    refine Bm.neg rfl (Pn.mk ?_)
    rw [add_mk]
    refine LdI.mk ow' rfl (Pn.mk ?_)
    rw [add_mk]
    refine LdI.mk ow' rfl ?_
    by_cases hne : (n : Int) ≥ (e : Int)
    · rw [decide_eq_true hne]
      exact bad (by rw [take_end (by omega)]; rfl)
    rw [decide_eq_false hne]
    unfold node_dec_one.B1
    have ow2 : Own w.drew.drew d (decC s n e false) T_node_dec := Own.drew ow'
    refine Bm.neg rfl (Pn.mk (LdS.mk ow2 rfl (Pn.mk ?_)))
    rw [add_mk]
    refine LdI.mk ow2 rfl ⟨⟨by omega, by omega⟩, Pn.mk ?_⟩
    rw [add_mk]
    refine LdI.mk ow2 rfl (Pn.mk ?_)
    rw [add_mk]
    refine Sts.mk ow2 (by simp [decC]) rfl fun w1 hs1 o1 he1 => ?_
    have hz : rOne (some (((strB s).take e).drop n)) = (byteAt s (n : Int), some (((strB s).take e).drop (n + 1))) := by rw [take_at (by omega) hs]; rfl
    have ob : Own w1 d (decC s ((n + 1 : Nat) : Int) e false) T_node_dec := by
      have e1 : IntKind.i64.wrap ((n : Int) + 1) = ((n + 1 : Nat) : Int) := by rw [w64 (by omega) (by omega)]; omega
      rw [e1] at o1
      exact o1
    have := hR w1 (by rw [hz]; exact ⟨_, ob, fun L hL => ⟨n + 1, rfl, by omega, (Option.some.inj hL).symm⟩⟩) (((Ext.drew [d] w).trans (Ext.drew [d] _)).trans he1)
    rw [hz] at this
    rw [wi_byte]
    exact this
theorem take8_eq {n : Nat} (h : n + 8 ≤ e) : (((strB s).take e).drop n).take 8 = ((strB s).drop n).take 8 := by
  rw [List.drop_take, List.take_take]
  congr 1
  omega
theorem decNum_ok {R : Int → World → Prop} (h : DAt w d s e o) (hs : e ≤ s.size) (h3 : e ≤ 300) (hR : ∀ w', DAt w' d s e (rNum o).2 → Ext [d] w w' → R (rNum o).1 w') : node_dec_num.Call (some ⟨d, 0, none⟩) w R := by
  apply node_dec_num.sound
  unfold node_dec_num.B0
  obtain ⟨p, ow, hp⟩ := h
  have ow' : Own w.drew d (decC s p e o.isNone) T_node_dec := Own.drew ow
  have bad : rNum o = (0, none) → node_dec_num.B1 (some ⟨d, 0, none⟩) true w.drew R := fun hz => by
    unfold node_dec_num.B1
    refine Bm.pos rfl (Pn.mk ?_)
    rw [add_mk]
    refine Sts.mk ow' (by simp [decC]) rfl fun w1 hs1 o1 he1 => ?_
    have := hR w1 (by rw [hz]; exact ⟨p, o1, fun L hL => by cases hL⟩) ((Ext.drew [d] w).trans he1)
    rw [hz] at this
    exact this
  refine Pn.mk ?_
  rw [add_mk]
  refine LdB.mk ow' rfl ?_
  cases o with
  | none => exact Bm.pos rfl (bad rfl)
  | some L =>
    obtain ⟨n, rfl, hn, rfl⟩ := hp L rfl
    have hB : IsB (((strB s).take e).drop n) := ((strB_isB s).take e).drop n
    have hlen : (((strB s).take e).drop n).length = e - n := by rw [List.length_drop, List.length_take, strB_length]; omega
    refine Bm.neg rfl (Pn.mk ?_)
    rw [add_mk]
    refine LdI.mk ow' rfl (Pn.mk ?_)
    rw [add_mk]
    refine LdI.mk ow' rfl ?_
    rw [w64 (x := (n : Int) + 8) (by omega) (by omega)]
    by_cases hne : (n : Int) + 8 > (e : Int)
    · rw [decide_eq_true hne]
      exact bad (rNum_neg hB (.inl (by omega)))
    rw [decide_eq_false hne]
    unfold node_dec_num.B1
    refine Bm.neg rfl ?_
    unfold node_dec_num.L1
    have hB2 : IsB ((strB s).drop n) := (strB_isB s).drop n
    refine ⟨fun m d' v i w' => ∃ j : Nat, j ≤ 8 ∧ m = 8 - j ∧ some ⟨d, 0, none⟩ = d' ∧ v = dec8 (((strB s).drop n).take j) ∧ i = (j : Int) ∧ Own w' d (decC s n e false) T_node_dec ∧ Ext [d] w w', _, ⟨0, by omega, rfl, rfl, by rw [List.take_zero]; rfl, rfl, ow', Ext.drew [d] w⟩, ?_⟩
    rintro m d' v i wa ⟨j, hj, rfl, rfl, rfl, rfl, oa, ea⟩
    unfold node_dec_num.L1b
    refine Bm.ite (fun hlt => ⟨by omega, Pn.mk (LdS.mk (Own.drew oa) rfl (Pn.mk ?_))⟩) fun hge => Pn.mk ?_
    · rw [add_mk]
      refine LdI.mk (Own.drew oa) rfl ?_
      rw [w64 (x := (n : Int) + (j : Int)) (by omega) (by omega)]
      refine ⟨⟨by omega, by omega⟩, 8 - (j + 1), by omega, j + 1, by omega, rfl, rfl, ?_, by rw [w64 (by omega) (by omega)]; omega, Own.drew oa, ea.trans (Ext.drew [d] wa)⟩
      show u8step _ _ = _
      have hbd := dec8_bd j (hB2.take j) (by rw [List.length_take, List.length_drop, strB_length]; omega) (by omega)
      have hx := Kv.byteAt_bd s ((n : Int) + (j : Int))
      have h7 : (256 : Int) ^ j ≤ 72057594037927936 := pow7 (by omega)
      rw [u8step_eq hbd.1 hx (by omega)]
      have e2 : ((strB s).drop n).take (j + 1) = ((strB s).drop n).take j ++ [byteAt s ((n : Int) + (j : Int))] := by
        rw [List.take_add_one, List.getElem?_drop, strB_get (by omega)]
        rfl
      rw [e2, dec8_snoc]
    · have e8 : j = 8 := by omega
      subst e8
      rw [add_mk]
      refine LdI.mk oa rfl (Pn.mk ?_)
      rw [add_mk]
      refine Sts.mk oa (by simp [decC]) rfl fun w1 hs1 o1 he1 => ?_
      have ob : Own w1 d (decC s ((n + 8 : Nat) : Int) e false) T_node_dec := by
        have e1 : IntKind.i64.wrap ((n : Int) + 8) = ((n + 8 : Nat) : Int) := by rw [w64 (by omega) (by omega)]; omega
        rw [e1] at o1
        exact o1
      have E1 := ea.trans he1
      have hbd := dec8_bd 8 (hB2.take 8) (by rw [List.length_take, List.length_drop, strB_length]; omega) (by omega)
      have gwe : gw (((strB s).take e).drop n) = if 72057594037927936 < dec8 (((strB s).drop n).take 8) then -1 else dec8 (((strB s).drop n).take 8) := by
        unfold gw
        rw [take8_eq (by omega)]
      refine Bm.ite (fun hgt => ?_) fun hle => ?_
      · rw [if_pos (by omega)] at gwe
        have hz := rNum_neg hB (.inr gwe)
        refine Pn.mk ?_
        rw [add_mk]
        refine Sts.mk ob (by simp [decC]) rfl fun w2 hs2 o2 he2 => ?_
        have := hR w2 (by rw [hz]; exact ⟨_, o2, fun L hL => by cases hL⟩) (E1.trans he2)
        rw [hz] at this
        exact this
      · rw [if_neg (by omega)] at gwe
        have hz := rNum_pos hB (by omega) (by omega)
        rw [gwe, List.drop_drop] at hz
        rw [w64 (by omega) (by omega)]
        have := hR w1 (by rw [hz]; exact ⟨_, ob, fun L hL => ⟨n + 8, rfl, by omega, (Option.some.inj hL).symm⟩⟩) E1
        rw [hz] at this
        exact this
theorem decText_ok {most : Int} {R : ByteArray → World → Prop} (h : DAt w d s e o) (hm : 0 ≤ most ∧ most ≤ 255) (hs : e ≤ s.size) (h3 : e ≤ 300) (hR : ∀ w', DAt w' d s e (rText most o).2 → Ext [d] w w' → R (rText most o).1 w') : node_dec_text.Call (some ⟨d, 0, none⟩) most w R := by
  apply node_dec_text.sound
  unfold node_dec_text.B0
  refine decOne_ok h hs h3 fun w1 h1 he1 => ?_
  obtain ⟨p, ow, hp⟩ := h1
  have ow' : Own w1.drew d (decC s p e (rOne o).2.isNone) T_node_dec := Own.drew ow
  have E1 : Ext [d] w w1.drew := he1.trans (Ext.drew [d] w1)
  have bad : rText most o = (estr, none) → node_dec_text.B1 (some ⟨d, 0, none⟩) (rOne o).1 true w1.drew R := fun hz => by
    unfold node_dec_text.B1
    refine Bm.pos rfl (Pn.mk ?_)
    rw [add_mk]
    refine Sts.mk ow' (by simp [decC]) rfl fun w2 hs2 o2 he2 => ?_
    have := hR w2 (by rw [hz]; exact ⟨p, o2, fun L hL => by cases hL⟩) (E1.trans he2)
    rw [hz] at this
    exact this
  refine Pn.mk ?_
  rw [add_mk]
  refine LdB.mk ow' rfl ?_
  cases o with
  | none => exact Bm.pos rfl (bad rfl)
  | some L0 =>
    obtain ⟨p0, ow0, hp0⟩ := h
    obtain ⟨n0, _, hn0, rfl⟩ := hp0 L0 rfl
    by_cases hne : e ≤ n0
    · rw [take_end hne] at bad ⊢
      exact Bm.pos rfl (bad rfl)
    have hz1 : rOne (some (((strB s).take e).drop n0)) = (byteAt s (n0 : Int), some (((strB s).take e).drop (n0 + 1))) := by rw [take_at (by omega) hs]; rfl
    have hL : ((strB s).take e).drop n0 = byteAt s (n0 : Int) :: ((strB s).take e).drop (n0 + 1) := take_at (by omega) hs
    rw [hz1] at hp ow' bad ⊢
    obtain ⟨n, rfl, hn, hnL⟩ := hp _ rfl
    have hlen : (((strB s).take e).drop (n0 + 1)).length = e - (n0 + 1) := by rw [List.length_drop, List.length_take, strB_length]; omega
    have hnn : n = n0 + 1 := by
      have := congrArg List.length hnL
      rw [hlen, List.length_drop, List.length_take, strB_length] at this
      omega
    subst hnn
    have hb := Kv.byteAt_bd s (n0 : Int)
    -- the text, or none
    have txt : rText most (some (((strB s).take e).drop n0)) = if byteAt s (n0 : Int) ≤ most ∧ byteAt s (n0 : Int) ≤ ((e - (n0 + 1) : Nat) : Int) then (bStr ((((strB s).take e).drop (n0 + 1)).take (byteAt s (n0 : Int)).toNat), some ((((strB s).take e).drop (n0 + 1)).drop (byteAt s (n0 : Int)).toNat)) else (estr, none) := by
      show (match takeS 0 most (((strB s).take e).drop n0) with | some (x, M) => (x, some M) | none => (estr, none)) = _
      rw [hL, takeS_cons, hlen]
      by_cases hc : byteAt s (n0 : Int) ≤ most ∧ byteAt s (n0 : Int) ≤ ((e - (n0 + 1) : Nat) : Int)
      · rw [if_pos ⟨hb.1, hc⟩, if_pos hc]
      · rw [if_neg (fun q => hc q.2), if_neg hc]
    refine Bm.neg rfl (Bm.ite (fun hgt => bad (by rw [txt, if_neg (by omega)])) fun hle => Pn.mk ?_)
    rw [add_mk]
    refine LdI.mk ow' rfl (Pn.mk ?_)
    rw [add_mk]
    refine LdI.mk ow' rfl ?_
    rw [w64 (x := ((n0 + 1 : Nat) : Int) + byteAt s (n0 : Int)) (by omega) (by omega)]
    by_cases hov : ((n0 + 1 : Nat) : Int) + byteAt s (n0 : Int) > (e : Int)
    · rw [decide_eq_true hov]
      exact bad (by rw [txt, if_neg (by omega)])
    rw [decide_eq_false hov]
    rw [if_pos (by omega)] at txt
    unfold node_dec_text.B1
    have ow2 : Own w1.drew.drew d (decC s ((n0 + 1 : Nat) : Int) e false) T_node_dec := Own.drew ow'
    refine Bm.neg rfl (Pn.mk (LdS.mk ow2 rfl (Pn.mk ?_)))
    rw [add_mk]
    refine LdI.mk ow2 rfl (Pn.mk ?_)
    rw [add_mk]
    refine LdI.mk ow2 rfl ?_
    rw [w64 (x := ((n0 + 1 : Nat) : Int) + byteAt s (n0 : Int)) (by omega) (by omega)]
    refine ⟨⟨by omega, by omega⟩, ⟨by omega, by omega⟩, Pn.mk ?_⟩
    rw [add_mk]
    refine LdI.mk ow2 rfl (Pn.mk ?_)
    rw [add_mk]
    refine Sts.mk ow2 (by simp [decC]) rfl fun w2 hs2 o2 he2 => ?_
    obtain ⟨y, hy⟩ : ∃ y : Nat, byteAt s (n0 : Int) = y := ⟨(byteAt s (n0 : Int)).toNat, by omega⟩
    have e1 : IntKind.i64.wrap (((n0 + 1 : Nat) : Int) + byteAt s (n0 : Int)) = ((n0 + 1 + y : Nat) : Int) := by rw [w64 (by omega) (by omega), hy]; omega
    have ob : Own w2 d (decC s ((n0 + 1 + y : Nat) : Int) e false) T_node_dec := by
      rw [e1] at o2
      exact o2
    rw [hy, Int.toNat_natCast] at txt
    have e2 : s.extract ((n0 + 1 : Nat) : Int).toNat (((n0 + 1 : Nat) : Int) + byteAt s (n0 : Int)).toNat = bStr ((((strB s).take e).drop (n0 + 1)).take y) := by
      have q1 : (((n0 + 1 : Nat) : Int) + byteAt s (n0 : Int)).toNat = (n0 + 1) + y := by omega
      rw [q1, Int.toNat_natCast, cut_eq (by omega), List.drop_take, List.take_take]
      congr 2
      omega
    rw [e2]
    have := hR w2 (by rw [txt]; exact ⟨_, ob, fun L hL => ⟨n0 + 1 + y, rfl, by omega, by rw [← Option.some.inj hL, List.drop_drop]⟩⟩) ((E1.trans (Ext.drew [d] _)).trans he2)
    rw [txt] at this
    exact this
theorem sumOf_ok {R : Int → World → Prop} (hs : e ≤ s.size) (h3 : e ≤ 300) (hR : R (sumL ((strB s).take e)) w) : node_sumOf.Call s (e : Int) w R := by
  apply node_sumOf.sound
  unfold node_sumOf.B0 node_sumOf.L1
  refine ⟨fun m s' e' sum i w' => ∃ n : Nat, n ≤ e ∧ m = e - n ∧ s = s' ∧ (e : Int) = e' ∧ sum = sumL ((strB s).take n) ∧ i = (n : Int) ∧ w = w', _, ⟨0, by omega, rfl, rfl, rfl, by rw [List.take_zero]; rfl, rfl, rfl⟩, ?_⟩
  rintro m s' e' sum i w' ⟨n, hn, rfl, rfl, rfl, rfl, rfl, rfl⟩
  unfold node_sumOf.L1b
  have hb := Kv.byteAt_bd s (n : Int)
  refine Bm.ite (fun hlt => ⟨⟨by omega, by omega⟩, mix_ok (sumL_bd _) hb ⟨e - (n + 1), by omega, n + 1, by omega, rfl, rfl, rfl, ?_, by rw [w64 (by omega) (by omega)]; omega, rfl⟩⟩) fun hge => ?_
  · rw [← take_strB_succ (by omega), sumL_snoc]
  · have : n = e := by omega
    subst this
    exact hR
abbrev RDec := Int → Int → Int → Int → Int → Int → Int → Bool → Option Addr → Nat → Nat → ByteArray → Bool → World → Prop
def z0 : MsgV := ⟨0, 0, 0, 0, 0, 0, 0, false, [], estr⟩
theorem decode_ok {R : RDec} (hR : ∀ (m : MsgV) rb rc w', decM s = some m → EA w' rb m.ents.length rc m.ents → Ext [] w w' → R m.kind m.fr m.to m.term m.idx m.lt m.cm m.ok rb m.ents.length rc m.data true w')
    (hN : ∀ w', decM s = none → Ext [] w w' → R 0 0 0 0 0 0 0 false none 0 0 estr false w') : node_decode.Call s w R := by
  apply node_decode.sound
  unfold node_decode.B0
  refine New.mk fun t2 w1 ht2 hs1 ot1 he1 => ?_
  have z1 := he1.size
  -- the zero message
  have retZ : ∀ {wx : World} {cs : Array Value}, decM s = none → Own wx t2 cs T_api_Msg → cs.size = 10 → Ext [] w wx →
      Sts (msgC z0 none 0 0) ⟨t2, 0, none⟩ 0 wx fun w1 => LdI .i64 ⟨t2, 0, none⟩ w1 fun r_0 => LdI .i64 ⟨t2, 1, none⟩ w1 fun r_1 => LdI .i64 ⟨t2, 2, none⟩ w1 fun r_2 => LdI .i64 ⟨t2, 3, none⟩ w1 fun r_3 => LdI .i64 ⟨t2, 4, none⟩ w1 fun r_4 => LdI .i64 ⟨t2, 5, none⟩ w1 fun r_5 => LdI .i64 ⟨t2, 6, none⟩ w1 fun r_6 => LdB ⟨t2, 7, none⟩ w1 fun r_7 => LdL ⟨t2, 8, none⟩ w1 fun r_8_b r_8_l r_8_c => LdS ⟨t2, 9, none⟩ w1 fun r_9 => R r_0 r_1 r_2 r_3 r_4 r_5 r_6 r_7 r_8_b r_8_l r_8_c r_9 false w1 := fun {wx cs} hd ot hsz he => by
    refine Sts.full (vs := msgC z0 none 0 0) ot (by rw [hsz]; rfl) rfl fun w7 hs7 o7 he7 => ldMsg o7 (hN w7 hd (he.trans' he7 (fun y hy hl => by simp at hy; omega)))
  by_cases h40 : ((s.size : Nat) : Int) < 40
  · refine Bm.pos (decide_eq_true h40) ?_
    unfold node_decode.B1
    exact Bm.pos rfl (retZ (by unfold decM; rw [if_pos (by omega)]) ot1 rfl he1)
  refine Bm.neg (decide_eq_false h40) ?_
  by_cases h234 : ((s.size : Nat) : Int) > 234
  · rw [decide_eq_true h234]
    unfold node_decode.B1
    exact Bm.pos rfl (retZ (by unfold decM; rw [if_pos (by omega)]) ot1 rfl he1)
  rw [decide_eq_false h234]
  unfold node_decode.B1
  refine Bm.neg rfl ?_
  obtain ⟨e, he⟩ : ∃ e : Nat, s.size = e + 2 := ⟨s.size - 2, by omega⟩
  have ew : IntKind.i64.wrap (((s.size : Nat) : Int) - 2) = (e : Int) := by rw [w64 (by omega) (by omega)]; omega
  rw [ew]
  have ew1 : IntKind.i64.wrap ((e : Int) + 1) = ((s.size : Nat) : Int) - 1 := by rw [w64 (by omega) (by omega)]; omega
  have hsum : decM s = if sumL ((strB s).take e) ≠ byteAt s (e : Int) * 256 + byteAt s (((s.size : Nat) : Int) - 1) then none else decD ((strB s).take e) := by
    unfold decM
    rw [if_neg (by omega)]
    have q1 : s.size - 2 = e := by omega
    have q2 : ((s.size : Nat) : Int) - 2 = (e : Int) := by omega
    rw [q1, q2]
  refine sumOf_ok (by omega) (by omega) ⟨⟨by omega, by omega⟩, by omega, ⟨by rw [ew1]; omega, by rw [ew1]; omega⟩, ?_⟩
  rw [ew1]
  have ob1 := Kv.byteAt_bd s (e : Int)
  have ob2 := Kv.byteAt_bd s (((s.size : Nat) : Int) - 1)
  have ow8 := orW8_eq ob1 ob2
  have ot1d : Own w1.drew t2 _ T_api_Msg := Own.drew ot1
  have E1d : Ext [] w w1.drew := he1.trans (Ext.drew [] w1)
  show Bm (sumL ((strB s).take e) != orW8 (byteAt s (e : Int)) (byteAt s (((s.size : Nat) : Int) - 1))) _ _
  rw [ow8]
  refine Bm.mk (fun hne => ?_) fun heq => ?_
  · refine retZ ?_ ot1d rfl E1d
    rw [hsum, if_pos]
    intro hq
    rw [hq] at hne
    simp at hne
  have heq' : sumL ((strB s).take e) = byteAt s (e : Int) * 256 + byteAt s (((s.size : Nat) : Int) - 1) := by simpa using heq
  rw [if_neg (by simp [heq'])] at hsum
  refine New.mk fun d w4 hd hs4 od he4 => New.mk fun m0 w5 hm0 hs5 om he5 => ?_
  have E5 := (E1d.trans he4).trans he5
  have z4 := he4.size
  have z1d : w1.heap.size = w1.drew.heap.size := rfl
  have hse : e ≤ s.size := by omega
  have h3 : e ≤ 300 := by omega
  let B := (strB s).take e
  have dd5 : DAt w5 d s e (some B) := ⟨0, he5.own od (by simp), fun L hL => ⟨0, rfl, by omega, (Option.some.inj hL).symm⟩⟩
  have om5 : Own w5 m0 (msgC z0 none 0 0).toArray T_api_Msg := om
  have ot5 := (he4.trans he5).own ot1d (by simp)
  have hdm : d ≠ m0 := by omega
  -- a store into the message
  have frD : ∀ {wx wy : World} {o : Ol} {cs : Array Value}, DAt wx d s e o → Own wx m0 cs T_api_Msg → Ext [m0] wx wy → DAt wy d s e o := fun {wx wy o cs} h ho he => h.ext he (by simpa using hdm)
  have frM : ∀ {wx wy : World} {cs : Array Value}, Own wx m0 cs T_api_Msg → Ext [d] wx wy → Own wy m0 cs T_api_Msg := fun {wx wy cs} ho he => he.own ho (by simpa using hdm.symm)
  have frT : ∀ {wx wy : World} {cs : Array Value}, Ext [d, m0] wx wy → Own wx t2 cs T_api_Msg → Own wy t2 cs T_api_Msg := fun {wx wy cs} he ho => he.own ho (by simp; omega)
  have u1 : ∀ {wx wy : World}, Ext [d] wx wy → Ext [d, m0] wx wy := fun {wx wy} he => he.mono fun k hk _ => by simp at hk; simp [hk]
  have u2 : ∀ {wx wy : World}, Ext [m0] wx wy → Ext [d, m0] wx wy := fun {wx wy} he => he.mono fun k hk _ => by simp at hk; simp [hk]
  refine decOne_ok dd5 hse h3 fun w6 d6 e6 => Sts.mk (frM om5 e6) (by simp [msgC]) rfl fun w7 _ o7 e7 => ?_
  have d7 := frD d6 (frM om5 e6) e7
  refine decOne_ok d7 hse h3 fun w8 d8 e8 => Sts.mk (frM o7 e8) (by rw [size_putArr]; simp [msgC]) rfl fun w9 _ o9 e9 => ?_
  have d9 := frD d8 (frM o7 e8) e9
  refine decOne_ok d9 hse h3 fun w10 d10 e10 => Sts.mk (frM o9 e10) (by rw [size_putArr, size_putArr]; simp [msgC]) rfl fun w11 _ o11 e11 => ?_
  have d11 := frD d10 (frM o9 e10) e11
  have E11 := ((((u1 e6).trans (u2 e7)).trans (u1 e8)).trans (u2 e9)).trans ((u1 e10).trans (u2 e11))
  have o11' : Own w11 m0 (msgC { z0 with kind := (rHead B).k, fr := (rHead B).f, to := (rHead B).t } none 0 0).toArray T_api_Msg := o11
  refine decOne_ok d11 hse h3 fun w12 d12 e12 => decNum_ok d12 hse h3 fun w13 d13 e13 => ?_
  have o13 := frM (frM o11' e12) e13
  refine Sts.mk o13 (by simp [msgC]) rfl fun w14 _ o14 e14 => ?_
  have d14 := frD d13 o13 e14
  refine decNum_ok d14 hse h3 fun w15 d15 e15 => Sts.mk (frM o14 e15) (by rw [size_putArr]; simp [msgC]) rfl fun w16 _ o16 e16 => ?_
  have d16 := frD d15 (frM o14 e15) e16
  refine decNum_ok d16 hse h3 fun w17 d17 e17 => Sts.mk (frM o16 e17) (by rw [size_putArr, size_putArr]; simp [msgC]) rfl fun w18 _ o18 e18 => ?_
  have d18 := frD d17 (frM o16 e17) e18
  refine decNum_ok d18 hse h3 fun w19 d19 e19 => Sts.mk (frM o18 e19) (by rw [size_putArr, size_putArr, size_putArr]; simp [msgC]) rfl fun w20 _ o20 e20 => ?_
  have d20 := frD d19 (frM o18 e19) e20
  refine decOne_ok d20 hse h3 fun w21 d21 e21 => ?_
  have E20 := (((((u1 e12).trans (u1 e13)).trans (u2 e14)).trans ((u1 e15).trans (u2 e16))).trans ((u1 e17).trans (u2 e18))).trans ((u1 e19).trans (u2 e20))
  have E21 := (E11.trans E20).trans (u1 e21)
  have o21 : Own w21 m0 (msgC { z0 with kind := (rHead B).k, fr := (rHead B).f, to := (rHead B).t, term := (rHead B).tm, idx := (rHead B).ix, lt := (rHead B).lt, cm := (rHead B).cm } none 0 0).toArray T_api_Msg := frM o20 e21
  have d21' : DAt w21 d s e (rHead B).o := d21
  have ot21 := frT E21 ot5
  have decS : decM s = if (rHead B).dt.2 = some [] then some (rHead B).msg else none := hsum
  obtain ⟨H, hH⟩ : ∃ H, rHead B = H := ⟨_, rfl⟩
  rw [hH] at o21 d21' decS
  -- the end
  have b5 : ∀ {wx : World} {E : List EntV} {rb : Option Addr} {rc : Nat} (t : Bool), (t = true → H.dt.2 ≠ some []) → (t = false → H.dt.2 = some [] ∧ H.es.1 = E) → Own wx m0 (msgC ⟨H.k, H.f, H.t, H.tm, H.ix, H.lt, H.cm, false, E, H.dt.1⟩ rb E.length rc).toArray T_api_Msg → EA wx rb E.length rc E → Ext [d, m0] w5 wx → node_decode.B5 t2 m0 H.ok t wx R := fun {wx E rb rc} t ht hf om hea ex => by
    unfold node_decode.B5
    have otx := frT ex ot5
    have EX : Ext [] w wx := E5.trans' ex (fun y hy hl => by simp at hy; omega)
    refine Bm.mk (fun htt => ?_) fun hff => ?_
    · refine retZ ?_ otx rfl EX
      rw [decS, if_neg (ht htt)]
    · obtain ⟨h1, h2⟩ := hf hff
      have hdec : decM s = some H.msg := by rw [decS, if_pos h1]
      refine Sts.mk om (by simp [msgC]) rfl fun wy _ oy ey => ?_
      have oty : Own wy t2 _ T_api_Msg := ey.own otx (by simp; omega)
      have oy' : Own wy m0 (msgC H.msg rb H.msg.ents.length rc).toArray T_api_Msg := by
        have : H.msg = ⟨H.k, H.f, H.t, H.tm, H.ix, H.lt, H.cm, H.ok == 1, E, H.dt.1⟩ := by unfold Hd.msg; rw [h2]
        rw [this]
        exact oy
      have hents : H.msg.ents = E := h2
      refine retMsg (R := fun a b c d e f g h i j k l w => R a b c d e f g h i j k l true w) oy' oty rfl fun wz ez => hR H.msg rb rc wz hdec ?_ ((EX.trans' ey (fun y hy hl => by simp at hy; omega)).trans' ez (fun y hy hl => by simp at hy; omega))
      rw [hents]
      have tyM := Tys.one om
      have tyT := Tys.one oty
      exact rowT (rowT hea ey tyM (by decide)) ez tyT (by decide)
  -- behind the tests
  have b3 : ∀ {wx : World}, DAt wx d s e H.o2 → Own wx m0 (msgC ⟨H.k, H.f, H.t, H.tm, H.ix, H.lt, H.cm, false, [], estr⟩ none 0 0).toArray T_api_Msg → Ext [d, m0] w5 wx → node_decode.B3 t2 d m0 H.ok H.n wx R := fun {wx} dx ox ex => by
    unfold node_decode.B3 node_decode.L1
    have hn0 : H.n = (H.n.toNat : Int) ∨ H.n < 0 := by omega
    refine ⟨fun mm t2' d' m0' ok' n' i w' => ∃ (j : Nat) (E : List EntV) (o : Ol) (rb : Option Addr) (rc : Nat), j ≤ H.n.toNat ∧ mm = H.n.toNat - j ∧ t2 = t2' ∧ d = d' ∧ m0 = m0' ∧ H.ok = ok' ∧ H.n = n' ∧ i = (j : Int) ∧ E.length = j ∧ H.es = (E ++ (rEnts (H.n.toNat - j) o).1, (rEnts (H.n.toNat - j) o).2) ∧ DAt w' d s e o ∧ Own w' m0 (msgC ⟨H.k, H.f, H.t, H.tm, H.ix, H.lt, H.cm, false, E, estr⟩ rb j rc).toArray T_api_Msg ∧ EA w' rb j rc E ∧ (H.n.toNat ≤ 2 ∨ o = none) ∧ (∀ k ∈ rowBlk rb, w5.heap.size ≤ k) ∧ Ext [d, m0] w5 w', _,
      ⟨0, [], H.o2, none, 0, by omega, rfl, rfl, rfl, rfl, rfl, rfl, rfl, rfl, rfl, dx, ox, EA.nil _, ?_, fun k hk => (by cases hk), ex⟩, ?_⟩
    · by_cases hb : H.bad = true
      · right
        unfold Hd.o2
        rw [if_pos hb]
      · left
        unfold Hd.bad at hb
        simp only [decide_eq_true_eq] at hb
        omega
    rintro mm t2' d' m0' ok' n' i wa ⟨j, E, o, rb, rc, hj, rfl, rfl, rfl, rfl, rfl, rfl, rfl, hEl, hes, da, oa, hea, hn2, hrb, ea⟩
    unfold node_decode.L1b
    have fin : (o = none ∨ H.n.toNat ≤ j) → ∀ t : Bool, t = false → node_decode.B4 t2 d m0 H.ok H.n (j : Int) t wa (fun t2' d' m0' ok' count' i' w' => ∃ m', m' < H.n.toNat - j ∧ ∃ (j : Nat) (E : List EntV) (o : Ol) (rb : Option Addr) (rc : Nat), j ≤ H.n.toNat ∧ m' = H.n.toNat - j ∧ t2 = t2' ∧ d = d' ∧ m0 = m0' ∧ H.ok = ok' ∧ H.n = count' ∧ i' = (j : Int) ∧ E.length = j ∧ H.es = (E ++ (rEnts (H.n.toNat - j) o).1, (rEnts (H.n.toNat - j) o).2) ∧ DAt w' d s e o ∧ Own w' m0 (msgC ⟨H.k, H.f, H.t, H.tm, H.ix, H.lt, H.cm, false, E, estr⟩ rb j rc).toArray T_api_Msg ∧ EA w' rb j rc E ∧ (H.n.toNat ≤ 2 ∨ o = none) ∧ (∀ k ∈ rowBlk rb, w5.heap.size ≤ k) ∧ Ext [d, m0] w5 w') R := fun hend t htt => by
      unfold node_decode.B4
      refine Bm.neg htt (decText_ok da (by omega) hse h3 fun wb db eb => Sts.mk (frM oa eb) (by simp [msgC]) rfl fun wc _ oc ec => ?_)
      have dc := frD db (frM oa eb) ec
      have Ec := (ea.trans (u1 eb)).trans (u2 ec)
      have hes2 : H.es.2 = o ∧ (o ≠ none → H.es.1 = E) := by
        rcases hend with hz | hz
        · subst hz
          refine ⟨?_, fun q => absurd rfl q⟩
          rw [hes]
          exact rEnts_none _
        · rw [show H.n.toNat - j = 0 by omega] at hes
          rw [hes]
          refine ⟨rfl, fun _ => by show E ++ [] = E; simp⟩
      have hdt : H.dt = rText 128 o := by unfold Hd.dt; rw [hes2.1]
      rw [← hdt] at dc oc
      have heac : EA wc rb j rc E := by
        obtain ⟨cs, odd⟩ := da.ty
        exact rowT (rowT hea eb (Tys.one odd) (by decide)) ec (Tys.one (frM oa eb)) (by decide)
      rw [← hEl] at heac oc
      have Ed : Ext [d, m0] w5 wc.drew := Ec.trans (Ext.drew _ wc)
      have ocd : Own wc.drew m0 (msgC ⟨H.k, H.f, H.t, H.tm, H.ix, H.lt, H.cm, false, E, H.dt.1⟩ rb E.length rc).toArray T_api_Msg := Own.drew oc
      have head : EA wc.drew rb E.length rc E := heac.ext0 (Ext.drew [] wc)
      obtain ⟨p, od9, hp9⟩ := dc
      have od9' : Own wc.drew d (decC s p e H.dt.2.isNone) T_node_dec := Own.drew od9
      refine LdB.mk od9' rfl ?_
      cases hdn : H.dt.2 with
      | none =>
        exact Bm.pos rfl (b5 true (fun _ => by rw [hdn]; simp) (fun q => by cases q) ocd head Ed)
      | some L =>
        obtain ⟨n, rfl, hn, hL⟩ := hp9 L hdn
        have hon : o ≠ none := fun q => by rw [q] at hdt; rw [hdt] at hdn; cases hdn
        refine Bm.neg rfl (LdI.mk od9' rfl (LdI.mk od9' rfl (b5 _ (fun q => ?_) (fun q => ?_) ocd head Ed)))
        · rw [hdn, hL]
          intro q2
          have := congrArg List.length (Option.some.inj q2)
          rw [List.length_drop, List.length_take, strB_length] at this
          simp at this
          have hne : n = e := by omega
          rw [hne] at q
          simp at q
        · have hne : n = e := by
            simp at q
            omega
          refine ⟨?_, hes2.2 hon⟩
          rw [hdn, hL, take_end (by omega)]
    by_cases hlt : (j : Int) < H.n
    · refine Bm.pos (decide_eq_true hlt) ?_
      obtain ⟨p, oda, hpa⟩ := da
      refine LdB.mk oda rfl ?_
      cases o with
      | none => exact fin (.inl rfl) _ rfl
      | some L =>
        unfold node_decode.B4
        have hn3 : H.n.toNat ≤ 2 := by
          rcases hn2 with q | q
          · exact q
          · cases q
        have da : DAt wa d s e (some L) := ⟨p, oda, hpa⟩
        refine Bm.pos rfl (decNum_ok da hse h3 fun wb db eb => decText_ok db (by omega) hse h3 fun wc dc ec => ?_)
        have oc := frM (frM oa eb) ec
        refine LdL.mk oc rfl (New.mk fun nb w2 hnb hs2 on he2 => ?_)
        have heac : EA w2 rb j rc E := by
          refine EA.ext0 ?_ he2
          exact rowT (rowT hea eb (Tys.one oda) (by decide)) ec (by obtain ⟨cs, odd⟩ := db.ty; exact Tys.one odd) (by decide)
        refine Vc.Append.mk (e := T_api_Entry) (news := entC ((rNum (some L)).1, (rText 24 (rNum (some L)).2).1)) heac (CellsAt.own on (fun j v hj => by simpa [entC] using hj)) rfl rfl rfl (by omega) (by omega) fun rb' rc' w3 hr he3 hb3 => ?_
        have t3 := Tys.row heac
        have o3 := ownT he3 t3 (he2.own oc (by simp)) (by decide)
        have d3 : DAt w3 d s e (rText 24 (rNum (some L)).2).2 := by
          obtain ⟨pc, odc, hpc⟩ := dc
          exact ⟨pc, ownT he3 t3 (he2.own odc (by simp)) (by decide), hpc⟩
        refine Sts.mk o3 (by simp [msgC]) rfl fun w4' _ o4 e4 => ?_
        have d4 := frD d3 o3 e4
        have Ea := ((ea.trans (u1 eb)).trans (u1 ec))
        have za := Ea.size
        have z2 := he2.size
        have E3 : Ext [d, m0] w5 w3 := (Ea.trans he2.nil).trans' he3 (fun y hy hl => by have := hrb y hy; omega)
        have hE1 : (E ++ [((rNum (some L)).1, (rText 24 (rNum (some L)).2).1)]).length = j + 1 := by simp [hEl]
        refine ⟨H.n.toNat - (j + 1), by omega, j + 1, E ++ [((rNum (some L)).1, (rText 24 (rNum (some L)).2).1)], (rText 24 (rNum (some L)).2).2, rb', rc', by omega, rfl, rfl, rfl, rfl, rfl, rfl, by rw [w64 (by omega) (by omega)]; omega, hE1, ?_, d4, o4, ?_, ?_, fun k hk => ?_, E3.trans (u2 e4)⟩
        · rw [hes]
          have q : H.n.toNat - j = (H.n.toNat - (j + 1)) + 1 := by omega
          rw [q]
          show (E ++ (_ :: _), _) = (E ++ [_] ++ _, _)
          rw [List.append_assoc]
          rfl
        · show Row w4' rb' (j + 1) rc' 2 T_api_Entry ((E ++ [((rNum (some L)).1, (rText 24 (rNum (some L)).2).1)]).flatMap entC)
          rw [List.flatMap_append]
          refine rowT (by simpa using hr) e4 (Tys.one o3) (by decide)
        · rcases hn2 with q | q
          · exact .inl q
          · cases q
        · rcases hb3 k hk with q | q
          · exact hrb k q
          · omega
    · exact Bm.neg (decide_eq_false hlt) (fin (.inr (by omega)) _ rfl)
  have b2 : ∀ t : Bool, t = H.bad → node_decode.B2 t2 d m0 H.ok H.n t w21 R := fun t ht => by
    unfold node_decode.B2
    refine Bm.mk (fun htt => ?_) fun hff => ?_
    · obtain ⟨p, od9, hp9⟩ := d21'
      refine Sts.mk od9 (by simp [decC]) rfl fun wx _ ox ex => b3 ⟨p, ?_, fun L hL => ?_⟩ (frM o21 ex) (E21.trans (u1 ex))
      · have q : H.o2 = none := by unfold Hd.o2; rw [if_pos (by rw [← ht]; exact htt)]
        rw [q]
        exact ox
      · have q : H.o2 = none := by unfold Hd.o2; rw [if_pos (by rw [← ht]; exact htt)]
        rw [q] at hL
        cases hL
    · have q : H.o2 = H.o := by unfold Hd.o2; rw [if_neg (by rw [← ht, hff]; simp)]
      exact b3 (by rw [q]; exact d21') o21 E21
  subst hH
  have hbad : (rHead B).bad = decide ((rHead B).k < 1 ∨ 5 < (rHead B).k ∨ 3 ≤ (rHead B).f ∨ 3 ≤ (rHead B).t ∨ 1 < (rHead B).ok ∨ 2 < (rHead B).n) := rfl
  refine LdI.mk o21 rfl (Bm.ite (fun q => b2 true (by rw [hbad]; exact (decide_eq_true (.inl q)).symm)) fun q1 => LdI.mk o21 rfl (Bm.ite (fun q => b2 true (by rw [hbad]; exact (decide_eq_true (.inr (.inl q))).symm)) fun q2 => LdI.mk o21 rfl (Bm.ite (fun q => b2 true (by rw [hbad]; exact (decide_eq_true (.inr (.inr (.inl q)))).symm)) fun q3 => LdI.mk o21 rfl (Bm.ite (fun q => b2 true (by rw [hbad]; exact (decide_eq_true (.inr (.inr (.inr (.inl q))))).symm)) fun q4 => Bm.ite (fun q => b2 true (by rw [hbad]; exact (decide_eq_true (.inr (.inr (.inr (.inr (.inl q)))))).symm)) fun q5 => b2 _ ?_))))
  rw [hbad]
  have q1' : ¬ (rHead B).k < 1 := q1
  have q2' : ¬ (rHead B).k > 5 := q2
  have q3' : ¬ (rHead B).f ≥ 3 := q3
  have q4' : ¬ (rHead B).t ≥ 3 := q4
  have q5' : ¬ (rHead B).ok > 1 := q5
  show decide ((rHead B).n > 2) = _
  by_cases hn : 2 < (rHead B).n
  · rw [decide_eq_true (show (rHead B).n > 2 from hn), decide_eq_true (show _ from .inr (.inr (.inr (.inr (.inr hn)))))]
  · rw [decide_eq_false (show ¬ (rHead B).n > 2 from hn), decide_eq_false (show _ by omega)]
end
end Go.Proofs.Qxb6500430aGreat
