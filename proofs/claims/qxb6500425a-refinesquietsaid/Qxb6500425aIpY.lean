/-
  ip: the model's Input answers 'inF'.
-/
import Derived.Test.Qxb6500425aIpX
set_option linter.unusedVariables false
set_option linter.unusedSimpArgs false
open Go.Vc
namespace Go.Proofs.Qxb6500425a

/-- What a call of the model's Input leaves. -/
def MPost (w : World) (q : Nat) (M : MS) (r : InR) (b' : Option Addr) (l' : Nat) (w' : World) : Prop :=
  ∃ M', ModAt w' q M' ∧ M'.rows = r.tab ∧ M'.addr = M.addr ∧ M'.next = M.next ∧ M'.credit = M.credit ∧ Rd w' b' r.data ∧ l' = r.data.length ∧ Ext (M.foot q) w w' ∧ FGrew w (M.foot q) (M'.foot q) ∧ ∀ k o, b' = some ⟨k, o, none⟩ → (∃ cs, Own w' k cs 5) ∧ w.heap.size ≤ k

theorem map_erase {α β : Type} (f : α → β) (L : List α) (i : Nat) : (L.eraseIdx i).map f = (L.map f).eraseIdx i := by
  rw [List.eraseIdx_eq_take_drop_succ, List.eraseIdx_eq_take_drop_succ, List.map_append, List.map_take, List.map_drop]

theorem modInput_ok {w : World} {q : Nat} {M : MS} {v : List Int} {b : Option Addr} {l c : Nat} {R : Int → Int → Int → Option Addr → Nat → Nat → Int → World → Prop}
    (h : ModAt w q M) (hsort : Sorted M.rows) (hwf : ∀ r ∈ M.rows, RowWf r) (hlen : M.rows.length ≤ 3) (hv : Rd w b v) (hl : v.length = l) (hlc : l ≤ c) (hbig : l ≤ 281474976710656) (hbT : ∀ k o, b = some ⟨k, o, none⟩ → ∃ cs, Own w k cs 5)
    (hR : ∀ b' l' c' w', MPost w q M (inF M.addr M.rows v) b' l' w' → R (inF M.addr M.rows v).src (inF M.addr M.rows v).dst (inF M.addr M.rows v).proto b' l' c' (inF M.addr M.rows v).err w') :
    ipm_IP_Input.Call (some ⟨q, 0, none⟩) b l c w R := by
  apply ipm_IP_Input.sound
  unfold ipm_IP_Input.B0
  have hql := h.own.lt
  have hLl : M.rows.length = M.L.length := by simp [MS.rows]
  refine New.mk fun t4 w1 ht4 hs1 oT1 he1 => NewSet.mk rfl rfl fun nn w3 hnn hs3 oN3 he3 => ?_
  have E3 : Ext [] w w3 := he1.trans he3
  have oT3 := he3.own oT1 (by simp)
  have h3 := h.ext0 E3
  have hv3 := hv.ext0 E3
  have apart : ∀ {w' : World} {M' : MS} {k : Nat} {cs : Array Value} {t : TypeId}, ModAt w' q M' → Own w' k cs t → t = 81 ∨ t = 5 → k ∉ M'.foot q := fun {w' M' k cs t} hM ho ht hk => by
    obtain ⟨cs', t', ho', ht'⟩ := hM.footTy hk
    have e1 := (ho.unique ho').2
    subst e1
    rcases ht with rfl | rfl <;> rcases ht' with e2 | e2 | e2 <;> exact absurd e2 (by decide)
  have z3 := E3.size
  -- an early end
  have early : ∀ (e : Int) (wc : World) (cs : Array Value), Ext [] w3 wc → Own wc t4 cs 81 → inF M.addr M.rows v = noneR e M.rows → ∀ w', w'.heap.size = wc.heap.size → Ext [t4] wc w' → R 0 0 0 none 0 0 e w' := fun e wc cs hwc ot hin w' hs' he' => by
    rw [hin] at hR
    have hc := h3.ext0 hwc
    refine hR none 0 0 w' ⟨M, hc.ext he' (fun k hk hk2 => ?_), rfl, rfl, rfl, rfl, Rd.nil _ _, rfl, (E3.nil.trans hwc.nil).trans' he' (fun x hx hlt => by simp at hx; omega), FGrew.refl _ _, fun k o e => by cases e⟩
    simp at hk2
    subst hk2
    exact apart hc ot (.inl rfl) hk
  refine Bm.ite (fun h8 => ?_) (fun h8 => ?_)
  · exact retNone oN3 oT3 rfl (early 1 w3 _ (Ext.refl _ _) oT3 (by unfold inF; rw [if_pos (by omega)]))
  have h8' : 8 ≤ v.length := by omega
  have at_ : ∀ j, j < 8 → v[j]? = some (v.getD j 0) := fun j hj => by
    obtain ⟨x, hx⟩ : ∃ x, v[j]? = some x := ⟨_, List.getElem?_eq_getElem (by omega)⟩
    rw [hx, getD_of hx]
  have byte : ∀ j, j < 8 → 0 ≤ v.getD j 0 ∧ v.getD j 0 < 256 := fun j hj => hv.1.get (at_ j hj)
  obtain ⟨k, o, rfl, _⟩ := hv3.at (at_ 0 (by omega))
  have rdat : ∀ {w' : World}, Rd w' (some ⟨k, o, none⟩) v → ∀ j, j < 8 → w'.cell? ⟨k, o + j, none⟩ = some (.int .u8 (v.getD j 0)) := fun hw' j hj => by
    obtain ⟨k', o', e, h'⟩ := hw'.at (at_ j hj)
    simp only [Option.some.injEq, Addr.mk.injEq] at e
    obtain ⟨rfl, rfl, _⟩ := e
    exact h'
  have eN : IntKind.i64.wrap ((l : Int) - 8) = ((v.length - 8 : Nat) : Int) := by rw [w64 (by omega) (by omega)]; omega
  refine Pn.mk ⟨⟨by omega, by omega⟩, LdI.cell (by rw [add_mk]; exact rdat hv3 6 (by omega)) ?_⟩
  rw [w64b (byte 6 (by omega)), eN]
  refine Bm.mk (fun h6 => ?_) (fun h6 => ?_)
  · have h6' : v.getD 6 0 ≠ ((v.length - 8 : Nat) : Int) := by simpa using h6
    exact retNone oN3 oT3 rfl (early 3 w3 _ (Ext.refl _ _) oT3 (by unfold inF; rw [if_neg (by omega), if_pos h6']))
  have h6' : v.getD 6 0 = ((v.length - 8 : Nat) : Int) := by simpa using h6
  have ed : Ext [] w3 w3.drew := Ext.drew [] w3
  have hvd := hv3.ext0 ed
  have oNd := oN3.drew
  have oTd := oT3.drew
  refine Pn.mk ⟨⟨by omega, by omega⟩, LdI.cell (by rw [add_mk]; exact rdat hvd 7 (by omega)) (headSum_ok hvd hl (by omega) ⟨by rw [add_mk]; exact rdat hvd 7 (by omega), ?_⟩)⟩
  rw [w64b (byte 7 (by omega))]
  refine Bm.mk (fun h7 => ?_) (fun h7 => ?_)
  · have h7' : sum7 v ≠ v.getD 7 0 := by simpa using h7
    exact retNone oNd oTd rfl (early 4 w3.drew _ ed oTd (by unfold inF; rw [if_neg (by omega), if_neg (fun q => q h6'), if_pos h7']))
  have h7' : sum7 v = v.getD 7 0 := by simpa using h7
  refine Pn.mk ⟨⟨by omega, by omega⟩, LdI.cell (by rw [add_mk]; exact rdat hvd 1 (by omega)) (Bm.mk (fun h1 => ?_) (fun h1 => ?_))⟩
  · have h1' : v.getD 1 0 = 0 := by simpa using h1
    exact retNone oNd oTd rfl (early 8 w3.drew _ ed oTd (by unfold inF; rw [if_neg (by omega), if_neg (fun q => q h6'), if_neg (fun q => q h7'), if_pos h1']))
  have h1' : v.getD 1 0 ≠ 0 := by simpa using h1
  have ed2 : Ext [] w3 w3.drew.drew := ed.trans (Ext.drew [] _)
  have hvd2 := hv3.ext0 ed2
  have oNd2 := oNd.drew
  have oTd2 := oTd.drew
  have h3d2 := h3.ext0 ed2
  refine Pn.mk ⟨⟨by omega, by omega⟩, LdI.cell (by rw [add_mk]; exact rdat hvd2 3 (by omega)) (Pn.mk (LdI.cell (by exact h3d2.own.cell rfl) ?_))⟩
  rw [w64b (byte 3 (by omega))]
  refine Bm.mk (fun h3a => ?_) (fun h3a => ?_)
  · have h3' : v.getD 3 0 ≠ M.addr := by simpa using h3a
    exact retNone oNd2 oTd2 rfl (early 7 _ _ ed2 oTd2 (by unfold inF; rw [if_neg (by omega), if_neg (fun q => q h6'), if_neg (fun q => q h7'), if_neg h1', if_pos h3']))
  have h3' : v.getD 3 0 = M.addr := by simpa using h3a
  have ed3 : Ext [] w3 w3.drew.drew.drew := ed2.trans (Ext.drew [] _)
  have ed4 : Ext [] w3 w3.drew.drew.drew.drew := ed3.trans (Ext.drew [] _)
  have hvd3 := hv3.ext0 ed3
  have hvd4 := hv3.ext0 ed4
  obtain ⟨_, _, q1, q2⟩ := byte5 (byte 5 (by omega))
  refine Pn.mk ⟨⟨by omega, by omega⟩, LdI.cell (by exact rdat hvd3 0 (by omega)) (Pn.mk ⟨⟨by omega, by omega⟩, LdI.cell (by rw [add_mk]; exact rdat hvd3 2 (by omega)) (Pn.mk ⟨⟨by omega, by omega⟩, LdI.cell (by rw [add_mk]; exact rdat hvd3 4 (by omega)) (Pn.mk ⟨⟨by omega, by omega⟩, LdI.cell (by rw [add_mk]; exact rdat hvd4 5 (by omega)) (Pn.mk ⟨⟨by omega, by omega⟩, LdI.cell (by rw [add_mk]; exact rdat hvd4 5 (by omega)) ?_⟩)⟩)⟩)⟩)⟩
  have eo : (((v.getD 5 0 % 128).toNat : Nat) : Int) = (offV v : Int) := rfl
  have em : decide (128 ≤ v.getD 5 0) = moreV v := rfl
  rw [q1, q2, eo, em, h6', w64b (byte 0 (by omega)), w64b (byte 2 (by omega)), w64b (byte 4 (by omega))]
  have ho128 : offV v < 128 := by unfold offV; have := byte 5 (by omega); omega
  have n256 : v.length - 8 < 256 := by have := byte 6 (by omega); omega
  have eEnd : IntKind.i64.wrap ((offV v : Int) + ((v.length - 8 : Nat) : Int)) = ((offV v + (v.length - 8) : Nat) : Int) := by rw [w64 (by omega) (by omega)]; omega
  rw [eEnd]
  generalize hw4 : w3.drew.drew.drew.drew = w4 at ed4 hvd4
  have oN4 := ed4.own oN3 (by simp)
  have oT4 := ed4.own oT3 (by simp)
  have h4 := h3.ext0 ed4
  have hbT4 : ∀ k' o', some (⟨k, o, none⟩ : Addr) = some ⟨k', o', none⟩ → ∃ cs, Own w4 k' cs 5 := fun k' o' e => by
    obtain ⟨cs, ho⟩ := hbT k' o' e
    exact ⟨cs, (E3.trans ed4).own ho (by simp)⟩
  refine Bm.ite (fun h40 => ?_) (fun h40 => ?_)
  · exact retNone oN4 oT4 rfl (early 2 w4 _ ed4 oT4 (by unfold inF; rw [if_neg (by omega), if_neg (fun q => q h6'), if_neg (fun q => q h7'), if_neg h1', if_neg (fun q => q h3'), if_pos (by omega)]))
  have h40' : offV v + (v.length - 8) ≤ 40 := by omega
  have hTail : inF M.addr M.rows v = (if v.length - 8 = 0 ∧ (moreV v = true ∨ 0 < offV v) then noneR 9 M.rows
      else if offV v = 0 ∧ moreV v = false then ⟨0, v.getD 2 0, M.addr, v.getD 0 0, v.drop 8, M.rows⟩
      else match M.rows.find? (fun x => decide (x.key = keyV v)) with
        | some r => fragR M.addr M.rows v r true
        | none => if M.rows.length = 3 then noneR 11 M.rows else fragR M.addr M.rows v (freshRow (keyV v)) false) := by
    unfold inF
    rw [if_neg (by omega), if_neg (fun q => q h6'), if_neg (fun q => q h7'), if_neg h1', if_neg (fun q => q h3'), if_neg (by omega)]
    rfl
  have bad9 : (v.length - 8 = 0 ∧ (moreV v = true ∨ 0 < offV v)) → ipm_IP_Input.B1 (some ⟨q, 0, none⟩) (some ⟨k, o, none⟩) l c t4 nn ((v.length - 8 : Nat) : Int) (v.getD 0 0) (v.getD 2 0) (v.getD 4 0) (offV v : Int) (moreV v) true w4 R := fun q => by
    unfold ipm_IP_Input.B1
    exact Bm.pos rfl (retNone oN4 oT4 rfl (early 9 w4 _ ed4 oT4 (by rw [hTail, if_pos q])))
  have good : ¬ (v.length - 8 = 0 ∧ (moreV v = true ∨ 0 < offV v)) → ipm_IP_Input.B1 (some ⟨q, 0, none⟩) (some ⟨k, o, none⟩) l c t4 nn ((v.length - 8 : Nat) : Int) (v.getD 0 0) (v.getD 2 0) (v.getD 4 0) (offV v : Int) (moreV v) false w4 R := fun qn => by
    rw [if_neg qn] at hTail
    unfold ipm_IP_Input.B1
    refine Bm.neg rfl ?_
    have b0 := byte 0 (by omega)
    have b2 := byte 2 (by omega)
    have b4 := byte 4 (by omega)
    have whole : (offV v = 0 ∧ moreV v = false) → ipm_IP_Input.B2 (some ⟨q, 0, none⟩) (some ⟨k, o, none⟩) l c t4 nn ((v.length - 8 : Nat) : Int) (v.getD 0 0) (v.getD 2 0) (v.getD 4 0) (offV v : Int) (moreV v) true w4 R := fun q2 => by
      rw [if_pos q2] at hTail
      unfold ipm_IP_Input.B2
      have hv4d := hvd4.ext0 (Ext.drew [] w4)
      have h4d := h4.drew
      have hd5 : Rd w4.drew (slBase (some ⟨k, o, none⟩) ((8 : Nat) : Int) ((c : Nat) : Int) 1) (v.drop 8) := hv4d.drop 8 (by omega)
      have e8 : ((l : Nat) : Int).toNat - (8 : Int).toNat = l - 8 := by rw [Int.toNat_natCast]; rfl
      rw [e8]
      refine Bm.pos rfl (Pn.mk (LdI.cell (by exact h4d.own.cell rfl) ⟨⟨by omega, by omega⟩, copyBytes_ok hd5 (by simp; omega) (by omega) fun r8 w8 hr8 hs8 hf8 he8 => ⟨(h4d.ext0 he8).own.cell rfl, ?_⟩⟩))
      have oT8 := he8.own oT4.drew (by simp)
      have h8 := h4d.ext0 he8
      refine Sts.full oT8 rfl rfl fun w9 hs9 ho9 he9 => LdI.mk ho9 rfl (LdI.mk ho9 rfl (LdI.mk ho9 rfl (LdL.mk ho9 rfl ?_)))
      rw [hTail] at hR
      have hz : w4.drew.heap.size = w4.heap.size := rfl
      have z4 := ed4.size
      refine hR _ _ _ w9 ⟨M, h8.ext he9 (fun k hk hk2 => ?_), rfl, rfl, rfl, rfl, ?_, by simp; omega, ((((E3.trans ed4).trans (Ext.drew [] w4)).trans he8).nil).trans' he9 (fun x hx hlt => by simp at hx; omega), FGrew.refl _ _, fun k o e => ?_⟩
      · simp at hk2
        subst hk2
        exact apart h8 oT8 (.inl rfl) hk
      · have := oT4.lt
        exact (hf8.ext he9 (by simp; omega)).rd0
      · simp only [Option.some.injEq, Addr.mk.injEq, and_true] at e
        rw [← e.1]
        have := oT4.lt
        exact ⟨⟨_, (hf8.ext he9 (by simp; omega)).1⟩, by omega⟩
    have frag : ¬ (offV v = 0 ∧ moreV v = false) → ipm_IP_Input.B2 (some ⟨q, 0, none⟩) (some ⟨k, o, none⟩) l c t4 nn ((v.length - 8 : Nat) : Int) (v.getD 0 0) (v.getD 2 0) (v.getD 4 0) (offV v : Int) (moreV v) false w4 R := fun q2 => by
      rw [if_neg q2] at hTail
      have hn1 : 1 ≤ v.length - 8 := by
        have hmo : moreV v = true ∨ 0 < offV v := by
          by_cases hz : offV v = 0
          · left
            have : ¬ moreV v = false := fun e => q2 ⟨hz, e⟩
            simpa using this
          · right; omega
        have : v.length - 8 ≠ 0 := fun e => qn ⟨e, hmo⟩
        omega
      have E4 : Ext [] w w4 := E3.trans ed4
      have hkr : 0 ≤ keyV v ∧ keyV v < 16777216 := by unfold keyV; omega
      have t4f : w.heap.size ≤ t4 := by omega
      have z4w := E4.size
      -- what the last stretch hands back
      have post : ∀ {wc w' : World} {Mc M' : MS}, Ext (M.foot q) w wc → FGrew w (M.foot q) (Mc.foot q) → Mc.addr = M.addr ∧ Mc.next = M.next ∧ Mc.credit = M.credit → MP wc q t4 Mc M' w' → ∀ r : InR, M'.rows = r.tab → ∀ b' l', Rd w' b' r.data → l' = r.data.length → (∀ k o, b' = some ⟨k, o, none⟩ → (∃ cs, Own w' k cs 5) ∧ w.heap.size ≤ k) → MPost w q M r b' l' w' := fun {wc w' Mc M'} hEc hFc hnum hmp r hrow b' l' hrd hll hnew => by
        have hz := hEc.size
        refine ⟨M', hmp.at_, hrow, hmp.addr.trans hnum.1, hmp.next.trans hnum.2.1, hmp.credit.trans hnum.2.2, hrd, hll, hEc.trans' hmp.ext (fun x hx hlt => ?_), hFc.trans hz hmp.grew, hnew⟩
        rcases List.mem_cons.1 hx with e | hx
        · omega
        · rcases hFc x hx with q1 | q1
          · exact q1
          · omega
      unfold ipm_IP_Input.B2
      refine Bm.neg rfl (modFind_ok h4 b2 b0 b4 (by omega) (fun j e hj hk => ?_) (fun hno => ?_))
      · have hjA : M.rows[j]? = some e.abs := by simp [MS.rows, hj]
        have hk' : e.abs.key = keyV v := hk
        rw [sorted_find hsort hjA hk'] at hTail
        simp only at hTail
        have hpre := (hwf _ (List.mem_of_getElem? hjA)).pre
        refine Bm.neg (decide_eq_false (by omega)) (modBad_ok h4 hj eEnd h40' ?_)
        refine modTail_ok (cs := _) h4 (by omega) hj hpre hvd4 hl h8' hbT4 h40' hn1 oN4 oT4 rfl (by omega) (fun hb w' M' hmp hL => ?_) (fun hb hf w' M' hmp hL => ?_) (fun hb hf w' M' kk hmp hL hkf hbf => ?_)
        · have e1 : inF M.addr M.rows v = noneR 9 (remA (keyV v) M.rows) := by rw [hTail]; unfold fragR; rw [if_pos hb]
          rw [e1] at hR
          refine hR none 0 0 w' (post E4.nil (FGrew.refl _ _) ⟨rfl, rfl, rfl⟩ hmp _ ?_ none 0 (Rd.nil _ _) rfl (fun k o e => by cases e))
          show M'.rows = remA (keyV v) M.rows
          rw [sorted_rem hsort hjA hk']
          unfold MS.rows
          rw [hL, map_erase]
        · have e1 : inF M.addr M.rows v = noneR 10 (setA (nextRow e.abs v) M.rows) := by rw [hTail]; unfold fragR; rw [if_neg (by simp [hb]), if_neg (by simp [hf])]; rfl
          rw [e1] at hR
          obtain ⟨e', hL', he'⟩ := hL
          refine hR none 0 0 w' (post E4.nil (FGrew.refl _ _) ⟨rfl, rfl, rfl⟩ hmp _ ?_ none 0 (Rd.nil _ _) rfl (fun k o e => by cases e))
          show M'.rows = setA (nextRow e.abs v) M.rows
          rw [sorted_set (r' := nextRow e.abs v) hsort hjA rfl]
          unfold MS.rows
          rw [hL', List.map_set, he']
        · have e1 : inF M.addr M.rows v = ⟨0, v.getD 2 0, M.addr, v.getD 0 0, (nextRow e.abs v).cell.take (nextRow e.abs v).total.toNat, remA (keyV v) M.rows⟩ := by rw [hTail]; unfold fragR; rw [if_neg (by simp [hb]), if_pos hf]
          rw [e1] at hR
          have htl : ((nextRow e.abs v).cell.take (nextRow e.abs v).total.toNat).length = (nextRow e.abs v).total.toNat := by
            have h1 := nextRow_tot hpre h8' hn1 h40' hb
            have h2 : (nextRow e.abs v).cell.length = 40 := by simp [nextRow, layC]
            rw [List.length_take, h2]
            rcases h1 with q1 | q1 <;> omega
          refine hR _ _ _ w' (post E4.nil (FGrew.refl _ _) ⟨rfl, rfl, rfl⟩ hmp _ ?_ _ _ hbf.rd0 htl.symm (fun k o e => by simp only [Option.some.injEq, Addr.mk.injEq, and_true] at e; rw [← e.1]; exact ⟨⟨_, hbf.1⟩, by omega⟩))
          show M'.rows = remA (keyV v) M.rows
          rw [sorted_rem hsort hjA hk']
          unfold MS.rows
          rw [hL, map_erase]
      · have hno' : ∀ x ∈ M.rows, x.key ≠ keyV v := fun x hx => by
          obtain ⟨e, he, rfl⟩ := List.mem_map.1 hx
          exact hno e he
        have hfn : M.rows.find? (fun x => decide (x.key = keyV v)) = none := List.find?_eq_none.2 fun x hx => by simpa using hno' x hx
        rw [hfn] at hTail
        simp only at hTail
        refine Bm.pos rfl (Pn.mk (LdL.cell (by rw [add_mk]; exact h4.own.cell rfl) (Bm.mk (fun h3l => ?_) (fun h3l => ?_))))
        · have h3l' : M.L.length = 3 := by
            have : ((M.L.length : Nat) : Int) = 3 := by simpa using h3l
            omega
          exact retNone oN4 oT4 rfl (early 11 w4 _ ed4 oT4 (by rw [hTail, if_pos (by omega)]))
        have h3l' : M.L.length < 3 := by
          have : ((M.L.length : Nat) : Int) ≠ 3 := by simpa using h3l
          omega
        rw [if_neg (by omega)] at hTail
        have hrem : remA (keyV v) M.rows = M.rows := by
          unfold remA
          rw [List.filter_eq_self]
          intro x hx
          simpa using hno' x hx
        -- put in at i
        have put : ∀ i : Nat, i ≤ M.L.length → (∀ t x, t < i → M.rows[t]? = some x → x.key < keyV v) → (∀ x, M.rows[i]? = some x → ¬ x.key < keyV v) → ∀ N1, ipm_IP_Input.B5 (some ⟨q, 0, none⟩) (some ⟨k, o, none⟩) l c t4 nn ((v.length - 8 : Nat) : Int) (v.getD 0 0) (v.getD 2 0) (v.getD 4 0) (offV v : Int) (moreV v) (i : Int) false w4 N1 R := by
          intro i hi hlo hhi N1
          refine modInsert_ok h4 h3l' hi b2 b0 b4 eEnd h40' fun tb tc kb w5 h5 hE5 hF5 => ?_
          generalize he0 : (⟨v.getD 2 0, v.getD 0 0, v.getD 4 0, 4, -1, kb, List.replicate 40 (-1)⟩ : ME) = e0 at h5 hF5
          have habs : e0.abs = freshRow (keyV v) := by rw [← he0]; rfl
          have hget : (M.L.take i ++ (e0 :: M.L.drop i))[i]? = some e0 := by
            rw [List.getElem?_append_right (by rw [List.length_take]; omega), List.length_take, show i - min i M.L.length = 0 by omega]
            rfl
          have hll : (M.L.take i ++ (e0 :: M.L.drop i)).length = M.L.length + 1 := by rw [List.length_append, List.length_cons, List.length_take, List.length_drop]; omega
          have hpre : PreRow e0.abs := by rw [habs]; exact fresh_pre hkr
          have hz5 := hE5.size
          have z4' := E4.size
          have oN5 := hE5.own oN4 (apart h4 oN4 (.inl rfl))
          have oT5 := hE5.own oT4 (apart h4 oT4 (.inl rfl))
          have hv5 : Rd w5 (some ⟨k, o, none⟩) v := hvd4.ext hE5 (fun k' o' e hk => by
            obtain ⟨cs, ho⟩ := hbT4 k' o' e
            exact apart h4 ho (.inr rfl) hk)
          have hbT5 : ∀ k' o', some (⟨k, o, none⟩ : Addr) = some ⟨k', o', none⟩ → ∃ cs, Own w5 k' cs 5 := fun k' o' e => by
            obtain ⟨cs, ho⟩ := hbT4 k' o' e
            exact ⟨cs, hE5.own ho (apart h4 ho (.inr rfl))⟩
          have z4 := E4.size
          have hEc : Ext (M.foot q) w w5 := E4.nil.trans hE5
          have hFc : FGrew w (M.foot q) (({ M with tb := tb, tc := tc, L := M.L.take i ++ (e0 :: M.L.drop i) } : MS).foot q) := fun x hx => by
            rcases hF5 x hx with q1 | q1
            · exact .inl q1
            · exact .inr (by omega)
          have herase : (M.L.take i ++ (e0 :: M.L.drop i)).eraseIdx i = M.L := by
            rw [List.eraseIdx_append_of_length_le (by rw [List.length_take]; omega), List.length_take, show i - min i M.L.length = 0 by omega, List.eraseIdx_cons_zero, List.take_append_drop]
          have hset : ∀ e', (M.L.take i ++ (e0 :: M.L.drop i)).set i e' = M.L.take i ++ (e' :: M.L.drop i) := fun e' => by
            rw [List.set_append_right _ _ (by rw [List.length_take]; omega), List.length_take, show i - min i M.L.length = 0 by omega, List.set_cons_zero]
          have hins : insA (nextRow (freshRow (keyV v)) v) M.rows = M.rows.take i ++ nextRow (freshRow (keyV v)) v :: M.rows.drop i := insA_at (by omega) hlo hhi
          refine modTail_ok (cs := _) (M := { M with tb := tb, tc := tc, L := M.L.take i ++ (e0 :: M.L.drop i) }) h5 (by show (M.L.take i ++ (e0 :: M.L.drop i)).length ≤ 3; omega) hget hpre hv5 hl h8' hbT5 h40' hn1 oN5 oT5 rfl (by omega) (fun hb w' M' hmp hL => ?_) (fun hb hf w' M' hmp hL => ?_) (fun hb hf w' M' kk hmp hL hkf hbf => ?_)
          · rw [habs] at hb
            have e1 : inF M.addr M.rows v = noneR 9 (remA (keyV v) M.rows) := by rw [hTail]; unfold fragR; rw [if_pos hb]
            rw [e1] at hR
            refine hR none 0 0 w' (post hEc hFc ⟨rfl, rfl, rfl⟩ hmp _ ?_ none 0 (Rd.nil _ _) rfl (fun k o e => by cases e))
            show M'.rows = remA (keyV v) M.rows
            rw [hrem]
            unfold MS.rows
            rw [hL]
            show ((M.L.take i ++ (e0 :: M.L.drop i)).eraseIdx i).map ME.abs = _
            rw [herase]
          · rw [habs] at hb hf
            have e1 : inF M.addr M.rows v = noneR 10 (insA (nextRow (freshRow (keyV v)) v) M.rows) := by rw [hTail]; unfold fragR; rw [if_neg (by simp [hb]), if_neg (by simp [hf])]; rfl
            rw [e1] at hR
            obtain ⟨e', hL', he'⟩ := hL
            rw [habs] at he'
            refine hR none 0 0 w' (post hEc hFc ⟨rfl, rfl, rfl⟩ hmp _ ?_ none 0 (Rd.nil _ _) rfl (fun k o e => by cases e))
            show M'.rows = insA (nextRow (freshRow (keyV v)) v) M.rows
            rw [hins]
            unfold MS.rows
            rw [hL']
            show ((M.L.take i ++ (e0 :: M.L.drop i)).set i e').map ME.abs = _
            rw [hset, List.map_append, List.map_cons, he', List.map_take, List.map_drop]
          · rw [habs] at hb hf hbf
            have e1 : inF M.addr M.rows v = ⟨0, v.getD 2 0, M.addr, v.getD 0 0, (nextRow (freshRow (keyV v)) v).cell.take (nextRow (freshRow (keyV v)) v).total.toNat, remA (keyV v) M.rows⟩ := by rw [hTail]; unfold fragR; rw [if_neg (by simp [hb]), if_pos hf]
            rw [e1] at hR
            have htl : ((nextRow (freshRow (keyV v)) v).cell.take (nextRow (freshRow (keyV v)) v).total.toNat).length = (nextRow (freshRow (keyV v)) v).total.toNat := by
              have h1 := nextRow_tot (fresh_pre hkr) h8' hn1 h40' hb
              have h2 : (nextRow (freshRow (keyV v)) v).cell.length = 40 := by simp [nextRow, layC]
              rw [List.length_take, h2]
              rcases h1 with q1 | q1 <;> omega
            rw [habs]
            refine hR _ _ _ w' (post hEc hFc ⟨rfl, rfl, rfl⟩ hmp _ ?_ _ _ hbf.rd0 htl.symm (fun k o e => by simp only [Option.some.injEq, Addr.mk.injEq, and_true] at e; rw [← e.1]; exact ⟨⟨_, hbf.1⟩, by omega⟩))
            show M'.rows = remA (keyV v) M.rows
            rw [hrem]
            unfold MS.rows
            rw [hL]
            show ((M.L.take i ++ (e0 :: M.L.drop i)).eraseIdx i).map ME.abs = _
            rw [herase]
        unfold ipm_IP_Input.L1
        refine ⟨fun m q' b' l' c' t' nn' n' p' s' d' o' more' i w' => some ⟨q, 0, none⟩ = q' ∧ some ⟨k, o, none⟩ = b' ∧ l = l' ∧ c = c' ∧ t4 = t' ∧ nn = nn' ∧ ((v.length - 8 : Nat) : Int) = n' ∧ v.getD 0 0 = p' ∧ v.getD 2 0 = s' ∧ v.getD 4 0 = d' ∧ (offV v : Int) = o' ∧ moreV v = more' ∧ w4 = w' ∧ 0 ≤ i ∧ i ≤ M.L.length ∧ m = (M.L.length - i).toNat ∧ ∀ (t : Nat) x, (t : Int) < i → M.rows[t]? = some x → x.key < keyV v, M.L.length,
          ⟨rfl, rfl, rfl, rfl, rfl, rfl, rfl, rfl, rfl, rfl, rfl, rfl, rfl, by omega, by omega, by omega, fun t x ht => by omega⟩, ?_⟩
        rintro m q' b' l' c' t' nn' n' p' s' d' o' more' i w' ⟨rfl, rfl, rfl, rfl, rfl, rfl, rfl, rfl, rfl, rfl, rfl, rfl, rfl, i0, i1, rfl, hlo⟩
        unfold ipm_IP_Input.L1b
        obtain ⟨n, rfl⟩ : ∃ n : Nat, i = n := ⟨i.toNat, by omega⟩
        refine Pn.mk (LdL.cell (by rw [add_mk]; exact h4.own.cell rfl) (Bm.ite (fun hi => ?_) (fun hi => ?_)))
        · obtain ⟨e, he⟩ : ∃ e, M.L[n]? = some e := ⟨_, List.getElem?_eq_getElem (by omega)⟩
          have heA : M.rows[n]? = some e.abs := by simp [MS.rows, he]
          refine modLess_ok h4 i0 (by rw [Int.toNat_natCast]; exact he) b2 b0 b4 ?_
          have ek : v.getD 2 0 * 65536 + v.getD 0 0 * 256 + v.getD 4 0 = keyV v := rfl
          rw [ek]
          by_cases hlt : e.abs.key < keyV v
          · rw [decide_eq_true hlt]
            unfold ipm_IP_Input.B5
            refine Bm.pos rfl ?_
            rw [w64 (by omega) (by omega)]
            refine ⟨(M.L.length - ((n : Int) + 1)).toNat, by omega, rfl, rfl, rfl, rfl, rfl, rfl, rfl, rfl, rfl, rfl, rfl, rfl, rfl, by omega, by omega, rfl, fun t x ht hx => ?_⟩
            by_cases et : t = n
            · subst et
              rw [heA] at hx
              simp at hx
              subst hx
              exact hlt
            · exact hlo t x (by omega) hx
          · rw [decide_eq_false hlt]
            refine put n (by omega) (fun t x ht hx => hlo t x (by omega) hx) (fun x hx => ?_) _
            rw [heA] at hx
            simp at hx
            subst hx
            exact hlt
        · refine put n (by omega) (fun t x ht hx => hlo t x (by omega) hx) (fun x hx => ?_) _
          have := (List.getElem?_eq_some_iff.1 hx).1
          omega
    by_cases hz : offV v = 0
    · have hz' : ((offV v : Int) == 0) = true := by simp [hz]
      refine Bm.pos hz' ?_
      by_cases hm : moreV v = true
      · have e : (!moreV v) = false := by rw [hm]; rfl
        rw [e]
        exact frag (fun q2 => by rw [hm] at q2; cases q2.2)
      · have hm' : moreV v = false := by simpa using hm
        have e : (!moreV v) = true := by rw [hm']; rfl
        rw [e]
        exact whole ⟨hz, hm'⟩
    · have hz' : ((offV v : Int) == 0) = false := by simpa using hz
      exact Bm.neg hz' (frag (fun q2 => hz q2.1))
  by_cases hn0 : v.length - 8 = 0
  · have hn0' : ((((v.length - 8 : Nat) : Int)) == 0) = true := by rw [hn0]; rfl
    refine Bm.pos hn0' (Bm.mk (fun hm => bad9 ⟨hn0, .inl hm⟩) (fun hm => ?_))
    by_cases hz : 0 < offV v
    · have : decide ((offV v : Int) > 0) = true := decide_eq_true (by omega)
      rw [this]
      exact bad9 ⟨hn0, .inr hz⟩
    · have : decide ((offV v : Int) > 0) = false := decide_eq_false (by omega)
      rw [this]
      exact good (fun q => by
        rcases q.2 with q | q
        · rw [hm] at q; cases q
        · exact hz q)
  · have hn0' : ((((v.length - 8 : Nat) : Int)) == 0) = false := by simpa using hn0
    exact Bm.neg hn0' (good (fun q => hn0 q.1))
end Go.Proofs.Qxb6500425a
