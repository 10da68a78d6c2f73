/-
  ip: the real layer's Input, from its head.
-/
import Derived.Test.Qxb6500424aGreatIpH
set_option linter.unusedVariables false
set_option linter.unusedSimpArgs false
open Go.Vc
namespace Go.Proofs.Qxb6500424aGreat.Ip

theorem byte5 {x : Int} (h : 0 ≤ x ∧ x < 256) : IntKind.i64.wrap (IntKind.u8.wrap (BitVec.ofInt IntKind.u8.bits x &&& BitVec.ofInt IntKind.u8.bits (127 : Int)).toNat) = (((x % 128).toNat : Nat) : Int) ∧
    (IntKind.u8.wrap (BitVec.ofInt IntKind.u8.bits x &&& BitVec.ofInt IntKind.u8.bits (128 : Int)).toNat != 0) = decide (128 ≤ x) ∧
    IntKind.i64.wrap (BitVec.ofInt IntKind.i64.bits (IntKind.i64.wrap x) &&& BitVec.ofInt IntKind.i64.bits (127 : Int)).toNat = (((x % 128).toNat : Nat) : Int) ∧
    (IntKind.i64.wrap (BitVec.ofInt IntKind.i64.bits (IntKind.i64.wrap x) &&& BitVec.ofInt IntKind.i64.bits (128 : Int)).toNat != 0) = decide (128 ≤ x) := by
  have h1 := head_all ⟨x.toNat, by omega⟩
  have e1 : ((x.toNat : Nat) : Int) = x := Int.toNat_of_nonneg h.1
  have e2 : ((x.toNat % 128 : Nat) : Int) = (((x % 128).toNat : Nat) : Int) := by omega
  have e3 : decide (128 ≤ x.toNat) = decide (128 ≤ x) := by
    by_cases q : 128 ≤ x
    · rw [decide_eq_true q, decide_eq_true (by omega)]
    · rw [decide_eq_false q, decide_eq_false (by omega)]
  simp only [e1, e2, e3] at h1
  exact h1

theorem realInput_ok {w : World} {p : Nat} {S : IPS} {A : List AR} {v : List Int} {b : Option Addr} {l c : Nat} {R : Int → Int → Int → Option Addr → Nat → Nat → Int → World → Prop}
    (h : RealAt w p S) (hrel : Rel A S) (hv : Rd w b v) (hl : v.length = l) (hlc : l ≤ c) (hbig : l ≤ 281474976710656) (hbp : ∀ k o, b = some ⟨k, o, none⟩ → k ≠ p)
    (hR : ∀ b' l' w', InPost w p S (inF S.addr A v) b' l' w' → R (inF S.addr A v).src (inF S.addr A v).dst (inF S.addr A v).proto b' l' l' (inF S.addr A v).err w') :
    ip_IP_Input.Call (some ⟨p, 0, none⟩) b l c w R := by
  apply ip_IP_Input.sound
  unfold ip_IP_Input.B0
  have hplt := Own.lt h
  refine New.mk fun t4 w1 ht4 hs1 oT1 he1 => NewSet.mk rfl rfl fun nn w3 hnn hs3 oN3 he3 => ?_
  have E3 : Ext [] w w3 := he1.trans he3
  have oT3 := he3.own oT1 (by simp)
  have h3 : RealAt w3 p S := E3.own h (by simp)
  have hv3 := hv.ext0 E3
  -- an early end
  have early : ∀ (e : Int) (wc : World), Ext [] w3 wc → inF S.addr A v = noneR e A → ∀ w', w'.heap.size = wc.heap.size → Ext [t4] wc w' → R 0 0 0 none 0 0 e w' := fun e wc hwc hin w' hs' he' => by
    rw [hin] at hR
    exact hR none 0 w' ⟨S, he'.own (hwc.own h3 (by simp)) (by simp; omega), hrel, rfl, rfl, rfl, Bs.nil _, fun k hk => by simp [rowBlk] at hk, (E3.nil.trans hwc.nil).trans' he' (fun x hx hlt => by simp at hx; omega)⟩
  refine Bm.ite (fun h8 => ?_) (fun h8 => ?_)
  · exact retNone oN3 oT3 rfl (early 1 w3 (Ext.refl _ _) (by unfold inF; rw [if_pos (by omega)]))
  have h8' : 8 ≤ v.length := by omega
  have at_ : ∀ j, j < 8 → v[j]? = some (v.getD j 0) := fun j hj => by
    obtain ⟨x, hx⟩ : ∃ x, v[j]? = some x := ⟨_, List.getElem?_eq_getElem (by omega)⟩
    rw [hx, getD_of hx]
  have byte : ∀ j, j < 8 → 0 ≤ v.getD j 0 ∧ v.getD j 0 < 256 := fun j hj => hv.1.get (at_ j hj)
  obtain ⟨k, o, rfl, _⟩ := hv3.at (at_ 0 (by omega))
  have rdat : ∀ {w' : World}, Rd w' (some ⟨k, o, none⟩) v → ∀ j, j < 8 → w'.cell? ⟨k, o + j, none⟩ = some (.int .u8 (v.getD j 0)) := fun hw' j hj => by
    obtain ⟨k', o', e, h'⟩ := hw'.at (at_ j hj)
    simp only [Option.some.injEq, Addr.mk.injEq] at e
    obtain ⟨rfl, rfl, _⟩ := e
    exact h'
  have eN : IntKind.i64.wrap ((l : Int) - 8) = ((v.length - 8 : Nat) : Int) := by rw [w64 (by omega) (by omega)]; omega
  refine Pn.mk ⟨⟨by omega, by omega⟩, LdI.cell (by rw [add_mk]; exact rdat hv3 6 (by omega)) ?_⟩
  rw [w64b (byte 6 (by omega)), eN]
  refine Bm.mk (fun h6 => ?_) (fun h6 => ?_)
  · have h6' : v.getD 6 0 ≠ ((v.length - 8 : Nat) : Int) := by simpa using h6
    exact retNone oN3 oT3 rfl (early 3 w3 (Ext.refl _ _) (by unfold inF; rw [if_neg (by omega), if_pos h6']))
  have h6' : v.getD 6 0 = ((v.length - 8 : Nat) : Int) := by simpa using h6
  refine sumOf_ok hv3 hl (by omega) (Pn.mk ⟨⟨by omega, by omega⟩, LdI.cell (by rw [add_mk]; exact rdat hv3 7 (by omega)) (Bm.mk (fun h7 => ?_) (fun h7 => ?_))⟩)
  · have h7' : sum7 v ≠ v.getD 7 0 := by simpa using h7
    exact retNone oN3 oT3 rfl (early 4 w3 (Ext.refl _ _) (by unfold inF; rw [if_neg (by omega), if_neg (fun q => q h6'), if_pos h7']))
  have h7' : sum7 v = v.getD 7 0 := by simpa using h7
  refine Pn.mk ⟨⟨by omega, by omega⟩, LdI.cell (by rw [add_mk]; exact rdat hv3 1 (by omega)) (Bm.mk (fun h1 => ?_) (fun h1 => ?_))⟩
  · have h1' : v.getD 1 0 = 0 := by simpa using h1
    exact retNone oN3 oT3 rfl (early 8 w3 (Ext.refl _ _) (by unfold inF; rw [if_neg (by omega), if_neg (fun q => q h6'), if_neg (fun q => q h7'), if_pos h1']))
  have h1' : v.getD 1 0 ≠ 0 := by simpa using h1
  have ed : Ext [] w3 w3.drew := Ext.drew [] w3
  have hvd := hv3.ext0 ed
  have oNd := oN3.drew
  have oTd := oT3.drew
  refine Pn.mk ⟨⟨by omega, by omega⟩, LdI.cell (by rw [add_mk]; exact rdat hvd 3 (by omega)) (Pn.mk (LdI.cell h3.drew.addr ?_))⟩
  rw [w64b (byte 3 (by omega))]
  refine Bm.mk (fun h3a => ?_) (fun h3a => ?_)
  · have h3' : v.getD 3 0 ≠ S.addr := by simpa using h3a
    exact retNone oNd oTd rfl (early 7 w3.drew ed (by unfold inF; rw [if_neg (by omega), if_neg (fun q => q h6'), if_neg (fun q => q h7'), if_neg h1', if_pos h3']))
  have h3' : v.getD 3 0 = S.addr := by simpa using h3a
  obtain ⟨q1, q2, _, _⟩ := byte5 (byte 5 (by omega))
  refine Pn.mk ⟨⟨by omega, by omega⟩, LdI.cell (by rw [add_mk]; exact rdat hvd 5 (by omega)) (Pn.mk ⟨⟨by omega, by omega⟩, LdI.cell (by rw [add_mk]; exact rdat hvd 5 (by omega)) ?_⟩)⟩
  have eo : (((v.getD 5 0 % 128).toNat : Nat) : Int) = (offV v : Int) := rfl
  have em : decide (128 ≤ v.getD 5 0) = moreV v := rfl
  rw [q1, q2, eo, em, h6']
  have ho128 : offV v < 128 := by unfold offV; have := byte 5 (by omega); omega
  have n256 : v.length - 8 < 256 := by have := byte 6 (by omega); omega
  have eEnd : IntKind.i64.wrap ((offV v : Int) + ((v.length - 8 : Nat) : Int)) = ((offV v + (v.length - 8) : Nat) : Int) := by rw [w64 (by omega) (by omega)]; omega
  rw [eEnd]
  refine Bm.ite (fun h40 => ?_) (fun h40 => ?_)
  · exact retNone oNd oTd rfl (early 2 w3.drew ed (by unfold inF; rw [if_neg (by omega), if_neg (fun q => q h6'), if_neg (fun q => q h7'), if_neg h1', if_neg (fun q => q h3'), if_pos (by omega)]))
  have hTail : inF S.addr A v = (if v.length - 8 = 0 ∧ (moreV v = true ∨ 0 < offV v) then noneR 9 A
      else if offV v = 0 ∧ moreV v = false then ⟨0, v.getD 2 0, S.addr, v.getD 0 0, v.drop 8, A⟩
      else match A.find? (fun x => decide (x.key = keyV v)) with
        | some r => fragR S.addr A v r true
        | none => if A.length = 3 then noneR 11 A else fragR S.addr A v (freshRow (keyV v)) false) := by
    unfold inF
    rw [if_neg (by omega), if_neg (fun q => q h6'), if_neg (fun q => q h7'), if_neg h1', if_neg (fun q => q h3'), if_neg (by omega)]
    rfl
  have bad9 : (v.length - 8 = 0 ∧ (moreV v = true ∨ 0 < offV v)) → ip_IP_Input.B1 (some ⟨p, 0, none⟩) (some ⟨k, o, none⟩) l c t4 nn (offV v : Int) (moreV v) ((offV v + (v.length - 8) : Nat) : Int) true w3.drew R := fun q => by
    unfold ip_IP_Input.B1
    exact Bm.pos rfl (retNone oNd oTd rfl (early 9 w3.drew ed (by rw [hTail, if_pos q])))
  have good : ¬ (v.length - 8 = 0 ∧ (moreV v = true ∨ 0 < offV v)) → ip_IP_Input.B1 (some ⟨p, 0, none⟩) (some ⟨k, o, none⟩) l c t4 nn (offV v : Int) (moreV v) ((offV v + (v.length - 8) : Nat) : Int) false w3.drew R := fun q => by
    rw [if_neg q] at hTail
    unfold ip_IP_Input.B1
    refine Bm.neg rfl ?_
    have edd : Ext [] w3 w3.drew.drew := ed.trans (Ext.drew [] _)
    have hvdd := hv3.ext0 edd
    refine Pn.mk ⟨⟨by omega, by omega⟩, LdI.cell (by rw [add_mk]; exact rdat hvdd 2 (by omega)) (Pn.mk (LdI.cell h3.drew.drew.addr (Pn.mk ⟨⟨by omega, by omega⟩, LdI.cell (rdat hvdd 0 (by omega)) ?_⟩)))⟩
    refine New.mk fun up w4 hup hs4 oU4 he4 => ?_
    have E4 : Ext [] w3 w4 := edd.trans he4
    have hv4 := hv3.ext0 E4
    have h4 : RealAt w4 p S := E4.own h3 (by simp)
    refine ⟨rdat hv4 0 (by omega), h4.addr, by rw [add_mk]; exact rdat hv4 2 (by omega), ?_⟩
    rw [w64b (byte 2 (by omega)), w64b (byte 0 (by omega))]
    refine Sts.full oU4 rfl rfl fun w5 hs5 oU5 he5 => ?_
    have hdz : w3.drew.drew.heap.size = w3.heap.size := rfl
    have E5 : Ext [] w3 w5 := E4.trans' he5 (fun x hx hlt => by simp at hx; omega)
    have hv5 := hv3.ext0 E5
    have h5 : RealAt w5 p S := E5.own h3 (by simp)
    have oN5 := E5.own oN3 (by simp)
    have oT5 := E5.own oT3 (by simp)
    have z3 := E3.size
    have hkw : k < w.heap.size := by
      rcases hv.2 with h0 | ⟨k', o', e', hlt, _⟩
      · rw [h0] at h8'; simp at h8'
      · simp only [Option.some.injEq, Addr.mk.injEq] at e'
        rw [e'.1]; exact hlt
    have hw64 := byte 2 (by omega)
    -- B2
    have whole : (offV v = 0 ∧ moreV v = false) → ip_IP_Input.B2 (some ⟨p, 0, none⟩) (some ⟨k, o, none⟩) l c t4 nn (offV v : Int) (moreV v) ((offV v + (v.length - 8) : Nat) : Int) up true w5 R := fun q2 => by
      rw [if_pos q2] at hTail
      unfold ip_IP_Input.B2
      have hd5 : Rd w5 (slBase (some ⟨k, o, none⟩) ((8 : Nat) : Int) ((c : Nat) : Int) 1) (v.drop 8) := hv5.drop 8 (by omega)
      have e8 : ((l : Nat) : Int).toNat - (8 : Int).toNat = l - 8 := by rw [Int.toNat_natCast]; rfl
      rw [e8]
      refine Bm.pos rfl ⟨⟨by omega, by omega⟩, copyBytes_ok hd5 (by simp; omega) (by omega) fun r8 w8 hr8 hs8 hf8 he8 => ?_⟩
      refine Sts.mk (he8.own oU5 (by simp)) (by simp) rfl fun w9 hs9 ho9 he9 => ?_
      have oT9 := he9.own (he8.own oT5 (by simp)) (by simp; omega)
      refine retUp (a := v.getD 2 0) (b := S.addr) (c := v.getD 0 0) (xb := some ⟨r8, 0, none⟩) ho9 oT9 rfl fun w10 hs10 he10 => ?_
      rw [hTail] at hR
      refine hR _ _ w10 ⟨S, he10.own (he9.own (he8.own h5 (by simp)) (by simp; omega)) (by simp; omega), hrel, rfl, rfl, rfl, ?_, fun k hk => by simp [rowBlk] at hk; omega, (((E3.trans E5).trans he8).nil.trans' (he9.mono (T := [up]) (fun x hx _ => hx)) (fun x hx hlt => by simp at hx; omega)).trans' he10 (fun x hx hlt => by simp at hx; omega)⟩
      have hb8 := hf8.bs
      rw [show (v.drop 8).length = l - 8 by simp; omega] at hb8
      exact (hb8.ext he9 (fun k e => by simp at e; simp; omega)).ext he10 (fun k e => by simp at e; simp; omega)
    have frag : ¬ (offV v = 0 ∧ moreV v = false) → ip_IP_Input.B2 (some ⟨p, 0, none⟩) (some ⟨k, o, none⟩) l c t4 nn (offV v : Int) (moreV v) ((offV v + (v.length - 8) : Nat) : Int) up false w5 R := fun q2 => by
      rw [if_neg q2] at hTail
      have hn1 : 1 ≤ v.length - 8 := by
        have hmo : moreV v = true ∨ 0 < offV v := by
          by_cases hz : offV v = 0
          · left
            have : ¬ moreV v = false := fun e => q2 ⟨hz, e⟩
            simpa using this
          · right; omega
        have : v.length - 8 ≠ 0 := fun e => q ⟨e, hmo⟩
        omega
      unfold ip_IP_Input.B2
      have e5d : Ext [] w3 w5.drew := E5.trans (Ext.drew [] w5)
      have hv5d := hv3.ext0 e5d
      have h5d : RealAt w5.drew p S := e5d.own h3 (by simp)
      have oN5d := oN5.drew
      have oT5d := oT5.drew
      have oU5d := oU5.drew
      refine Bm.neg rfl (LdI.mk oU5d rfl (LdI.mk oU5d rfl (Pn.mk ⟨⟨by omega, by omega⟩, LdI.cell (by rw [add_mk]; exact rdat hv5d 4 (by omega)) ?_⟩)))
      rw [w64b (byte 4 (by omega))]
      refine keyOf_ok (byte 2 (by omega)) (byte 0 (by omega)) (byte 4 (by omega)) ?_
      have ek : v.getD 2 0 * 65536 + v.getD 0 0 * 256 + v.getD 4 0 = keyV v := rfl
      rw [ek]
      have b0 := byte 0 (by omega)
      have b2 := byte 2 (by omega)
      have b4 := byte 4 (by omega)
      have hkr : 0 ≤ keyV v ∧ keyV v < 16777216 := by unfold keyV; omega
      have EE : Ext [p] w w5.drew := (E3.trans e5d).nil
      refine find_ok h5d (fun i hi hu hk => ?_) (fun hno => ?_)
      · rw [hrel.find hi hu hk] at hTail
        refine Bm.neg (decide_eq_false (by omega)) ?_
        refine inputB3_ok (old := true) hrel hv5d hl hlc h8' hbig hbp EE hplt (by omega) (by omega) (by omega) ⟨by omega, by omega, by omega⟩ hi h5d ⟨rfl, rfl, rfl⟩ (fun _ _ => rfl) hu hk (hrel.swf i hi) (hrel.rwf _ (hrel.mem hi hu)).pre (.inl ⟨rfl, rfl⟩) (by omega) hn1 oN5d oT5d rfl oU5d ?_
        rw [hTail] at hR
        exact hR
      · obtain ⟨hfn, hne⟩ := hrel.find_none hno
        rw [hfn] at hTail
        refine Bm.pos rfl (vacant_ok h5d (fun i hi hu => ?_) (fun hall => ?_))
        · have hlen : ¬ A.length = 3 := fun e => by
            have := hrel.length.1 e i hi
            rw [hu] at this
            cases this
          have hTail2 : inF S.addr A v = fragR S.addr A v (freshRow (keyV v)) false := by
            rw [hTail]
            exact if_neg hlen
          refine Bm.neg (decide_eq_false (by omega)) (Pn.mk ⟨⟨by omega, by omega⟩, ?_⟩)
          simp only [Int.toNat_natCast]
          rw [add_mk, add_mk, Nat.zero_add]
          refine RealAt.st h5d (by omega) rfl (put_used _ i true) fun w8 hs8 hr8 he8 => Pn.mk ⟨⟨by omega, by omega⟩, ?_⟩
          rw [add_mk, add_mk, add_mk, Nat.zero_add]
          refine RealAt.st hr8 (by omega) rfl (put_key _ i _) fun w9 hs9 hr9 he9 => Pn.mk ⟨⟨by omega, by omega⟩, ?_⟩
          rw [add_mk, add_mk, add_mk, Nat.zero_add]
          refine RealAt.st hr9 (by omega) rfl (put_left _ i _) fun w10 hs10 hr10 he10 => Pn.mk ⟨⟨by omega, by omega⟩, ?_⟩
          rw [add_mk, add_mk, add_mk, Nat.zero_add]
          refine RealAt.st hr10 (by omega) rfl (put_total _ i _) fun w11 hs11 hr11 he11 => Pn.mk ⟨⟨by omega, by omega⟩, ?_⟩
          rw [add_mk, add_mk, add_mk, Nat.zero_add]
          refine RealAt.st hr11 (by omega) rfl (put_held _ i 0) fun w12 hs12 hr12 he12 => ?_
          simp only [setS_same, setS_setS] at hr12
          have E12 : Ext [p] w5.drew w12 := (((he8.trans he9).trans he10).trans he11).trans he12
          have swf : SlotWf ({ (S.sl i) with used := true, key := keyV v, left := 4, total := -1, held := 0 } : Slot) := ⟨by show 0 < 1099511627776; omega, (hrel.swf i hi).buf⟩
          have habs : ({ (S.sl i) with used := true, key := keyV v, left := 4, total := -1, held := 0 } : Slot).abs = freshRow (keyV v) := by
            unfold Slot.abs freshRow
            simp only [Nat.zero_testBit]
            rfl
          have hslot : (S.setS i ({ (S.sl i) with used := true, key := keyV v, left := 4, total := -1, held := 0 } : Slot)).sl i = { (S.sl i) with used := true, key := keyV v, left := 4, total := -1, held := 0 } := setS_same _ _ _
          have zz : w5.drew.heap.size = w5.heap.size := rfl
          refine inputB3_ok (old := false) (Sc := S.setS i { (S.sl i) with used := true, key := keyV v, left := 4, total := -1, held := 0 }) hrel (hv5d.ext E12 (fun k o e hk => hbp k o e (by simpa using hk))) hl hlc h8' hbig hbp (EE.trans E12) hplt (by omega) (by omega) (by omega) ⟨by omega, by omega, by omega⟩ hi hr12 ⟨rfl, rfl, rfl⟩ (fun j hj => setS_ne _ _ hj) (by rw [hslot]) (by rw [hslot]) (by rw [hslot]; exact swf) (by rw [hslot, habs]; exact fresh_pre hkr) (.inr ⟨rfl, hu, hne⟩) (by omega) hn1 (E12.own oN5d (by simp; omega)) (E12.own oT5d (by simp; omega)) rfl (E12.own oU5d (by simp; omega)) ?_
          rw [hslot, habs]
          rw [hTail2] at hR
          exact hR
        · have hlen : A.length = 3 := hrel.length.2 hall
          refine Bm.pos rfl (retNone oN5d oT5d rfl (early 11 w5.drew e5d ?_))
          rw [hTail]
          exact if_pos hlen
    by_cases hz : offV v = 0
    · have hz' : ((offV v : Int) == 0) = true := by simp [hz]
      refine Bm.pos hz' ?_
      by_cases hm : moreV v = true
      · have e : (!moreV v) = false := by rw [hm]; rfl
        rw [e]
        exact frag (fun q2 => by rw [hm] at q2; cases q2.2)
      · have hm' : moreV v = false := by simpa using hm
        have e : (!moreV v) = true := by rw [hm']; rfl
        rw [e]
        exact whole ⟨hz, hm'⟩
    · have hz' : ((offV v : Int) == 0) = false := by simpa using hz
      exact Bm.neg hz' (frag (fun q2 => hz q2.1))
  by_cases hn0 : v.length - 8 = 0
  · have hn0' : ((((v.length - 8 : Nat) : Int)) == 0) = true := by rw [hn0]; rfl
    refine Bm.pos hn0' (Bm.mk (fun hm => bad9 ⟨hn0, .inl hm⟩) (fun hm => ?_))
    by_cases hz : 0 < offV v
    · have : decide ((offV v : Int) > 0) = true := decide_eq_true (by omega)
      rw [this]
      exact bad9 ⟨hn0, .inr hz⟩
    · have : decide ((offV v : Int) > 0) = false := decide_eq_false (by omega)
      rw [this]
      exact good (fun q => by
        rcases q.2 with q | q
        · rw [hm] at q; cases q
        · exact hz q)
  · have hn0' : ((((v.length - 8 : Nat) : Int)) == 0) = false := by simpa using hn0
    exact Bm.neg hn0' (good (fun q => hn0 q.1))
end Go.Proofs.Qxb6500424aGreat.Ip
