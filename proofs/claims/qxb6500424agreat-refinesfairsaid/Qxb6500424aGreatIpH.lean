/-
  ip: the real layer's Input answers 'inF': the walk.
-/
import Derived.Test.Qxb6500424aGreatIpG
set_option linter.unusedVariables false
set_option linter.unusedSimpArgs false
open Go.Vc
namespace Go.Proofs.Qxb6500424aGreat.Ip

/-- What a call of Input leaves: the answer r, the table, all else as it was. -/
def InPost (w : World) (p : Nat) (S : IPS) (r : InR) (b' : Option Addr) (l' : Nat) (w' : World) : Prop :=
  ∃ S', RealAt w' p S' ∧ Rel r.tab S' ∧ S'.addr = S.addr ∧ S'.next = S.next ∧ S'.credit = S.credit ∧ Bs w' b' l' l' r.data ∧ (∀ k ∈ rowBlk b', w.heap.size ≤ k) ∧ Ext [p] w w'

/-- The last stretch: the fragment comes to slot i, which holds the row s.abs. -/
theorem inputB3_ok {w wc : World} {p t4 nn up i : Nat} {S Sc : IPS} {A : List AR} {v : List Int} {b : Option Addr} {l c : Nat} {cs : Array Value} {old : Bool} {R : Int → Int → Int → Option Addr → Nat → Nat → Int → World → Prop}
    (hrel : Rel A S) (hv : Rd wc b v) (hl : v.length = l) (hlc : l ≤ c) (h8 : 8 ≤ v.length) (hbig : l ≤ 281474976710656) (hbp : ∀ k o, b = some ⟨k, o, none⟩ → k ≠ p)
    (hE : Ext [p] w wc) (hpw : p < w.heap.size) (ht4 : w.heap.size ≤ t4) (hnn : w.heap.size ≤ nn) (hup : w.heap.size ≤ up) (hne : t4 ≠ nn ∧ t4 ≠ up ∧ nn ≠ up)
    (hi : i < 3) (hr : RealAt wc p Sc) (hSc : Sc.addr = S.addr ∧ Sc.next = S.next ∧ Sc.credit = S.credit) (hother : ∀ j, j ≠ i → Sc.sl j = S.sl j) (hused : (Sc.sl i).used = true) (hkey : (Sc.sl i).key = keyV v) (hswf : SlotWf (Sc.sl i)) (hpre : PreRow (Sc.sl i).abs)
    (hold : (old = true ∧ Sc.sl i = S.sl i) ∨ (old = false ∧ (S.sl i).used = false ∧ ∀ x ∈ A, x.key ≠ keyV v))
    (hoff : offV v + (v.length - 8) ≤ 40) (hn1 : 1 ≤ v.length - 8)
    (oN : Own wc nn #[.int .i64 0, .int .i64 0, .int .i64 0, .slice none 0 0] T_api_Datagram) (oT : Own wc t4 cs T_api_Datagram) (hcs : cs.size = 4) (oU : Own wc up #[.int .i64 (v.getD 2 0), .int .i64 S.addr, .int .i64 (v.getD 0 0), .slice none 0 0] T_api_Datagram)
    (hR : ∀ b' l' w', InPost w p S (fragR S.addr A v (Sc.sl i).abs old) b' l' w' → R (fragR S.addr A v (Sc.sl i).abs old).src (fragR S.addr A v (Sc.sl i).abs old).dst (fragR S.addr A v (Sc.sl i).abs old).proto b' l' l' (fragR S.addr A v (Sc.sl i).abs old).err w') :
    ip_IP_Input.B3 (some ⟨p, 0, none⟩) b l c t4 nn (offV v : Int) (moreV v) ((offV v + (v.length - 8) : Nat) : Int) up (i : Int) wc R := by
  have hbyte := hv.1
  have hkr := hpre.key
  -- the slot's changes and the table
  have relSet : ∀ (s' : Slot) (w' : World), RealAt w' p (Sc.setS i s') → (Sc.setS i s') = S.setS i s' := fun s' w' _ => by
    unfold IPS.setS updS
    obtain ⟨q1, q2, q3⟩ := hSc
    have : (fun j => if j = i then s' else Sc.sl j) = (fun j => if j = i then s' else S.sl j) := by
      funext j
      by_cases e : j = i
      · simp [e]
      · simp [e, hother j e]
    rw [this]
    cases Sc
    cases S
    simp only at q1 q2 q3
    subst q1; subst q2; subst q3
    rfl
  have dropRel : ∀ s' : Slot, s'.used = false → SlotWf s' → Rel (remA (keyV v) A) (S.setS i s') := fun s' hu' hw' => by
    rcases hold with ⟨_, e⟩ | ⟨_, hu, hk⟩
    · have hu : (S.sl i).used = true := by rw [← e]; exact hused
      have hk : (S.sl i).key = keyV v := by rw [← e]; exact hkey
      have := hrel.drop hi hu hu' hw'
      rwa [hk] at this
    · have e : remA (keyV v) A = A := by
        unfold remA
        rw [List.filter_eq_self]
        intro x hx
        simpa using hk x hx
      rw [e]
      have et : tab (S.setS i s') = tab S := by
        have o1 : one s' = [] := by unfold one; rw [if_neg (by simp [hu'])]
        have o2 : one (S.sl i) = [] := by unfold one; rw [if_neg (by simp [hu])]
        unfold tab
        have h3 : i = 0 ∨ i = 1 ∨ i = 2 := by omega
        rcases h3 with rfl | rfl | rfl
        · rw [setS_same, setS_ne _ _ (show 1 ≠ 0 by omega), setS_ne _ _ (show 2 ≠ 0 by omega), o1, o2]
        · rw [setS_same, setS_ne _ _ (show 0 ≠ 1 by omega), setS_ne _ _ (show 2 ≠ 1 by omega), o1, o2]
        · rw [setS_same, setS_ne _ _ (show 0 ≠ 2 by omega), setS_ne _ _ (show 1 ≠ 2 by omega), o1, o2]
      exact ⟨by rw [et]; exact hrel.perm, hrel.sorted, setS_keysNe hrel.kne (fun e => by rw [hu'] at e; cases e), setS_swf hrel.swf hw', hrel.rwf⟩
  have keepRel : ∀ s' : Slot, s'.used = true → s'.key = keyV v → SlotWf s' → RowWf s'.abs → Rel (if old then setA s'.abs A else insA s'.abs A) (S.setS i s') := fun s' hu' hk' hw' hrw => by
    rcases hold with ⟨ho, e⟩ | ⟨ho, hu, hk⟩
    · rw [ho, if_pos rfl]
      exact hrel.set hi (by rw [← e]; exact hused) hu' (by rw [hk', ← e]; exact hkey.symm) hw' hrw
    · rw [ho, if_neg (by simp)]
      exact hrel.add hi hu hu' (by rw [hk']; exact hk) hw' hrw
  have hUlt := oU.lt
  have hTlt := oT.lt
  have hNlt := oN.lt
  unfold ip_IP_Input.B3
  simp only [Int.toNat_natCast]
  refine clash_ok hr hi hswf hoff (Bm.mk (fun hbad => ?_) (fun hbad => ?_))
  · -- it contradicts: the row goes
    refine Pn.mk ⟨⟨by omega, by omega⟩, ?_⟩
    rw [add_mk, add_mk, Nat.zero_add]
    refine RealAt.st hr (by omega) rfl (put_used _ i false) fun w2 hs2 hr2 he2 => ?_
    have e := relSet _ w2 hr2
    rw [e] at hr2
    refine retNone (he2.own oN (by simp; omega)) (he2.own oT (by simp; omega)) hcs fun w3 hs3 he3 => ?_
    have hfr : fragR S.addr A v (Sc.sl i).abs old = noneR 9 (remA (keyV v) A) := by unfold fragR; rw [if_pos hbad]
    rw [hfr] at hR
    refine hR none 0 w3 ⟨_, he3.own hr2 (by simp; omega), dropRel _ rfl ⟨hswf.held, hswf.buf⟩, rfl, rfl, rfl, Bs.nil _, fun k hk => by simp [rowBlk] at hk, (hE.trans he2).trans' he3 (fun x hx hlt => by simp at hx; omega)⟩
  have hbad' : rowBad (Sc.sl i).abs (offV v + (v.length - 8)) (moreV v) = false := hbad
  -- the rest, with the slot s1 that bears the new total
  have rest : ∀ (w4 : World) (s1 : Slot), RealAt w4 p (S.setS i s1) → Ext [p] wc w4 → w4.heap.size = wc.heap.size → s1.used = true → s1.key = keyV v → SlotWf s1 → s1.abs = { (Sc.sl i).abs with total := (nextRow (Sc.sl i).abs v).total } → ip_IP_Input.B4 (some ⟨p, 0, none⟩) b l c t4 nn (offV v : Int) up (i : Int) w4 R := by
    intro w4 s1 hr4 he4 hs4 hu1 hk1 hw1 habs
    unfold ip_IP_Input.B4
    simp only [Int.toNat_natCast]
    have hv4 : Rd w4 b v := hv.ext he4 (fun k o e hk => hbp k o e (by simpa using hk))
    have hdl : (v.drop 8).length = l - 8 := by simp; omega
    have hd4 : Rd w4 (slBase b ((8 : Nat) : Int) ((c : Nat) : Int) 1) (v.drop 8) := hv4.drop 8 (by omega)
    refine ⟨⟨by omega, by omega⟩, ?_⟩
    have hslot : ((S.setS i s1).sl i) = s1 := setS_same _ _ _
    refine lay_ok (off := offV v) (d := v.drop 8) hr4 hi (by rw [hslot]; exact hw1) hd4 (by rw [hdl]; rfl) (by have : (8 : Int).toNat = 8 := rfl; omega) (fun k o e => ?_) fun w5 hs5 hr5 he5 => ?_
    · cases hb : b with
      | none => rw [hb] at e; simp [slBase] at e
      | some a =>
        rw [hb] at e
        simp only [slBase] at e
        have hk : a.block = k := by
          split at e
          · simp only [Option.some.injEq] at e; rw [e]
          · simp only [Option.map_some, Option.some.injEq] at e
            have := congrArg Addr.block e
            simp only [Addr.add] at this
            split at this <;> exact this
        rcases hv.2 with h0 | ⟨k', o', e', _, _⟩
        · rw [h0] at h8; simp at h8
        · rw [hb] at e'
          simp only [Option.some.injEq] at e'
          have := hbp k' o' (by rw [hb, e'])
          rw [e'] at hk
          simp only at hk
          omega
    rw [hslot, setS_setS] at hr5
    have hlabs := laid_abs (s := s1) (off := offV v) (d := v.drop 8) (by rw [hdl]; omega)
    have hnext : (laid s1 (offV v) (v.drop 8)).abs = nextRow (Sc.sl i).abs v := by
      rw [hlabs, habs]
      rfl
    have hlw : SlotWf (laid s1 (offV v) (v.drop 8)) := laid_wf hw1 (hbyte.drop 8) (by rw [hdl]; omega)
    have hls : ((S.setS i (laid s1 (offV v) (v.drop 8))).sl i) = laid s1 (offV v) (v.drop 8) := setS_same _ _ _
    have htot : (laid s1 (offV v) (v.drop 8)).total = (nextRow (Sc.sl i).abs v).total := by rw [← hnext]; rfl
    have htot40 : (nextRow (Sc.sl i).abs v).total ≤ 40 := by
      unfold nextRow
      simp only
      split
      · rcases hpre.tot with q | ⟨_, q, _⟩ <;> omega
      · omega
    refine whole_ok hr5 hi (by rw [hls]; exact hlw) (by rw [hls, htot]; exact htot40) ?_
    rw [hls, hnext]
    have E5 : Ext [p] w w5 := (hE.trans he4).trans he5
    have z5 : w5.heap.size = wc.heap.size := by omega
    have oN5 := (he4.trans he5).own oN (by simp; omega)
    have oT5 := (he4.trans he5).own oT (by simp; omega)
    have oU5 := (he4.trans he5).own oU (by simp; omega)
    refine Bm.mk (fun hfull => ?_) (fun hfull => ?_)
    · -- still unfinished
      have hfull' : rowFull (nextRow (Sc.sl i).abs v) = false := by simpa using hfull
      have hfr : fragR S.addr A v (Sc.sl i).abs old = noneR 10 (if old then setA (nextRow (Sc.sl i).abs v) A else insA (nextRow (Sc.sl i).abs v) A) := by
        unfold fragR
        rw [if_neg (by simp [hbad']), if_neg (by simp [hfull'])]
      refine retNone oN5 oT5 hcs fun w6 hs6 he6 => ?_
      rw [hfr] at hR
      refine hR none 0 w6 ⟨_, he6.own hr5 (by simp; omega), ?_, rfl, rfl, rfl, Bs.nil _, fun k hk => by simp [rowBlk] at hk, E5.trans' he6 (fun x hx hlt => by simp at hx; omega)⟩
      have := keepRel (laid s1 (offV v) (v.drop 8)) hu1 hk1 hlw (by rw [hnext]; exact nextRow_wf hpre hbyte h8 hn1 hoff hbad' hfull')
      rw [hnext] at this
      exact this
    · -- whole: it goes up
      have hfull' : rowFull (nextRow (Sc.sl i).abs v) = true := by simpa using hfull
      have hfr : fragR S.addr A v (Sc.sl i).abs old = ⟨0, v.getD 2 0, S.addr, v.getD 0 0, (nextRow (Sc.sl i).abs v).cell.take (nextRow (Sc.sl i).abs v).total.toNat, remA (keyV v) A⟩ := by
        unfold fragR
        rw [if_neg (by simp [hbad']), if_pos hfull']
      have h0 : 0 ≤ (nextRow (Sc.sl i).abs v).total := by
        unfold rowFull at hfull'
        simp only [Bool.and_eq_true, decide_eq_true_eq] at hfull'
        exact hfull'.1
      have hall : ∀ k, k < (nextRow (Sc.sl i).abs v).total.toNat → (laid s1 (offV v) (v.drop 8)).held.testBit k = true := by
        intro k hk
        have hf2 : (decide (0 ≤ (nextRow (Sc.sl i).abs v).total) && (List.range (nextRow (Sc.sl i).abs v).total.toNat).all fun k => decide (0 ≤ hd (nextRow (Sc.sl i).abs v).cell k)) = true := hfull'
        have h1 := (Bool.and_eq_true_iff.1 hf2).2
        have h2 : decide (0 ≤ hd (nextRow (Sc.sl i).abs v).cell k) = true := List.all_eq_true.1 h1 k (List.mem_range.2 hk)
        have hk40 : k < 40 := by omega
        rw [← hnext, abs_held hlw hk40] at h2
        exact h2
      have hct := hr5.total hi
      rw [hls, htot] at hct
      refine Pn.mk ⟨⟨by omega, by omega⟩, LdI.cell (by rw [add_mk, add_mk, add_mk, Nat.zero_add]; exact hct) (Pn.mk ⟨⟨by omega, by omega⟩, ⟨by omega, by omega⟩, ?_⟩)⟩
      have eb : slBaseA (Addr.add (Addr.add (Addr.add ⟨p, 0, none⟩ 3) (i * 45)) 5) ((0 : Nat) : Int) ((40 : Nat) : Int) 1 = ⟨p, 3 + i * 45 + 5, none⟩ := by
        rw [add_mk, add_mk, add_mk, Nat.zero_add]
        unfold slBaseA
        rw [if_neg (by decide), add_mk]
        rfl
      rw [eb]
      have hdata : Rd w5 (some ⟨p, 3 + i * 45 + 5, none⟩) ((nextRow (Sc.sl i).abs v).cell.take (nextRow (Sc.sl i).abs v).total.toNat) := by
        have hget : ∀ k x, ((nextRow (Sc.sl i).abs v).cell.take (nextRow (Sc.sl i).abs v).total.toNat)[k]? = some x → k < (nextRow (Sc.sl i).abs v).total.toNat ∧ x = (laid s1 (offV v) (v.drop 8)).buf k := fun k x hx => by
          rw [List.getElem?_take] at hx
          split at hx
          · rename_i hk
            refine ⟨hk, ?_⟩
            have h1 : hd (nextRow (Sc.sl i).abs v).cell k = x := by rw [hd, getD_of hx]
            rw [← hnext, abs_cell (by omega), hall k hk] at h1
            simpa using h1.symm
          · cases hx
        refine ⟨fun x hx => ?_, .inr ⟨p, 3 + i * 45 + 5, rfl, Own.lt hr5, fun k x hx => ?_⟩⟩
        · obtain ⟨k, hk⟩ := List.getElem?_of_mem hx
          obtain ⟨hk1, rfl⟩ := hget k x hk
          exact hlw.buf k (by omega)
        · obtain ⟨hk1, rfl⟩ := hget k x hx
          have := hr5.buf hi (k := k) (by omega)
          rw [hls] at this
          rw [Nat.add_assoc]
          exact this
      have hlen : ((nextRow (Sc.sl i).abs v).cell.take (nextRow (Sc.sl i).abs v).total.toNat).length = (nextRow (Sc.sl i).abs v).total.toNat := by
        rw [List.length_take]
        have : (nextRow (Sc.sl i).abs v).cell.length = 40 := by simp [nextRow, layC]
        omega
      refine copyBytes_ok hdata (by rw [hlen]; rfl) (by omega) fun r8 w8 hr8 hs8 hf8 he8 => ?_
      have oU8 := he8.own oU5 (by simp)
      refine Sts.mk oU8 (by simp) rfl fun w9 hs9 ho9 he9 => ?_
      have hr9 : RealAt w9 p (S.setS i (laid s1 (offV v) (v.drop 8))) := he9.own (he8.own hr5 (by simp)) (by simp; omega)
      refine Pn.mk ⟨⟨by omega, by omega⟩, ?_⟩
      rw [add_mk, add_mk, Nat.zero_add]
      refine RealAt.st hr9 (by omega) rfl (put_used _ i false) fun w10 hs10 hr10 he10 => ?_
      rw [hls, setS_setS] at hr10
      have oU10 := he10.own ho9 (by simp; omega)
      have oT10 := he10.own (he9.own (he8.own oT5 (by simp)) (by simp; omega)) (by simp; omega)
      refine retUp (a := v.getD 2 0) (b := S.addr) (c := v.getD 0 0) (xb := some ⟨r8, 0, none⟩) oU10 oT10 hcs fun w11 hs11 he11 => ?_
      rw [hfr] at hR
      have E9 : Ext [p] w w9 := E5.trans' (he8.nil.trans he9) (fun x hx hlt => by simp at hx; omega)
      have hz5 := E5.size
      refine hR _ _ w11 ⟨_, he11.own hr10 (by simp; omega), dropRel _ rfl ⟨hlw.held, hlw.buf⟩, rfl, rfl, rfl, ?_, fun k hk => by simp [rowBlk] at hk; omega, (E9.trans he10).trans' he11 (fun x hx hlt => by simp at hx; omega)⟩
      have hb8 := hf8.bs
      rw [hlen] at hb8
      exact ((hb8.ext he9 (fun k e => by simp at e; simp; omega)).ext he10 (fun k e => by simp at e; have := Own.lt hr5; simp; omega)).ext he11 (fun k e => by simp at e; simp; omega)
  refine Bm.mk (fun hm => ?_) (fun hm => ?_)
  · have hm' : moreV v = false := by simpa using hm
    refine Pn.mk ⟨⟨by omega, by omega⟩, ?_⟩
    rw [add_mk, add_mk, add_mk, Nat.zero_add]
    refine RealAt.st hr (by omega) rfl (put_total _ i _) fun w4 hs4 hr4 he4 => ?_
    have e := relSet _ w4 hr4
    rw [e] at hr4
    refine rest w4 _ hr4 he4 hs4 hused hkey ⟨hswf.held, hswf.buf⟩ ?_
    simp [Slot.abs, nextRow, hm']
  · have hm' : moreV v = true := by simpa using hm
    have eS : Sc = S.setS i (Sc.sl i) := by
      obtain ⟨q1, q2, q3⟩ := hSc
      have : Sc.sl = (fun j => if j = i then Sc.sl i else S.sl j) := by
        funext j
        by_cases e : j = i
        · simp [e]
        · simp [e, hother j e]
      unfold IPS.setS updS
      cases Sc
      cases S
      simp only at q1 q2 q3 this ⊢
      subst q1; subst q2; subst q3
      rw [← this]
    have hr' : RealAt wc p (S.setS i (Sc.sl i)) := by rw [← eS]; exact hr
    refine rest wc _ hr' (Ext.refl _ _) rfl hused hkey hswf ?_
    simp [Slot.abs, nextRow, hm']
end Go.Proofs.Qxb6500424aGreat.Ip
