/-
  ip: the model's Input: the last stretch, walked.
-/
import Derived.Test.Qxb6500425aIpV
set_option linter.unusedVariables false
set_option linter.unusedSimpArgs false
open Go.Vc
namespace Go.Proofs.Qxb6500425a

theorem foot_set {M : MS} {q i : Nat} {e e' : ME} (hi : M.L[i]? = some e) (hb : e'.blk = e.blk) : ({ M with L := M.L.set i e' } : MS).foot q = M.foot q := by
  have hlt := (List.getElem?_eq_some_iff.1 hi).1
  have hmap : (M.L.set i e').map ME.blk = M.L.map ME.blk := by
    apply List.ext_getElem?
    intro t
    rw [List.getElem?_map, List.getElem?_map, List.getElem?_set]
    by_cases et : i = t
    · subst et
      rw [if_pos rfl, if_pos hlt, hi]
      simp [hb]
    · rw [if_neg et]
  simp only [MS.foot, hmap]
structure MP (wc : World) (q t4 : Nat) (M M' : MS) (w' : World) : Prop where
  at_ : ModAt w' q M'
  addr : M'.addr = M.addr
  next : M'.next = M.next
  credit : M'.credit = M.credit
  ext : Ext (t4 :: M.foot q) wc w'
  grew : FGrew wc (M.foot q) (M'.foot q)
theorem nextRow_cell {r : AR} {v : List Int} (h : PreRow r) (hv : IsB v) : ∀ k, k < 40 → -1 ≤ hd (nextRow r v).cell k ∧ hd (nextRow r v).cell k < 256 := by
  intro k hk
  have := layC_get (c := r.cell) (d := v.drop 8) (off := offV v) hk
  show -1 ≤ hd (layC r.cell (offV v) (v.drop 8)) k ∧ hd (layC r.cell (offV v) (v.drop 8)) k < 256
  rw [this]
  split
  · rename_i h1
    obtain ⟨y, hy⟩ : ∃ y, (v.drop 8)[k - offV v]? = some y := ⟨_, List.getElem?_eq_getElem (by omega)⟩
    rw [getD_of hy]
    have := (hv.drop 8).get hy
    omega
  · obtain ⟨y, hy⟩ : ∃ y, r.cell[k]? = some y := ⟨_, List.getElem?_eq_getElem (by rw [h.len]; exact hk)⟩
    rw [hd, getD_of hy]
    exact h.cell y (List.mem_of_getElem? hy)

theorem takeRep_step {c : List Int} {k n : Nat} {x : Int} (hx : c[k]? = some x) (hk : k < n) : (c.take k ++ List.replicate (n - k) 0).set k x = c.take (k + 1) ++ List.replicate (n - (k + 1)) 0 := by
  have hlt := (List.getElem?_eq_some_iff.1 hx).1
  have hl : (c.take k).length = k := by rw [List.length_take]; omega
  rw [List.set_append_right _ _ (by omega), hl, Nat.sub_self, take_succ' hx]
  obtain ⟨m, hm⟩ : ∃ m, n - k = m + 1 := ⟨n - k - 1, by omega⟩
  rw [hm, show n - (k + 1) = m by omega, List.replicate_succ, List.set_cons_zero, List.append_assoc]
  rfl

theorem modTail_ok {wc : World} {q t4 nn i : Nat} {M : MS} {e : ME} {v : List Int} {b : Option Addr} {l c : Nat} {cs : Array Value} {R : Int → Int → Int → Option Addr → Nat → Nat → Int → World → Prop}
    (h : ModAt wc q M) (hlen : M.L.length ≤ 3) (hi : M.L[i]? = some e) (hpre : PreRow e.abs) (hv : Rd wc b v) (hl : v.length = l) (h8 : 8 ≤ v.length) (hbT : ∀ k o, b = some ⟨k, o, none⟩ → ∃ cs, Own wc k cs 5)
    (hoff : offV v + (v.length - 8) ≤ 40) (hn1 : 1 ≤ v.length - 8)
    (oN : Own wc nn #[.int .i64 0, .int .i64 0, .int .i64 0, .slice none 0 0] 81) (oT : Own wc t4 cs 81) (hcs : cs.size = 4) (hne : t4 ≠ nn)
    (hBad : rowBad e.abs (offV v + (v.length - 8)) (moreV v) = true → ∀ w' M', MP wc q t4 M M' w' → M'.L = M.L.eraseIdx i → R 0 0 0 none 0 0 9 w')
    (hMore : rowBad e.abs (offV v + (v.length - 8)) (moreV v) = false → rowFull (nextRow e.abs v) = false → ∀ w' M', MP wc q t4 M M' w' → (∃ e', M'.L = M.L.set i e' ∧ e'.abs = nextRow e.abs v) → R 0 0 0 none 0 0 10 w')
    (hFull : rowBad e.abs (offV v + (v.length - 8)) (moreV v) = false → rowFull (nextRow e.abs v) = true → ∀ w' M' k, MP wc q t4 M M' w' → M'.L = M.L.eraseIdx i → wc.heap.size ≤ k → Bf w' k ((nextRow e.abs v).cell.take (nextRow e.abs v).total.toNat) → R (v.getD 2 0) M.addr (v.getD 0 0) (some ⟨k, 0, none⟩) (nextRow e.abs v).total.toNat (nextRow e.abs v).total.toNat 0 w') :
    ipm_IP_Input.B3 (some ⟨q, 0, none⟩) b l c t4 nn ((v.length - 8 : Nat) : Int) (v.getD 0 0) (v.getD 2 0) (offV v : Int) (moreV v) (i : Int) (rowBad e.abs (offV v + (v.length - 8)) (moreV v)) wc R := by
  have hil := (List.getElem?_eq_some_iff.1 hi).1
  have hi' : M.L[(i : Int).toNat]? = some e := by rw [Int.toNat_natCast]; exact hi
  -- blocks of type 81 or 5 lie apart from the model's
  have apart : ∀ {w' : World} {M' : MS} {k : Nat} {cs : Array Value} {t : TypeId}, ModAt w' q M' → Own w' k cs t → t = 81 ∨ t = 5 → k ∉ M'.foot q := fun {w' M' k cs t} hM ho ht hk => by
    obtain ⟨cs', t', ho', ht'⟩ := hM.footTy hk
    have e1 := (ho.unique ho').2
    subst e1
    rcases ht with rfl | rfl <;> rcases ht' with e2 | e2 | e2 <;> exact absurd e2 (by decide)
  have rem : ∀ {w1 : World} {M1 : MS} {cs1 : Array Value} {K : World → Prop}, ModAt w1 q M1 → M1.L.length = M.L.length → M1.L.eraseIdx i = M.L.eraseIdx i → M1.addr = M.addr ∧ M1.next = M.next ∧ M1.credit = M.credit → M1.foot q = M.foot q → Ext (t4 :: M.foot q) wc w1 → (∀ w' M', MP wc q t4 M M' w' → M'.L = M.L.eraseIdx i → Ext (M1.foot q) w1 w' → K w') → ipm_IP_remove.Call (some ⟨q, 0, none⟩) (i : Int) w1 K := fun {w1 M1 cs1 K} h1 hln her hnum hft hE hK => by
    refine modRemove_ok h1 (by omega) (by omega) (by omega) fun tb tc w2 h2 he2 hb2 => ?_
    have hz := hE.size
    have hsub := foot_sub M1 q
    refine hK w2 _ ⟨h2, hnum.1, hnum.2.1, hnum.2.2, hE.trans' he2 (fun x hx _ => List.mem_cons_of_mem _ (by rw [← hft]; exact hsub x hx)), ?_⟩ (by show M1.L.eraseIdx (i : Int).toNat = _; rw [Int.toNat_natCast]; exact her) (he2.mono (fun x hx _ => hsub x hx))
    have := foot_erase (M := M1) (q := q) (w := w1) (tb := tb) (tc := tc) (j := (i : Int).toNat) hb2
    intro k hk
    rcases this k hk with q1 | q1
    · rw [hft] at q1; exact .inl q1
    · exact .inr (by omega)
  have fin : ∀ {w1 w' : World} {M' : MS}, MP wc q t4 M M' w1 → w'.heap.size = w1.heap.size → (∃ cs, Own w1 t4 cs 81) → Ext [t4] w1 w' → MP wc q t4 M M' w' := fun {w1 w' M'} hm hs ⟨cs', ho⟩ he => by
    refine ⟨hm.at_.ext he (fun k hk hk2 => ?_), hm.addr, hm.next, hm.credit, hm.ext.trans (he.mono (fun x hx _ => by simp at hx; simp [hx])), hm.grew⟩
    simp at hk2
    subst hk2
    exact apart hm.at_ ho (.inl rfl) hk
  unfold ipm_IP_Input.B3
  cases hbad : rowBad e.abs (offV v + (v.length - 8)) (moreV v) with
  | true =>
    refine Bm.pos rfl (rem (cs1 := cs) h rfl rfl ⟨rfl, rfl, rfl⟩ rfl (Ext.refl _ _) fun w1 M1 hm1 hL1 he1 => ?_)
    have oN1 := he1.own oN (apart h oN (.inl rfl))
    have oT1 := he1.own oT (apart h oT (.inl rfl))
    exact retNone oN1 oT1 hcs fun w2 hs2 he2 => hBad hbad w2 M1 (fin hm1 hs2 ⟨_, oT1⟩ he2) hL1
  | false =>
    refine Bm.neg rfl ?_
    have htot := nextRow_tot hpre h8 hn1 hoff hbad
    have hcel := nextRow_cell (r := e.abs) hpre hv.1
    have hw := h.get hi
    have hdl : (v.drop 8).length = v.length - 8 := by simp
    have hecl : e.cell.length = 40 := hw.len
    -- the bytes laid
    have b6 : ∀ (w1 : World) (t : Int), ModAt w1 q { M with L := M.L.set i { e with total := t } } → t = (nextRow e.abs v).total → Ext (M.foot q) wc w1 → ipm_IP_Input.B6 (some ⟨q, 0, none⟩) b l c t4 nn ((v.length - 8 : Nat) : Int) (v.getD 0 0) (v.getD 2 0) (offV v : Int) (i : Int) w1 R := by
      intro w1 t h1 ht hE1
      unfold ipm_IP_Input.B6 ipm_IP_Input.L4
      refine ⟨fun m q' b' l' c' t' nn' n' p' s' o' i' k w' => some ⟨q, 0, none⟩ = q' ∧ b = b' ∧ l = l' ∧ c = c' ∧ t4 = t' ∧ nn = nn' ∧ ((v.length - 8 : Nat) : Int) = n' ∧ v.getD 0 0 = p' ∧ v.getD 2 0 = s' ∧ (offV v : Int) = o' ∧ (i : Int) = i' ∧ 0 ≤ k ∧ k ≤ ((v.length - 8 : Nat) : Int) ∧ m = (((v.length - 8 : Nat) : Int) - k).toNat ∧ Ext (M.foot q) wc w' ∧ ModAt w' q { M with L := M.L.set i { e with total := t, cell := layP e.cell (offV v) (v.drop 8) k.toNat } }, v.length - 8,
        ⟨rfl, rfl, rfl, rfl, rfl, rfl, rfl, rfl, rfl, rfl, rfl, by omega, by omega, by omega, hE1, ?_⟩, ?_⟩
      · have : layP e.cell (offV v) (v.drop 8) (0 : Int).toNat = e.cell := layP_zero hecl
        rw [this]
        exact h1
      rintro m q' b' l' c' t' nn' n' p' s' o' i' k w' ⟨rfl, rfl, rfl, rfl, rfl, rfl, rfl, rfl, rfl, rfl, rfl, k0, k1, rfl, hE, hM⟩
      unfold ipm_IP_Input.L4b
      have hset : ∀ x : ME, (M.L.set i x)[(i : Int).toNat]? = some x := fun x => by
        rw [Int.toNat_natCast, List.getElem?_set, if_pos rfl, if_pos hil]
      refine Bm.ite (fun hk => ?_) (fun hk => ?_)
      · have hd' := hM.drew
        have hEd : Ext (M.foot q) wc w'.drew := hE.trans (Ext.drew _ w')
        obtain ⟨x, hx⟩ : ∃ x, (v.drop 8)[k.toNat]? = some x := ⟨_, List.getElem?_eq_getElem (by omega)⟩
        have hx8 : v[8 + k.toNat]? = some x := by rw [List.getElem?_drop] at hx; exact hx
        have hxb := hv.1.get hx8
        have hvd : Rd w'.drew b v := hv.ext hEd (fun kk o eb hk => by
          obtain ⟨cs', ho'⟩ := hbT kk o eb
          exact apart h ho' (.inr rfl) hk)
        obtain ⟨kb, ob, rfl, hc⟩ := hvd.at hx8
        rw [w64 (x := 8 + k) (by omega) (by omega), w64 (x := (offV v : Int) + k) (by omega) (by omega)]
        refine hd'.ldL (e := { e with total := t, cell := layP e.cell (offV v) (v.drop 8) k.toNat }) (by omega) (hset _) fun _ _ => Pn.mk ⟨⟨by omega, by omega⟩, LdI.cell (by rw [add_mk, Nat.mul_one, show (8 + k).toNat = 8 + k.toNat by omega]; exact hc) (Pn.mk ⟨⟨by omega, by omega⟩, ?_⟩)⟩
        rw [add_mk, Nat.zero_add, Nat.mul_one, w64b hxb, show ((offV v : Int) + k).toNat = offV v + k.toNat by omega]
        have hsi := hset { e with total := t, cell := layP e.cell (offV v) (v.drop 8) k.toNat }
        rw [Int.toNat_natCast] at hsi
        refine hd'.stC (e := { e with total := t, cell := layP e.cell (offV v) (v.drop 8) k.toNat }) (j := i) hsi (by omega) fun w2 hs2 h2 he2 => ?_
        rw [w64 (x := k + 1) (by omega) (by omega)]
        refine ⟨(((v.length - 8 : Nat) : Int) - (k + 1)).toNat, by omega, rfl, rfl, rfl, rfl, rfl, rfl, rfl, rfl, rfl, rfl, rfl, by omega, by omega, rfl, hEd.trans (he2.mono (fun y hy _ => ?_)), ?_⟩
        · simp at hy
          subst hy
          exact List.mem_cons_of_mem _ (List.mem_append.2 (.inr (List.mem_map.2 ⟨e, List.mem_of_getElem? hi, rfl⟩)))
        · rw [show (k + 1).toNat = k.toNat + 1 by omega, ← layP_step hx (by omega)]
          have e1 : ({ ({ M with L := M.L.set i { e with total := t, cell := layP e.cell (offV v) (v.drop 8) k.toNat } } : MS) with L := (M.L.set i { e with total := t, cell := layP e.cell (offV v) (v.drop 8) k.toNat }).set i { e with total := t, cell := (layP e.cell (offV v) (v.drop 8) k.toNat).set (offV v + k.toNat) x } } : MS) = { M with L := M.L.set i { e with total := t, cell := (layP e.cell (offV v) (v.drop 8) k.toNat).set (offV v + k.toNat) x } } := by
            rw [set_set_same]
          rw [← e1]
          exact h2
      · have ek : k.toNat = v.length - 8 := by omega
        rw [ek, ← hdl] at hM
        have elay : layP e.cell (offV v) (v.drop 8) (v.drop 8).length = (nextRow e.abs v).cell := rfl
        rw [elay] at hM
        -- the row is the next row
        generalize he2 : ({ e with total := t, cell := (nextRow e.abs v).cell } : ME) = e2 at hM
        have hblk : e2.blk = e.blk := by rw [← he2]
        have habs : e2.abs = nextRow e.abs v := by
          rw [← he2]
          unfold ME.abs
          simp only
          rw [ht]
          rfl
        have htot2 : e2.total = (nextRow e.abs v).total := by rw [← he2]; exact ht
        have hcell2 : e2.cell = (nextRow e.abs v).cell := by rw [← he2]
        have hft : ({ M with L := M.L.set i e2 } : MS).foot q = M.foot q := foot_set hi hblk
        have oN' := hE.own oN (apart h oN (.inl rfl))
        have oT' := hE.own oT (apart h oT (.inl rfl))
        have mp' : MP wc q t4 M { M with L := M.L.set i e2 } w' := ⟨hM, rfl, rfl, rfl, hE.mono (fun x hx _ => List.mem_cons_of_mem _ hx), by rw [hft]; exact FGrew.refl _ _⟩
        have b8t : rowFull (nextRow e.abs v) = false → ipm_IP_Input.B8 (some ⟨q, 0, none⟩) t4 nn (v.getD 0 0) (v.getD 2 0) (i : Int) e2.total true w' R := fun hf => by
          unfold ipm_IP_Input.B8
          exact Bm.pos rfl (retNone oN' oT' hcs fun w2 hs2 he2' => hMore hbad hf w2 _ (fin mp' hs2 ⟨_, oT'⟩ he2') ⟨e2, rfl, habs⟩)
        refine hM.ldI (by omega) (hset e2) (f := 4) rfl (by omega) fun _ _ => Bm.ite (fun h0 => b8t ?_) (fun h0 => ?_)
        · unfold rowFull
          rw [← htot2, decide_eq_false (by omega), Bool.false_and]
        have htot' : 1 ≤ (nextRow e.abs v).total ∧ (nextRow e.abs v).total ≤ 40 ∧ ∀ k, (nextRow e.abs v).total.toNat ≤ k → k < 40 → hd (nextRow e.abs v).cell k < 0 := by
          rcases htot with q1 | q1
          · rw [htot2, q1] at h0
            omega
          · exact q1
        refine modHave_ok hM (by omega) (hset e2) ?_
        have hfc := full_cnt htot'
        rw [hcell2, htot2, hfc]
        cases hfull : rowFull (nextRow e.abs v) with
        | false =>
          have := b8t hfull
          rw [htot2] at this
          exact this
        | true =>
          show ipm_IP_Input.B8 _ _ _ _ _ _ _ false w' R
          unfold ipm_IP_Input.B8
          generalize htt : (nextRow e.abs v).total = tt at htot' hFull
          obtain ⟨tn, rfl⟩ : ∃ tn : Nat, tt = tn := ⟨tt.toNat, by omega⟩
          have hall : ∀ k, k < tn → 0 ≤ hd (nextRow e.abs v).cell k := fun k hk => by
            unfold rowFull at hfull
            rw [htt] at hfull
            have h1 := (Bool.and_eq_true_iff.1 hfull).2
            have := List.all_eq_true.1 h1 k (List.mem_range.2 (by omega))
            simpa using this
          refine Bm.neg rfl (make8_ok rfl (by omega) (by omega) fun db w2 hdb hs2 hf2 he2' => ?_)
          simp only [Int.toNat_natCast] at hf2 hFull ⊢
          have E2 : Ext (M.foot q) wc w2 := hE.trans he2'.nil
          have hz := hE.size
          have t4lt := oT.lt
          have nnlt := oN.lt
          unfold ipm_IP_Input.L5
          refine ⟨fun m q' t' p' s' i' tt' db' dl' dc' k w'' => some ⟨q, 0, none⟩ = q' ∧ t4 = t' ∧ v.getD 0 0 = p' ∧ v.getD 2 0 = s' ∧ (i : Int) = i' ∧ (tn : Int) = tt' ∧ some ⟨db, 0, none⟩ = db' ∧ tn = dl' ∧ tn = dc' ∧ 0 ≤ k ∧ k ≤ tn ∧ m = (tn - k).toNat ∧ Ext [] w' w'' ∧ Bf w'' db ((nextRow e.abs v).cell.take k.toNat ++ List.replicate (tn - k.toNat) 0), tn,
            ⟨rfl, rfl, rfl, rfl, rfl, rfl, rfl, rfl, rfl, by omega, by omega, by omega, he2', by simpa using hf2⟩, ?_⟩
          rintro m q' t' p' s' i' tt' db' dl' dc' k w'' ⟨rfl, rfl, rfl, rfl, rfl, rfl, rfl, rfl, rfl, k0, k1, rfl, hE3, hf3⟩
          unfold ipm_IP_Input.L5b
          have hM3 := hM.ext0 hE3
          have hsi := hset e2
          refine Bm.ite (fun hk => ?_) (fun hk => ?_)
          · refine hM3.ldL (by omega) hsi fun _ _ => (hM3.get hsi).ld k0 (by omega) (Pn.mk ⟨⟨k0, by omega⟩, ?_⟩)
            have hk40 : k.toNat < 40 := by omega
            have hx0 := hall k.toNat (by omega)
            have hx1 := hcel k.toNat hk40
            rw [hcell2, add_mk, Nat.zero_add, Nat.mul_one, wrap8_id hx0 hx1.2]
            have hncl : (nextRow e.abs v).cell.length = 40 := by simp [nextRow, layC]
            have hgk : (nextRow e.abs v).cell[k.toNat]? = some (hd (nextRow e.abs v).cell k.toNat) := by
              have : (nextRow e.abs v).cell[k.toNat]? = some (nextRow e.abs v).cell[k.toNat] := List.getElem?_eq_getElem (by omega)
              simp [hd, List.getD, this]
            refine hf3.set (by simp; omega) ⟨hx0, hx1.2⟩ fun w4 hs4 hf4 he4 => ?_
            rw [w64 (by omega) (by omega)]
            refine ⟨(tn - (k + 1)).toNat, by omega, by trivial, by trivial, by trivial, by trivial, by trivial, by trivial, by trivial, by trivial, by trivial, by omega, by omega, rfl, hE3.trans' he4 (fun x hx hlt => by simp at hx; omega), ?_⟩
            rw [show (k + 1).toNat = k.toNat + 1 by omega, ← takeRep_step hgk (by omega)]
            exact hf4
          · have ek : k.toNat = tn := by omega
            rw [ek, Nat.sub_self, List.replicate_zero, List.append_nil] at hf3
            refine Pn.mk (LdI.cell (by exact hM3.own.cell rfl) (NewSet.mk rfl rfl fun dd w4 hdd hs4 od4 he4 => ?_))
            have hM4 := hM3.ext0 he4
            have E4 : Ext [] w' w4 := hE3.trans he4
            have oT4 := E4.own oT' (by simp)
            have hf4 := hf3.ext0 he4
            refine rem (cs1 := cs) hM4 (by show (M.L.set i e2).length = _; rw [List.length_set]) (by show (M.L.set i e2).eraseIdx i = _; rw [erase_set]) ⟨rfl, rfl, rfl⟩ hft ((hE.trans E4.nil).mono (fun x hx _ => List.mem_cons_of_mem _ hx)) fun w5 M5 hm5 hL5 he5 => ?_
            have od5 := he5.own od4 (apart hM4 od4 (.inl rfl))
            have oT5 := he5.own oT4 (apart hM4 oT4 (.inl rfl))
            have hf5 := hf4.ext he5 (apart hM4 hf4.1 (.inr rfl))
            refine retUp od5 oT5 hcs fun w6 hs6 he6 => hFull hbad hfull w6 M5 db (fin hm5 hs6 ⟨_, oT5⟩ he6) hL5 (by omega) (hf5.ext he6 ?_)
            have := Own.ne_type hf5.1 oT5 (by decide)
            simpa using this
    cases hm : moreV v with
    | true =>
      refine Bm.neg rfl (b6 wc e.total ?_ (by simp [nextRow, hm, ME.abs]) (Ext.refl _ _))
      have : M.L.set i { e with total := e.total } = M.L := set_self hi
      rw [this]
      exact h
    | false =>
      refine Bm.pos rfl ?_
      obtain ⟨k, hk, hc, hkq, _⟩ := h.at hi
      refine Pn.mk (LdL.cell (by rw [add_mk]; exact h.own.cell rfl) ?_)
      have hkf : k ∈ M.foot q := by simp [MS.foot, hk, rowBlk]
      rw [hk]
      refine Pn.mk ⟨⟨by omega, by omega⟩, ?_⟩
      have eo : IntKind.i64.wrap ((offV v : Int) + ((v.length - 8 : Nat) : Int)) = ((offV v + (v.length - 8) : Nat) : Int) := by rw [w64 (by omega) (by omega)]; omega
      rw [add_mk, add_mk, Nat.zero_add, Int.toNat_natCast, eo]
      refine h.st (e' := { e with total := ((offV v + (v.length - 8) : Nat) : Int) }) hk hi (by omega) rfl rfl rfl rfl ⟨hw.src, hw.proto, hw.id⟩ fun w1 hs1 h1 he1 => b6 w1 _ h1 (by simp [nextRow, hm]) (he1.mono (fun x hx _ => by simp at hx; rw [hx]; exact hkf))
end Go.Proofs.Qxb6500425a
