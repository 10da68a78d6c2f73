/-
  ip: the model's New, numbers, Tick, Pending, Peek.
-/
import Derived.Test.Qxb6500425aIpS
set_option linter.unusedVariables false
set_option linter.unusedSimpArgs false
open Go.Vc
namespace Go.Proofs.Qxb6500425a

/-- The footprint has grown by new blocks alone. -/
def FGrew (w : World) (F F' : List Nat) : Prop := ∀ k ∈ F', k ∈ F ∨ w.heap.size ≤ k
theorem FGrew.refl (w : World) (F : List Nat) : FGrew w F F := fun k hk => .inl hk
theorem FGrew.trans {w w' : World} {F F' F'' : List Nat} (h : FGrew w F F') (hs : w.heap.size ≤ w'.heap.size) (h' : FGrew w' F' F'') : FGrew w F F'' := fun k hk => by
  rcases h' k hk with q | q
  · exact h k q
  · exact .inr (by omega)
def freshMS (a : Int) : MS := ⟨lowB a, 0, 24, none, 0, []⟩
theorem modNew_ok {w : World} {a : Int} {R : Option Addr → World → Prop} (hR : ∀ q w', q = w.heap.size → w'.heap.size = q + 1 → ModAt w' q (freshMS a) → Ext [] w w' → R (some ⟨q, 0, none⟩) w') : ipm_New.Call a w R := by
  apply ipm_New.sound
  unfold ipm_New.B0
  exact New.mk fun q w1 hq hs ho he => hR q w1 hq hs ⟨ho, Row.nil _ _ _, fun e he => (by cases he), List.Pairwise.nil⟩ he
section
variable {w : World} {q : Nat} {M : MS}
theorem modAddr_ok {R : Int → World → Prop} (h : ModAt w q M) (hR : R M.addr w) : ipm_IP_Addr.Call (some ⟨q, 0, none⟩) w R := by
  apply ipm_IP_Addr.sound
  unfold ipm_IP_Addr.B0
  exact Pn.mk (LdI.mk h.own rfl hR)
theorem modNextId_ok {R : Int → World → Prop} (h : ModAt w q M) (hR : R M.next w) : ipm_IP_NextId.Call (some ⟨q, 0, none⟩) w R := by
  apply ipm_IP_NextId.sound
  unfold ipm_IP_NextId.B0
  exact Pn.mk (LdI.cell (by rw [add_mk]; exact h.own.cell rfl) hR)
theorem modCredit_ok {R : Int → World → Prop} (h : ModAt w q M) (hR : R M.credit w) : ipm_IP_Credit.Call (some ⟨q, 0, none⟩) w R := by
  apply ipm_IP_Credit.sound
  unfold ipm_IP_Credit.B0
  exact Pn.mk (LdI.cell (by rw [add_mk]; exact h.own.cell rfl) hR)
/-- The model's numbers stored. -/
theorem ModAt.stN {o : Nat} {v : Int} {M' : MS} {K : World → Prop} (h : ModAt w q M) (ho : o < 3) (e : putArr #[.int .i64 M.addr, .int .i64 M.next, .int .i64 M.credit, .slice M.tb M.L.length M.tc] o [.int .i64 v] = #[.int .i64 M'.addr, .int .i64 M'.next, .int .i64 M'.credit, .slice M'.tb M'.L.length M'.tc]) (e1 : M'.tb = M.tb) (e2 : M'.tc = M.tc) (e3 : M'.L = M.L)
    (hK : ∀ w', w'.heap.size = w.heap.size → ModAt w' q M' → Ext [q] w w' → K w') : Sts [.int .i64 v] ⟨q, o, none⟩ 0 w K := by
  refine Sts.mk h.own (by simp; omega) rfl fun w' hs ho' he => hK w' hs ⟨by rw [e] at ho'; exact ho', ?_, fun x hx => ?_, by rw [e3]; exact h.ne⟩ he
  · rw [e1, e2, e3]
    refine h.row.ext he (fun k hk => ?_)
    obtain ⟨cs, hoo⟩ := rowTy h.row hk
    have := Own.ne_type hoo h.own (by decide)
    simpa using this
  · rw [e3] at hx
    have := Own.ne_type (h.ent x hx).own h.own (by decide)
    exact (h.ent x hx).ext he (by simpa using this)
theorem foot_erase {M : MS} {q : Nat} {w : World} {tb : Option Addr} {tc j : Nat} (hb : ∀ k ∈ rowBlk tb, k ∈ rowBlk M.tb ∨ w.heap.size ≤ k) : FGrew w (M.foot q) (({ M with tb := tb, tc := tc, L := M.L.eraseIdx j } : MS).foot q) := fun k hk => by
  simp only [MS.foot, List.mem_cons, List.mem_append] at hk ⊢
  rcases hk with e | e | e
  · exact .inl (.inl e)
  · rcases hb k e with q | q
    · exact .inl (.inr (.inl q))
    · exact .inr q
  · obtain ⟨x, hx, rfl⟩ := List.mem_map.1 e
    exact .inl (.inr (.inr (List.mem_map.2 ⟨x, List.mem_of_mem_eraseIdx hx, rfl⟩)))
theorem foot_sub (M : MS) (q : Nat) : ∀ x ∈ q :: rowBlk M.tb, x ∈ M.foot q := fun x hx => by
  simp only [MS.foot, List.mem_cons, List.mem_append] at hx ⊢
  rcases hx with e | e
  · exact .inl e
  · exact .inr (.inl e)
end

theorem tickA_cons (r : AR) (A : List AR) : tickA (r :: A) = (if 0 < r.left - 1 then [{ r with left := r.left - 1 }] else []) ++ tickA A := by
  simp only [tickA, List.map_cons]
  by_cases h : 0 < r.left - 1
  · rw [List.filter_cons_of_pos (by exact decide_eq_true h), if_pos h]
    rfl
  · rw [List.filter_cons_of_neg (by simpa using h), if_neg h]
    rfl
theorem modTick_ok {w : World} {q : Nat} {M : MS} {R : World → Prop} (h : ModAt w q M) (hlen : M.L.length ≤ 3) (hleft : ∀ e ∈ M.L, 1 ≤ e.left ∧ e.left ≤ 4)
    (hR : ∀ M' w', ModAt w' q M' → M'.addr = M.addr → M'.next = M.next → M'.credit = 24 → M'.rows = tickA M.rows → M'.L.length ≤ 3 → Ext (M.foot q) w w' → FGrew w (M.foot q) (M'.foot q) → R w') : ipm_IP_Tick.Call (some ⟨q, 0, none⟩) w R := by
  apply ipm_IP_Tick.sound
  unfold ipm_IP_Tick.B0
  refine Pn.mk ?_
  rw [add_mk, Nat.zero_add]
  refine h.stN (o := 2) (by omega) (M' := { M with credit := 24 }) rfl rfl rfl rfl fun w1 hs1 h1 he1 => Pn.mk (LdL.cell (by rw [add_mk]; exact h1.own.cell rfl) ?_)
  have hL1 : ({ M with credit := 24 } : MS).L = M.L := rfl
  rw [hL1, w64 (by omega) (by omega)]
  have E1 : Ext (M.foot q) w w1 := he1.mono (fun x hx _ => by simp at hx; simp [MS.foot, hx])
  unfold ipm_IP_Tick.L1
  refine ⟨fun m q' i w' => some ⟨q, 0, none⟩ = q' ∧ -1 ≤ i ∧ i < M.L.length ∧ m = (i + 1).toNat ∧ ∃ M' T, ModAt w' q M' ∧ M'.addr = M.addr ∧ M'.next = M.next ∧ M'.credit = 24 ∧ M'.L = M.L.take (i + 1).toNat ++ T ∧ T.map ME.abs = tickA ((M.L.drop (i + 1).toNat).map ME.abs) ∧ M'.L.length ≤ 3 ∧ Ext (M.foot q) w w' ∧ FGrew w (M.foot q) (M'.foot q), M.L.length,
    ⟨rfl, by omega, by show ((M.L.length : Nat) : Int) - 1 < _; omega, by show M.L.length = _; omega, { M with credit := 24 }, [], h1, rfl, rfl, rfl, ?_, ?_, hlen, E1, FGrew.refl _ _⟩, ?_⟩
  · show M.L = M.L.take (((M.L.length : Nat) : Int) - 1 + 1).toNat ++ []
    rw [show (((M.L.length : Nat) : Int) - 1 + 1).toNat = M.L.length by omega]
    simp
  · show ([] : List AR) = _
    rw [show (((M.L.length : Nat) : Int) - 1 + 1).toNat = M.L.length by omega]
    simp [tickA]
  rintro m q' i w' ⟨rfl, i0, i1, rfl, M', T, hM, e1, e2, e3, eL, eT, hl3, hE, hF⟩
  unfold ipm_IP_Tick.L1b
  refine Bm.ite (fun hi => ?_) (fun hi => ?_)
  · have ei : (i + 1).toNat = i.toNat + 1 := by omega
    rw [ei] at eL eT
    obtain ⟨e, he⟩ : ∃ e, M.L[i.toNat]? = some e := ⟨_, List.getElem?_eq_getElem (by omega)⟩
    have hil : i.toNat < M.L.length := by omega
    have he' : M'.L[i.toNat]? = some e := by
      rw [eL, List.getElem?_append_left (by rw [List.length_take]; omega), List.getElem?_take, if_pos (by omega)]
      exact he
    have hl := hleft e (List.mem_of_getElem? he)
    refine hM.ldI hi he' (f := 3) rfl (by omega) fun k hk => ?_
    have hkrow : k ∈ M'.foot q := by simp [MS.foot, hk, rowBlk]
    have hil' := (List.getElem?_eq_some_iff.1 he').1
    rw [hk]
    refine Pn.mk ⟨⟨hi, by omega⟩, ?_⟩
    rw [add_mk, add_mk, Nat.zero_add, w64 (by omega) (by omega)]
    have hw := hM.get he'
    refine hM.st (e' := { e with left := e.left - 1 }) hk he' (by omega) rfl rfl rfl rfl ⟨hw.src, hw.proto, hw.id⟩ fun w2 hs2 h2 he2 => ?_
    have he2' : ({ M' with L := M'.L.set i.toNat { e with left := e.left - 1 } } : MS).L[i.toNat]? = some { e with left := e.left - 1 } := by
      show (M'.L.set i.toNat _)[i.toNat]? = _
      rw [List.getElem?_set, if_pos rfl, if_pos hil']
    have hz := hE.size
    have E2 : Ext (M.foot q) w w2 := hE.trans' he2 (fun x hx hlt => by
      simp at hx
      rw [hx] at hlt ⊢
      rcases hF k hkrow with q1 | q1
      · exact q1
      · omega)
    have hsplit : M'.L.set i.toNat { e with left := e.left - 1 } = M.L.take i.toNat ++ { e with left := e.left - 1 } :: T := by
      rw [eL, take_succ' he, List.append_assoc, List.singleton_append, List.set_append_right _ _ (by rw [List.length_take]; omega)]
      rw [List.length_take, show i.toNat - min i.toNat M.L.length = 0 by omega]
      rfl
    have hdrop : M.L.drop i.toNat = e :: M.L.drop (i.toNat + 1) := by
      rw [List.drop_eq_getElem_cons hil, (List.getElem?_eq_some_iff.1 he).2]
    have F2 : FGrew w (M.foot q) (({ M' with L := M'.L.set i.toNat { e with left := e.left - 1 } } : MS).foot q) := fun k hk => by
      refine hF k ?_
      simp only [MS.foot, List.mem_cons, List.mem_append] at hk ⊢
      rcases hk with e | e | e
      · exact .inl e
      · exact .inr (.inl e)
      · obtain ⟨x, hx, rfl⟩ := List.mem_map.1 e
        refine .inr (.inr ?_)
        rcases List.mem_or_eq_of_mem_set hx with hx | rfl
        · exact List.mem_map.2 ⟨x, hx, rfl⟩
        · exact List.mem_map.2 ⟨_, List.mem_of_getElem? he', rfl⟩
    have ei1 : (i - 1 + 1).toNat = i.toNat := by omega
    unfold ipm_IP_Tick.B1
    rw [w64 (x := i - 1) (by omega) (by omega)]
    refine h2.ldI hi he2' (f := 3) rfl (by omega) fun k2 hk2 => Bm.mk (fun hz0 => ?_) (fun hz0 => ?_)
    · have hz1 : e.left - 1 = 0 := by simpa using hz0
      have hlen2 : ({ M' with L := M'.L.set i.toNat { e with left := e.left - 1 } } : MS).L.length = M'.L.length := by
        show (M'.L.set _ _).length = _
        rw [List.length_set]
      refine modRemove_ok h2 hi (by rw [hlen2]; omega) (by rw [hlen2]; exact hl3) fun tb tc w3 h3 he3 hb3 => ?_
      refine ⟨(i - 1 + 1).toNat, by omega, rfl, by omega, by omega, rfl, _, T, h3, e1, e2, e3, ?_, ?_, ?_, E2.trans' he3 (fun x hx hlt => ?_), F2.trans (by omega) (foot_erase hb3)⟩
      · show (M'.L.set i.toNat _).eraseIdx i.toNat = _
        rw [hsplit, ei1, List.eraseIdx_append_of_length_le (by rw [List.length_take]; omega)]
        rw [List.length_take, show i.toNat - min i.toNat M.L.length = 0 by omega]
        rfl
      · rw [ei1, hdrop, List.map_cons, tickA_cons, eT]
        rw [if_neg (by show ¬ 0 < e.left - 1; omega)]
        rfl
      · show ((M'.L.set i.toNat _).eraseIdx i.toNat).length ≤ 3
        rw [List.length_eraseIdx, List.length_set]
        split <;> omega
      · have hx' := foot_sub _ _ x hx
        rcases F2 x hx' with q1 | q1
        · exact q1
        · omega
    · have hz1 : e.left - 1 ≠ 0 := by simpa using hz0
      refine ⟨(i - 1 + 1).toNat, by omega, rfl, by omega, by omega, rfl, _, { e with left := e.left - 1 } :: T, h2, e1, e2, e3, ?_, ?_, ?_, E2, F2⟩
      · rw [ei1]
        exact hsplit
      · rw [ei1, hdrop, List.map_cons, List.map_cons, tickA_cons, eT]
        rw [if_pos (by show 0 < e.left - 1; omega)]
        rfl
      · show (M'.L.set i.toNat _).length ≤ 3
        rw [List.length_set]
        exact hl3
  · have ei : (i + 1).toNat = 0 := by omega
    rw [ei] at eL eT
    simp only [List.take_zero, List.nil_append, List.drop_zero] at eL eT
    refine hR M' w' hM e1 e2 e3 ?_ hl3 hE hF
    unfold MS.rows
    rw [eL]
    exact eT

theorem keyParts {s p d : Int} (hs : 0 ≤ s ∧ s < 256) (hp : 0 ≤ p ∧ p < 256) (hd : 0 ≤ d ∧ d < 256) : (s * 65536 + p * 256 + d) / 65536 = s ∧ (s * 65536 + p * 256 + d) / 256 % 256 = p ∧ (s * 65536 + p * 256 + d) % 256 = d := by omega
theorem pendV_one (r : AR) : (pendV r).all Value.oneCell' = true := rfl
theorem modPending_ok {w : World} {q : Nat} {M : MS} {R : Option Addr → Nat → Nat → World → Prop} (h : ModAt w q M) (hlen : M.L.length ≤ 3)
    (hR : ∀ b c w', Row w' b M.rows.length c 6 70 (pendL M.rows) → (∀ k ∈ rowBlk b, w.heap.size ≤ k) → Ext [] w w' → R b M.rows.length c w') : ipm_IP_Pending.Call (some ⟨q, 0, none⟩) w R := by
  apply ipm_IP_Pending.sound
  unfold ipm_IP_Pending.B0
  refine Pn.mk (LdL.cell (by rw [add_mk]; exact h.own.cell rfl) (Make.mk (by omega) (by omega) (by omega) (by omega) fun b w1 hb hs1 ho1 he1 => ?_))
  rw [Int.toNat_natCast] at ho1
  rw [Int.toNat_natCast]
  have hrl : M.rows.length = M.L.length := by simp [MS.rows]
  unfold ipm_IP_Pending.L1
  refine ⟨fun m q' ob ol oc i w' => some ⟨q, 0, none⟩ = q' ∧ 0 ≤ i ∧ i ≤ M.L.length ∧ m = (M.L.length - i).toNat ∧ ol = i.toNat ∧ Row w' ob ol oc 6 70 (pendL (M.rows.take i.toNat)) ∧ (∀ k ∈ rowBlk ob, w.heap.size ≤ k) ∧ Ext [] w w', M.L.length,
    ⟨rfl, by omega, by omega, by omega, rfl, ⟨rfl, by omega, .inr ⟨b, _, rfl, ho1, by rw [zero6]; exact Nat.le_refl _, rfl⟩⟩, fun k hk => by simp [rowBlk] at hk; omega, he1⟩, ?_⟩
  rintro m q' ob ol oc i w' ⟨rfl, i0, i1, rfl, rfl, hrow, hfr, hE⟩
  unfold ipm_IP_Pending.L1b
  have h' := h.ext0 hE
  refine Pn.mk (LdL.cell (by rw [add_mk]; exact h'.own.cell rfl) (Bm.ite (fun hi => ?_) (fun hi => ?_)))
  · obtain ⟨e, he⟩ : ∃ e, M.L[i.toNat]? = some e := ⟨_, List.getElem?_eq_getElem (by omega)⟩
    have hd := h'.drew
    have hw := h'.get he
    refine modHave_ok h' i0 he (hd.ldI0 i0 he fun _ _ => hd.ldI i0 he (f := 1) rfl (by omega) fun _ _ => hd.ldI i0 he (f := 2) rfl (by omega) fun _ _ => hd.ldI i0 he (f := 3) rfl (by omega) fun _ _ => hd.ldI i0 he (f := 4) rfl (by omega) fun _ _ => New.mk fun nb w2 hnb hs2 ho2 he2 => ?_)
    have E2 : Ext [] w w2 := (hE.trans (Ext.drew [] w')).trans he2
    have hrow2 := hrow.ext ((Ext.drew [] w').trans he2) (fun k _ hk => by cases hk)
    obtain ⟨p1, p2, p3⟩ := keyParts hw.src hw.proto hw.id
    have hpv : pendV e.abs = [.int .i64 e.src, .int .i64 e.proto, .int .i64 e.id, .int .i64 e.left, .int .i64 e.total, .int .i64 (cntH e.cell 40)] := by
      show [Value.int .i64 ((e.src * 65536 + e.proto * 256 + e.id) / 65536), .int .i64 ((e.src * 65536 + e.proto * 256 + e.id) / 256 % 256), .int .i64 ((e.src * 65536 + e.proto * 256 + e.id) % 256), _, _, _] = _
      rw [p1, p2, p3]
      rfl
    have hgr : M.rows[i.toNat]? = some e.abs := by simp [MS.rows, he]
    refine Vc.Append.mk (news := pendV e.abs) hrow2 (CellsAt.own ho2 (fun j v hj => by rw [hpv] at hj; simpa using hj)) rfl rfl (pendV_one _) (by omega) (by omega) fun b2 c2 w3 hrow3 hE3 hb3 => ?_
    rw [w64 (by omega) (by omega)]
    have hz2 := E2.size
    have hz3 := hE3.size
    refine ⟨(M.L.length - (i + 1)).toNat, by omega, rfl, by omega, by omega, rfl, by omega, ?_, fun k hk => ?_, E2.trans' hE3 (fun x hx hlt => by have := hfr x hx; omega)⟩
    · rw [show (i + 1).toNat = i.toNat + 1 by omega, pendL_take hgr]
      exact hrow3
    · rcases hb3 k hk with q1 | q1
      · exact hfr k q1
      · omega
  · have ei : i.toNat = M.rows.length := by omega
    rw [ei, List.take_length] at hrow
    rw [ei]
    exact hR ob oc w' hrow hfr hE

theorem modPeek_ok {w : World} {q : Nat} {M : MS} {j : Int} {R : Option Addr → Nat → Nat → World → Prop} (h : ModAt w q M)
    (hn : (j < 0 ∨ M.rows.length ≤ j) → ∀ b w', w.heap.size ≤ b → Own w' b #[] 3 → Ext [] w w' → R (some ⟨b, 0, none⟩) 0 0 w')
    (hR : ∀ r b w', 0 ≤ j → M.rows[j.toNat]? = some r → w.heap.size ≤ b → Own w' b (i64L r.cell).toArray 3 → Ext [] w w' → R (some ⟨b, 0, none⟩) 40 40 w') : ipm_IP_Peek.Call (some ⟨q, 0, none⟩) j w R := by
  apply ipm_IP_Peek.sound
  unfold ipm_IP_Peek.B0
  have hrl : M.rows.length = M.L.length := by simp [MS.rows]
  have out : (j < 0 ∨ M.rows.length ≤ j) → ipm_IP_Peek.B1 (some ⟨q, 0, none⟩) j true w R := fun hq => by
    unfold ipm_IP_Peek.B1
    exact Bm.pos rfl (New.mk fun b w1 hb hs ho he => hn hq b w1 (by omega) ho he)
  refine Bm.ite (fun hj => out (.inl hj)) (fun hj => Pn.mk (LdL.cell (by rw [add_mk]; exact h.own.cell rfl) ?_))
  by_cases hj2 : j ≥ (M.L.length : Int)
  · rw [decide_eq_true hj2]
    exact out (.inr (by omega))
  rw [decide_eq_false hj2]
  unfold ipm_IP_Peek.B1
  refine Bm.neg rfl (Make.mk (by omega) (by omega) (by omega) (by omega) fun b w1 hb hs1 ho1 he1 => ?_)
  obtain ⟨e, he⟩ : ∃ e, M.L[j.toNat]? = some e := ⟨_, List.getElem?_eq_getElem (by omega)⟩
  have h1 := h.ext0 he1
  have hw := h1.get he
  have hl := hw.len
  have hbl := h.get he
  refine h1.ldL (by omega) he fun _ _ => Copy.mk (news := i64L e.cell) ho1 (CellsAt.own hw.own (fun j v hj => by simpa using hj)) (by simp [i64L, hl]) (by simp [i64L, hl, madeCells]) (by simp [i64L, Value.oneCell']) fun w2 hs2 ho2 he2 => ?_
  rw [putArr_full _ _ (by simp [i64L, hl, madeCells])] at ho2
  refine hR e.abs b w2 (by omega) (by simp [MS.rows, he]) (by omega) ho2 (he1.trans' he2 (fun x hx hlt => by simp at hx; omega))
end Go.Proofs.Qxb6500425a
