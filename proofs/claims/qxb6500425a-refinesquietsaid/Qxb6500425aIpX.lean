/-
  ip: the model's Input: a row put in, and whether the fragment clashes.
-/
import Derived.Test.Qxb6500425aIpW
set_option linter.unusedVariables false
set_option linter.unusedSimpArgs false
open Go.Vc
namespace Go.Proofs.Qxb6500425a

/-! ### places in a sorted list -/
theorem sorted_find : ∀ {A : List AR}, Sorted A → ∀ {j : Nat} {r : AR}, A[j]? = some r → ∀ {k : Int}, r.key = k → A.find? (fun x => decide (x.key = k)) = some r
  | [], _, j, r, hj, k, hk => by simp at hj
  | a :: A, hs, 0, r, hj, k, hk => by
    simp at hj
    subst hj
    rw [List.find?_cons_of_pos (by simpa using hk)]
  | a :: A, hs, j + 1, r, hj, k, hk => by
    have hs' := List.pairwise_cons.1 hs
    rw [List.getElem?_cons_succ] at hj
    have := hs'.1 r (List.mem_of_getElem? hj)
    rw [List.find?_cons_of_neg (by simp; omega)]
    exact sorted_find hs'.2 hj hk
theorem sorted_rem : ∀ {A : List AR}, Sorted A → ∀ {j : Nat} {r : AR}, A[j]? = some r → ∀ {k : Int}, r.key = k → remA k A = A.eraseIdx j
  | [], _, j, r, hj, k, hk => by simp at hj
  | a :: A, hs, 0, r, hj, k, hk => by
    simp at hj
    subst hj
    have hs' := List.pairwise_cons.1 hs
    unfold remA
    rw [List.filter_cons_of_neg (by simpa using hk), List.eraseIdx_cons_zero, List.filter_eq_self]
    intro x hx
    have := hs'.1 x hx
    simp
    omega
  | a :: A, hs, j + 1, r, hj, k, hk => by
    have hs' := List.pairwise_cons.1 hs
    rw [List.getElem?_cons_succ] at hj
    have := hs'.1 r (List.mem_of_getElem? hj)
    have ih := sorted_rem hs'.2 hj hk
    unfold remA at ih ⊢
    rw [List.filter_cons_of_pos (by simp; omega), List.eraseIdx_cons_succ, ih]
theorem sorted_set : ∀ {A : List AR}, Sorted A → ∀ {j : Nat} {r r' : AR}, A[j]? = some r → r'.key = r.key → setA r' A = A.set j r'
  | [], _, j, r, r', hj, hk => by simp at hj
  | a :: A, hs, 0, r, r', hj, hk => by
    simp at hj
    subst hj
    have hs' := List.pairwise_cons.1 hs
    unfold setA
    rw [List.map_cons, if_pos hk.symm, List.set_cons_zero]
    congr 1
    have : A.map (fun x => if x.key = r'.key then r' else x) = A.map id := List.map_congr_left fun x hx => by
      have := hs'.1 x hx
      rw [if_neg (by omega)]
      rfl
    rw [this, List.map_id]
  | a :: A, hs, j + 1, r, r', hj, hk => by
    have hs' := List.pairwise_cons.1 hs
    rw [List.getElem?_cons_succ] at hj
    have := hs'.1 r (List.mem_of_getElem? hj)
    have ih := sorted_set hs'.2 hj hk
    unfold setA at ih ⊢
    rw [List.map_cons, if_neg (by omega), List.set_cons_succ, ih]
theorem insA_at : ∀ {A : List AR} {r : AR} {i : Nat}, i ≤ A.length → (∀ t x, t < i → A[t]? = some x → x.key < r.key) → (∀ x, A[i]? = some x → ¬ x.key < r.key) → insA r A = A.take i ++ r :: A.drop i
  | [], r, i, hi, _, _ => by
    have : i = 0 := by simpa using hi
    subst this
    rfl
  | a :: A, r, 0, _, _, hhi => by
    unfold insA
    rw [if_neg (hhi a (by simp))]
    rfl
  | a :: A, r, i + 1, hi, hlo, hhi => by
    unfold insA
    rw [if_pos (hlo 0 a (by omega) (by simp))]
    rw [insA_at (A := A) (i := i) (by simpa using hi) (fun t x ht hx => hlo (t + 1) x (by omega) (by simpa using hx)) (fun x hx => hhi x (by simpa using hx))]
    rfl

/-! ### whether the fragment clashes -/
theorem modB4_ok {w : World} {q t4 nn i en : Nat} {M : MS} {e : ME} {b : Option Addr} {l c : Nat} {n p s o : Int} {more bad : Bool} {R : Int → Int → Int → Option Addr → Nat → Nat → Int → World → Prop}
    (h : ModAt w q M) (hi : M.L[i]? = some e) (hen : IntKind.i64.wrap (o + n) = (en : Int)) (h40 : en ≤ 40)
    (hB : ipm_IP_Input.B3 (some ⟨q, 0, none⟩) b l c t4 nn n p s o more (i : Int) (bad || (List.range 40).any fun k => decide (en ≤ k) && decide (0 ≤ hd e.cell k)) w R) :
    ipm_IP_Input.B4 (some ⟨q, 0, none⟩) b l c t4 nn n p s o more (i : Int) bad w R := by
  have hi' : M.L[(i : Int).toNat]? = some e := by rw [Int.toNat_natCast]; exact hi
  unfold ipm_IP_Input.B4
  rw [hen]
  unfold ipm_IP_Input.L2
  refine ⟨fun m q' b' l' c' t' nn' n' p' s' o' more' i' bad' k w' => some ⟨q, 0, none⟩ = q' ∧ b = b' ∧ l = l' ∧ c = c' ∧ t4 = t' ∧ nn = nn' ∧ n = n' ∧ p = p' ∧ s = s' ∧ o = o' ∧ more = more' ∧ (i : Int) = i' ∧ w = w' ∧ (en : Int) ≤ k ∧ k ≤ 40 ∧ m = (40 - k).toNat ∧ bad' = (bad || (List.range k.toNat).any fun k => decide (en ≤ k) && decide (0 ≤ hd e.cell k)), 40 - en,
    ⟨rfl, rfl, rfl, rfl, rfl, rfl, rfl, rfl, rfl, rfl, rfl, rfl, rfl, by omega, by omega, by omega, ?_⟩, ?_⟩
  · have : ((List.range ((en : Int)).toNat).any fun k => decide (en ≤ k) && decide (0 ≤ hd e.cell k)) = false := by
      rw [List.any_eq_false]
      intro k hk
      have := List.mem_range.1 hk
      simp
      intro
      omega
    rw [this, Bool.or_false]
  rintro m q' b' l' c' t' nn' n' p' s' o' more' i' bad' k w' ⟨rfl, rfl, rfl, rfl, rfl, rfl, rfl, rfl, rfl, rfl, rfl, rfl, rfl, k0, k1, rfl, rfl⟩
  unfold ipm_IP_Input.L2b ipm_IP_Input.B7
  have ek1 : IntKind.i64.wrap (k + 1) = k + 1 := w64 (by omega) (by omega)
  have ek : (k + 1).toNat = k.toNat + 1 := by omega
  refine Bm.ite (fun hk => ?_) (fun hk => ?_)
  · refine h.ldL (by omega) hi' fun _ _ => (h.get hi).ld (by omega) (by omega) (Bm.ite (fun h0 => ?_) (fun h0 => ?_))
    · rw [ek1]
      refine ⟨(40 - (k + 1)).toNat, by omega, rfl, rfl, rfl, rfl, rfl, rfl, rfl, rfl, rfl, rfl, rfl, rfl, rfl, by omega, by omega, rfl, ?_⟩
      rw [ek, List.range_succ, List.any_append, List.any_cons, List.any_nil, decide_eq_true (show en ≤ k.toNat by omega), decide_eq_true (show 0 ≤ hd e.cell k.toNat from h0)]
      simp
    · rw [ek1]
      refine ⟨(40 - (k + 1)).toNat, by omega, rfl, rfl, rfl, rfl, rfl, rfl, rfl, rfl, rfl, rfl, rfl, rfl, rfl, by omega, by omega, rfl, ?_⟩
      rw [ek, List.range_succ, List.any_append, List.any_cons, List.any_nil, decide_eq_false (show ¬ 0 ≤ hd e.cell k.toNat from h0)]
      simp
  · have : k.toNat = 40 := by omega
    rw [this]
    exact hB
theorem modBad_ok {w : World} {q t4 nn i en : Nat} {M : MS} {e : ME} {b : Option Addr} {l c : Nat} {n p s o : Int} {more : Bool} {R : Int → Int → Int → Option Addr → Nat → Nat → Int → World → Prop}
    (h : ModAt w q M) (hi : M.L[i]? = some e) (hen : IntKind.i64.wrap (o + n) = (en : Int)) (h40 : en ≤ 40)
    (hB : ipm_IP_Input.B3 (some ⟨q, 0, none⟩) b l c t4 nn n p s o more (i : Int) (rowBad e.abs en more) w R) :
    Bm more (Pn (some ⟨q, 0, none⟩) fun a => LdL (a.add 3) w fun xb xl xc => Pn xb fun a1 => (0 ≤ (i : Int) ∧ (i : Int) < ((xl : Nat) : Int)) ∧ LdI .i64 ((Addr.add a1 ((i : Int).toNat * 6)).add 4) w fun x1 =>
        Bm (decide (x1 ≥ (0 : Int))) (Pn (some ⟨q, 0, none⟩) fun a => LdL (a.add 3) w fun xb xl xc => Pn xb fun a1 => (0 ≤ (i : Int) ∧ (i : Int) < ((xl : Nat) : Int)) ∧ LdI .i64 ((Addr.add a1 ((i : Int).toNat * 6)).add 4) w fun x2 =>
          ipm_IP_Input.B3 (some ⟨q, 0, none⟩) b l c t4 nn n p s o more (i : Int) (decide ((IntKind.i64.wrap (o + n)) > x2)) w R) (ipm_IP_Input.B3 (some ⟨q, 0, none⟩) b l c t4 nn n p s o more (i : Int) false w R))
      (Pn (some ⟨q, 0, none⟩) fun a => LdL (a.add 3) w fun xb xl xc => Pn xb fun a1 => (0 ≤ (i : Int) ∧ (i : Int) < ((xl : Nat) : Int)) ∧ LdI .i64 ((Addr.add a1 ((i : Int).toNat * 6)).add 4) w fun x1 =>
        Bm (decide (x1 ≥ (0 : Int))) (Pn (some ⟨q, 0, none⟩) fun a => LdL (a.add 3) w fun xb xl xc => Pn xb fun a1 => (0 ≤ (i : Int) ∧ (i : Int) < ((xl : Nat) : Int)) ∧ LdI .i64 ((Addr.add a1 ((i : Int).toNat * 6)).add 4) w fun x2 =>
          ipm_IP_Input.B4 (some ⟨q, 0, none⟩) b l c t4 nn n p s o more (i : Int) (x2 != (IntKind.i64.wrap (o + n))) w R) (ipm_IP_Input.B4 (some ⟨q, 0, none⟩) b l c t4 nn n p s o more (i : Int) false w R)) := by
  have hi' : M.L[(i : Int).toNat]? = some e := by rw [Int.toNat_natCast]; exact hi
  have et : e.abs.total = e.total := rfl
  have ec : e.abs.cell = e.cell := rfl
  unfold rowBad at hB
  rw [et, ec] at hB
  cases more with
  | true =>
    rw [if_pos rfl] at hB
    refine Bm.pos rfl (h.ldI (by omega) hi' (f := 4) rfl (by omega) fun _ _ => Bm.ite (fun h0 => h.ldI (by omega) hi' (f := 4) rfl (by omega) fun _ _ => ?_) (fun h0 => ?_))
    · rw [decide_eq_true (show 0 ≤ e.total from h0), Bool.true_and] at hB
      rw [hen]
      exact hB
    · rw [decide_eq_false (show ¬ 0 ≤ e.total from h0), Bool.false_and] at hB
      exact hB
  | false =>
    rw [if_neg (by simp)] at hB
    refine Bm.neg rfl (h.ldI (by omega) hi' (f := 4) rfl (by omega) fun _ _ => Bm.ite (fun h0 => h.ldI (by omega) hi' (f := 4) rfl (by omega) fun _ _ => modB4_ok h hi hen h40 ?_) (fun h0 => modB4_ok h hi hen h40 ?_))
    · rw [decide_eq_true (show 0 ≤ e.total from h0), Bool.true_and] at hB
      have : (e.total != IntKind.i64.wrap (o + n)) = decide (e.total ≠ (en : Int)) := by
        rw [hen]
        by_cases hq : e.total = (en : Int)
        · simp [hq]
        · simp [hq]
      rw [this]
      exact hB
    · rw [decide_eq_false (show ¬ 0 ≤ e.total from h0), Bool.false_and] at hB
      exact hB

/-! ### a row put in -/
theorem CellsAt.left {w : World} {b : Option Addr} {x y : List Value} (h : CellsAt w b (x ++ y)) : CellsAt w b x := by
  cases b with
  | none =>
    have : x ++ y = [] := h
    exact (List.append_eq_nil_iff.1 this).1
  | some a =>
    intro j v hj
    refine h j v ?_
    rw [List.getElem?_append_left (List.getElem?_eq_some_iff.1 hj).1]
    exact hj
def zeroV : List Value := [.int .i64 0, .int .i64 0, .int .i64 0, .int .i64 0, .int .i64 0, .slice none 0 0]
theorem tabV_one (L : List ME) : (tabV L).all Value.oneCell' = true := by
  rw [List.all_eq_true]
  intro x hx
  unfold tabV at hx
  obtain ⟨e, _, he⟩ := List.mem_flatMap.1 hx
  simp only [ME.vals, List.mem_cons, List.not_mem_nil, or_false] at he
  rcases he with rfl | rfl | rfl | rfl | rfl | rfl <;> rfl
theorem modInsert_ok {w : World} {q t4 nn i en : Nat} {M : MS} {b : Option Addr} {l c : Nat} {n p s d o : Int} {more : Bool} {N1 : Option Addr → Option Addr → Nat → Nat → Nat → Nat → Int → Int → Int → Int → Int → Bool → Int → World → Prop} {R : Int → Int → Int → Option Addr → Nat → Nat → Int → World → Prop}
    (h : ModAt w q M) (hlen : M.L.length < 3) (hi : i ≤ M.L.length) (hs : 0 ≤ s ∧ s < 256) (hp : 0 ≤ p ∧ p < 256) (hd' : 0 ≤ d ∧ d < 256) (hen : IntKind.i64.wrap (o + n) = (en : Int)) (h40 : en ≤ 40)
    (hB : ∀ tb tc kb w', ModAt w' q { M with tb := tb, tc := tc, L := M.L.take i ++ (⟨s, p, d, 4, -1, kb, List.replicate 40 (-1)⟩ :: M.L.drop i) } → Ext (M.foot q) w w' → FGrew w (M.foot q) (({ M with tb := tb, tc := tc, L := M.L.take i ++ (⟨s, p, d, 4, -1, kb, List.replicate 40 (-1)⟩ :: M.L.drop i) } : MS).foot q) →
      ipm_IP_Input.B3 (some ⟨q, 0, none⟩) b l c t4 nn n p s o more (i : Int) (rowBad (ME.abs ⟨s, p, d, 4, -1, kb, List.replicate 40 (-1)⟩) en more) w' R) :
    ipm_IP_Input.B5 (some ⟨q, 0, none⟩) b l c t4 nn n p s d o more (i : Int) false w N1 R := by
  unfold ipm_IP_Input.B5
  refine Bm.neg rfl (Pn.mk (LdL.cell (by rw [add_mk]; exact h.own.cell rfl) (New.mk fun zb w1 hzb hs1 oz he1 => ?_)))
  have h1 := h.ext0 he1
  have hVl : (tabV M.L).length = M.L.length * 6 := flat_length ME.vals_len _
  refine Vc.Append.mk (news := zeroV) h1.row (CellsAt.own oz (fun j v hj => by simpa [zeroV] using hj)) rfl rfl rfl (by omega) (by omega) fun tb tc w2 hrow2 hE2 hb2 => Pn.mk ?_
  have hqb : ∀ k ∈ rowBlk M.tb, k ≠ q := fun k hk => by
    obtain ⟨cs, ho⟩ := rowTy h1.row hk
    exact Own.ne_type ho h1.own (by decide)
  have hown2 := hE2.own h1.own (fun hk => hqb q hk rfl)
  rw [add_mk, Nat.zero_add]
  refine Sts.mk hown2 (by simp) rfl fun w3 hs3 ho3' he3 => ?_
  have ho3 : Own w3 q #[.int .i64 M.addr, .int .i64 M.next, .int .i64 M.credit, .slice tb (M.L.length + 1) tc] 57 := ho3'
  have hcap := hrow2.2.1
  obtain ⟨k, rfl, cs2, hok2, _⟩ := hrow2.at (i := 0) (by omega) (by omega)
  have hkq : k ≠ q := Own.ne_type hok2 hown2 (by decide)
  have hrow3 : Row w3.drew (some ⟨k, 0, none⟩) (M.L.length + 1) tc 6 85 (tabV M.L ++ zeroV) := hrow2.ext (he3.trans (Ext.drew [q] w3)) (fun k' hk' => by simp [rowBlk] at hk'; simp; omega)
  have ei : IntKind.i64.wrap ((i : Int) + 1) = ((i + 1 : Nat) : Int) := by rw [w64 (by omega) (by omega)]; omega
  have hz1 := he1.size
  have hz2 := hE2.size
  simp only [ei, Int.toNat_natCast]
  refine Pn.mk (LdL.cell (by rw [add_mk]; exact ho3.drew.cell rfl) ⟨⟨by omega, by omega⟩, Pn.mk (LdL.cell (by rw [add_mk]; exact ho3.drew.cell rfl) ⟨⟨by omega, by omega⟩, ?_⟩)⟩)
  -- the copy
  have hnl : ((tabV M.L).drop (i * 6)).length = (M.L.length - i) * 6 := by rw [List.length_drop, hVl]; omega
  have hsrc : CellsAt w3.drew (slBase (some ⟨k, 0, none⟩) (i : Int) (tc : Int) 6) ((tabV M.L).drop (i * 6)) := by
    have := hrow3.tail i (m := (tc : Int)) (by omega)
    rw [List.drop_append_of_le_length (by rw [hVl]; omega)] at this
    exact CellsAt.left this
  obtain ⟨o', hsl, ho'⟩ : ∃ o', slBase (some ⟨k, 0, none⟩) ((i + 1 : Nat) : Int) (tc : Int) 6 = some ⟨k, o', none⟩ ∧ ((tc = i + 1 ∧ o' = 0) ∨ o' = (i + 1) * 6) := by
    unfold slBase
    by_cases e : tc = i + 1
    · refine ⟨0, ?_, .inl ⟨e, rfl⟩⟩
      rw [if_pos (by omega)]
    · refine ⟨(i + 1) * 6, ?_, .inr rfl⟩
      rw [if_neg (by omega)]
      simp only [Option.map_some, Int.toNat_natCast]
      rw [add_mk, Nat.zero_add]
  rw [hsl]
  refine ⟨(tabV M.L).drop (i * 6), ?_, hsrc, ?_⟩
  · rw [hnl]
    congr 1
    show M.L.length - i = min _ _
    omega
  refine hrow3.put (by omega) ?_ fun w4 hs4 hrow4 he4 => ?_
  · rw [List.all_eq_true]
    intro x hx
    exact List.all_eq_true.1 (tabV_one M.L) x (List.mem_of_mem_drop hx)
  generalize hX : (tabV M.L ++ zeroV).take o' ++ ((tabV M.L).drop (i * 6) ++ (tabV M.L ++ zeroV).drop (o' + ((tabV M.L).drop (i * 6)).length)) = X at hrow4
  have hX1 : X.take (i * 6) = (tabV M.L).take (i * 6) ∧ X.drop (i * 6 + 6) = (tabV M.L).drop (i * 6) := by
    have hZ : zeroV.length = 6 := rfl
    rcases ho' with ⟨e, rfl⟩ | rfl
    · have hin : i = M.L.length := by omega
      have hnil : (tabV M.L).drop (i * 6) = [] := List.drop_eq_nil_of_le (by omega)
      rw [hnil] at hX ⊢
      simp only [List.take_zero, List.nil_append, List.length_nil, Nat.add_zero, List.drop_zero] at hX
      subst hX
      exact ⟨List.take_append_of_le_length (by omega), List.drop_eq_nil_of_le (by rw [List.length_append]; omega)⟩
    · have hl1 : ((tabV M.L ++ zeroV).take ((i + 1) * 6)).length = (i + 1) * 6 := by rw [List.length_take, List.length_append]; omega
      have hnil : (tabV M.L ++ zeroV).drop ((i + 1) * 6 + ((tabV M.L).drop (i * 6)).length) = [] := List.drop_eq_nil_of_le (by rw [List.length_append]; omega)
      rw [hnil, List.append_nil] at hX
      subst hX
      refine ⟨?_, ?_⟩
      · rw [List.take_append_of_le_length (by omega), List.take_take, show min (i * 6) ((i + 1) * 6) = i * 6 by omega]
        exact List.take_append_of_le_length (by omega)
      · rw [show i * 6 + 6 = ((tabV M.L ++ zeroV).take ((i + 1) * 6)).length by omega]
        exact List.drop_left
  -- the new cells
  refine Make.mk (by omega) (by omega) (by omega) (by omega) fun kb w5 hkb hs5 ho5 he5 => ?_
  have hkl := hok2.lt
  have hql := hown2.lt
  have hzd : w3.drew.heap.size = w3.heap.size := rfl
  have E4 : Ext (q :: rowBlk M.tb) w w4 := by
    have e1 : Ext (q :: rowBlk M.tb) w w2 := he1.nil.trans (hE2.mono (fun x hx _ => List.mem_cons_of_mem _ hx))
    have e2 : Ext (q :: rowBlk M.tb) w w3.drew := (e1.trans (he3.mono (fun x hx _ => by simp at hx; simp [hx]))).trans (Ext.drew _ w3)
    refine e2.trans' he4 (fun x hx hlt => ?_)
    simp at hx
    subst hx
    rcases hb2 x (by simp [rowBlk]) with q1 | q1
    · exact List.mem_cons_of_mem _ q1
    · omega
  have hown4 : Own w4 q #[.int .i64 M.addr, .int .i64 M.next, .int .i64 M.credit, .slice (some ⟨k, 0, none⟩) (M.L.length + 1) tc] 57 := he4.own ho3.drew (by simp; omega)
  have hentE : ∀ x ∈ M.L, x.blk ∉ q :: rowBlk M.tb := fun x hx hk => by
    rcases List.mem_cons.1 hk with e | hk
    · exact Own.ne_type (h1.ent x hx).own h1.own (by decide) e
    · obtain ⟨cs, ho⟩ := rowTy h1.row hk
      exact Own.ne_type (h1.ent x hx).own ho (by decide) rfl
  have hent4 : ∀ x ∈ M.L, MeWf w4 x := fun x hx => (h.ent x hx).ext E4 (hentE x hx)
  unfold ipm_IP_Input.L3
  refine ⟨fun m q' b' l' c' t' nn' n' p' s' d' o'' more' i' kb' kl' kc' kk w' => some ⟨q, 0, none⟩ = q' ∧ b = b' ∧ l = l' ∧ c = c' ∧ t4 = t' ∧ nn = nn' ∧ n = n' ∧ p = p' ∧ s = s' ∧ d = d' ∧ o = o'' ∧ more = more' ∧ (i : Int) = i' ∧ some ⟨kb, 0, none⟩ = kb' ∧ 40 = kl' ∧ 40 = kc' ∧ 0 ≤ kk ∧ kk ≤ 40 ∧ m = (40 - kk).toNat ∧ Ext [] w4 w' ∧ ∃ cs, Own w' kb cs 3 ∧ cs.size = 40 ∧ cs.toList.take kk.toNat = i64L (List.replicate kk.toNat (-1)), 40,
    ⟨rfl, rfl, rfl, rfl, rfl, rfl, rfl, rfl, rfl, rfl, rfl, rfl, rfl, rfl, rfl, rfl, by omega, by omega, rfl, he5, _, ho5, by simp [madeCells], rfl⟩, ?_⟩
  rintro m q' b' l' c' t' nn' n' p' s' d' o'' more' i' kb' kl' kc' kk w' ⟨rfl, rfl, rfl, rfl, rfl, rfl, rfl, rfl, rfl, rfl, rfl, rfl, rfl, rfl, rfl, rfl, k0, k1, rfl, hE, cs, hoc, hcs, htake⟩
  unfold ipm_IP_Input.L3b
  refine Bm.ite (fun hk => Pn.mk ⟨⟨k0, by omega⟩, ?_⟩) (fun hk => ?_)
  · rw [add_mk, Nat.zero_add, Nat.mul_one]
    refine Sts.mk hoc (by simp; omega) rfl fun w6 hs6 ho6 he6 => ?_
    rw [w64 (by omega) (by omega)]
    obtain ⟨t1, _⟩ := take_put1 (v := .int .i64 (-1)) (by omega : kk.toNat < cs.size) htake
    refine ⟨(40 - (kk + 1)).toNat, by omega, by trivial, by trivial, by trivial, by trivial, by trivial, by trivial, by trivial, by trivial, by trivial, by trivial, by trivial, by trivial, by trivial, by trivial, by trivial, by trivial, by omega, by omega, rfl, hE.trans' he6 (fun x hx hlt => by simp at hx; omega), _, ho6, by rw [size_putArr]; exact hcs, ?_⟩
    rw [show (kk + 1).toNat = kk.toNat + 1 by omega, t1, List.replicate_succ']
    simp [i64L]
  · have e : kk.toNat = 40 := by omega
    rw [e, ← hcs, List.take_of_length_le (by simp), hcs] at htake
    have hcE : cs = (i64L (List.replicate 40 (-1))).toArray := by
      apply Array.ext'
      simpa using htake
    subst hcE
    have hown' := hE.own hown4 (by simp)
    have hrow' := hrow4.ext hE (fun k _ hk => by cases hk)
    refine Pn.mk (LdL.cell (by rw [add_mk]; exact hown'.cell rfl) (Pn.mk ⟨⟨by omega, by omega⟩, ?_⟩))
    rw [add_mk, Nat.zero_add, Int.toNat_natCast]
    generalize he0 : (⟨s, p, d, 4, -1, kb, List.replicate 40 (-1)⟩ : ME) = e0 at hB
    have hev : [Value.int .i64 s, .int .i64 p, .int .i64 d, .int .i64 4, .int .i64 (-1), .slice (some ⟨kb, 0, none⟩) 40 40] = e0.vals := by rw [← he0]; rfl
    rw [hev]
    have hevl : e0.vals.length = 6 := rfl
    refine hrow'.put (by omega) (by rw [← hev]; rfl) fun w7 hs7 hrow7 he7 => ?_
    rw [hevl, hX1.1, hX1.2] at hrow7
    have hft : (tabV M.L).take (i * 6) ++ (e0.vals ++ (tabV M.L).drop (i * 6)) = tabV (M.L.take i ++ (e0 :: M.L.drop i)) := by
      have := flat_mid (n := 6) ME.vals_len M.L i [e0] i
      unfold tabV
      simpa using this
    rw [hft] at hrow7
    have hll : (M.L.take i ++ (e0 :: M.L.drop i)).length = M.L.length + 1 := by rw [List.length_append, List.length_cons, List.length_take, List.length_drop]; omega
    have hz4 : w4.heap.size = w3.heap.size := hs4
    have hzE := hE.size
    have hmem : ∀ x, x ∈ M.L.take i ++ (e0 :: M.L.drop i) → x = e0 ∨ x ∈ M.L := fun x hx => by
      rcases List.mem_append.1 hx with q1 | q1
      · exact .inr (List.mem_of_mem_take q1)
      rcases List.mem_cons.1 q1 with q1 | q1
      · exact .inl q1
      · exact .inr (List.mem_of_mem_drop q1)
    have hne0 : ∀ x ∈ M.L, x.blk ≠ kb := fun x hx => by
      have := (hent4 x hx).own.lt
      omega
    have hkk : ∀ x ∈ M.L, x.blk ≠ k := fun x hx => by
      rcases hrow4.2.2 with ⟨e, _⟩ | ⟨k', cs', e, hoo, _⟩
      · cases e
      · simp only [Option.some.injEq, Addr.mk.injEq, and_true] at e
        subst e
        exact Own.ne_type (hent4 x hx).own hoo (by decide)
    have E7 : Ext (q :: rowBlk M.tb) w w7 := (E4.trans hE.nil).trans' he7 (fun x hx hlt => by
      simp at hx
      subst hx
      rcases hb2 x (by simp [rowBlk]) with q1 | q1
      · exact List.mem_cons_of_mem _ q1
      · omega)
    have hM7 : ModAt w7 q { M with tb := some ⟨k, 0, none⟩, tc := tc, L := M.L.take i ++ (e0 :: M.L.drop i) } := by
      refine ⟨?_, ?_, fun x hx => ?_, ?_⟩
      · show Own w7 q #[_, _, _, .slice (some ⟨k, 0, none⟩) (M.L.take i ++ (e0 :: M.L.drop i)).length tc] 57
        rw [hll]
        exact he7.own hown' (by simp; omega)
      · show Row w7 (some ⟨k, 0, none⟩) (M.L.take i ++ (e0 :: M.L.drop i)).length tc 6 85 _
        rw [hll]
        exact hrow7
      · rcases hmem x hx with rfl | hx
        · rw [← he0]
          exact ⟨he7.own hoc (by simp; omega), by simp, hs, hp, hd'⟩
        · exact ((hent4 x hx).ext hE (by simp)).ext he7 (by have := hkk x hx; simpa using this)
      · show (M.L.take i ++ (e0 :: M.L.drop i)).Pairwise _
        have hb0 : e0.blk = kb := by rw [← he0]
        have hp0 := h.ne
        rw [← List.take_append_drop i M.L, List.pairwise_append] at hp0
        rw [List.pairwise_append]
        refine ⟨hp0.1, List.pairwise_cons.2 ⟨fun x hx => by rw [hb0]; exact fun e => hne0 x (List.mem_of_mem_drop hx) e.symm, hp0.2.1⟩, fun x hx y hy => ?_⟩
        rcases List.mem_cons.1 hy with rfl | hy
        · rw [hb0]; exact hne0 x (List.mem_of_mem_take hx)
        · exact hp0.2.2 x hx y hy
    have hF7 : FGrew w (M.foot q) (({ M with tb := some ⟨k, 0, none⟩, tc := tc, L := M.L.take i ++ (e0 :: M.L.drop i) } : MS).foot q) := fun x hx => by
      simp only [MS.foot, List.mem_cons, List.mem_append] at hx ⊢
      rcases hx with e | e | e
      · exact .inl (.inl e)
      · rcases hb2 x e with q1 | q1
        · exact .inl (.inr (.inl q1))
        · exact .inr (by omega)
      · obtain ⟨y, hy, rfl⟩ := List.mem_map.1 e
        rcases hmem y hy with rfl | hy
        · rw [← he0]
          exact .inr (by show w.heap.size ≤ kb; omega)
        · exact .inl (.inr (.inr (List.mem_map.2 ⟨y, hy, rfl⟩)))
    have hBB := hB (some ⟨k, 0, none⟩) tc kb w7 (by rw [he0]; exact hM7) (E7.mono (fun x hx _ => foot_sub M q x hx)) (by rw [he0]; exact hF7)
    rw [he0] at hBB
    refine modBad_ok hM7 (e := e0) ?_ hen h40 hBB
    show (M.L.take i ++ (e0 :: M.L.drop i))[i]? = some e0
    rw [List.getElem?_append_right (by rw [List.length_take]; omega), List.length_take, show i - min i M.L.length = 0 by omega]
    rfl
end Go.Proofs.Qxb6500425a
