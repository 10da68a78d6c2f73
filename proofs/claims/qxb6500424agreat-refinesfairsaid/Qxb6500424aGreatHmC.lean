/-
  hostlaw: the helpers.
-/
import Derived.Test.Qxb6500424aGreatHmB
set_option linter.unusedVariables false
set_option linter.unusedSimpArgs false
open Go.Vc
namespace Go.Proofs.Qxb6500424aGreat
theorem st8_isB (J : Int) : 0 ≤ st8 J ∧ st8 J < 256 := wrap8_isB _
theorem scribble_ok {w : World} {k l c : Nat} {v : List Int} {R : World → Prop} (h : Bf w k v) (hl : l ≤ v.length) (hb : l ≤ 281474976710656)
    (hR : ∀ w', w'.heap.size = w.heap.size → (∃ v', Bf w' k v') → Ext [k] w w' → R w') : hostlaw_Scribble.Call (some ⟨k, 0, none⟩) l c w R := by
  apply hostlaw_Scribble.sound
  unfold hostlaw_Scribble.B0 hostlaw_Scribble.L1
  refine ⟨fun m b' l' c' i w' => ∃ (n : Nat) (v' : List Int), n ≤ l ∧ m = l - n ∧ some ⟨k, 0, none⟩ = b' ∧ l = l' ∧ i = (n : Int) ∧ Bf w' k v' ∧ v'.length = v.length ∧ w'.heap.size = w.heap.size ∧ Ext [k] w w', _, ⟨0, v, by omega, rfl, rfl, rfl, rfl, h, rfl, rfl, Ext.refl _ _⟩, ?_⟩
  rintro m b' l' c' i w' ⟨n, v', hn, rfl, rfl, rfl, rfl, h', hl', hs', he'⟩
  unfold hostlaw_Scribble.L1b
  refine Bm.ite (fun hlt => ?_) fun hge => hR w' hs' ⟨v', h'⟩ he'
  obtain ⟨x, hx⟩ := get_lt (L := v') (n := n) (by omega)
  obtain ⟨kk, o, e, hc⟩ := (h'.rd0).at hx
  simp only [Option.some.injEq, Addr.mk.injEq, and_true] at e
  obtain ⟨rfl, rfl⟩ := e
  refine Pn.mk ⟨⟨by omega, by omega⟩, LdI.cell (n := x) (by rw [addr_k]; exact hc) (Pn.mk ⟨⟨by omega, by omega⟩, ?_⟩)⟩
  rw [addr_i]
  refine h'.set (by omega) (wrap8_isB _) fun w2 hs2 h2 he2 => ⟨l - (n + 1), by omega, n + 1, _, by omega, rfl, rfl, rfl, by rw [w64 (by omega) (by omega)]; omega, h2, by simpa using hl', by omega, he'.trans he2⟩
theorem tdiv_nat (j k : Nat) : ((j : Nat) : Int).tdiv ((k : Nat) : Int) = ((j / k : Nat) : Int) := by
  rw [Int.tdiv_eq_ediv_of_nonneg (by omega)]
  simp
theorem stamp_ok {w : World} {j i : Nat} {R : Int → World → Prop} (hj : j ≤ 1152921504606846976) (hR : R (stampV j i) w) : hostlaw_Stamp.Call (j : Int) (i : Int) w R := by
  apply hostlaw_Stamp.sound
  unfold hostlaw_Stamp.B0
  refine ⟨by decide, ?_⟩
  rw [tmod_pos _ (by omega)]
  unfold stampV at hR
  have d1 := tdiv_nat j 256
  have d2 := tdiv_nat j 65536
  have d3 := tdiv_nat j 16777216
  refine Bm.mk (fun e => ⟨by decide, ?_⟩) fun e => Bm.mk (fun e2 => ⟨by decide, ?_⟩) fun e2 => Bm.mk (fun e3 => ⟨by decide, ?_⟩) fun e3 => ?_
  · have e' : (i : Int) % 4 = 1 := by simpa using e
    rw [if_pos (by omega)] at hR
    show hostlaw_Stamp.B1 (IntKind.i64.wrap (((j : Nat) : Int).tdiv ((256 : Nat) : Int))) w R
    rw [d1, w64 (by omega) (by omega)]
    exact ⟨by decide, hR⟩
  · have e' : ¬ (i : Int) % 4 = 1 := by simpa using e
    have e2' : (i : Int) % 4 = 2 := by simpa using e2
    rw [if_neg (by omega), if_pos (by omega)] at hR
    show hostlaw_Stamp.B1 (IntKind.i64.wrap (((j : Nat) : Int).tdiv ((65536 : Nat) : Int))) w R
    rw [d2, w64 (by omega) (by omega)]
    exact ⟨by decide, hR⟩
  · have e' : ¬ (i : Int) % 4 = 1 := by simpa using e
    have e2' : ¬ (i : Int) % 4 = 2 := by simpa using e2
    have e3' : (i : Int) % 4 = 3 := by simpa using e3
    rw [if_neg (by omega), if_neg (by omega), if_pos (by omega)] at hR
    show hostlaw_Stamp.B1 (IntKind.i64.wrap (((j : Nat) : Int).tdiv ((16777216 : Nat) : Int))) w R
    rw [d3, w64 (by omega) (by omega)]
    exact ⟨by decide, hR⟩
  · have e' : ¬ (i : Int) % 4 = 1 := by simpa using e
    have e2' : ¬ (i : Int) % 4 = 2 := by simpa using e2
    have e3' : ¬ (i : Int) % 4 = 3 := by simpa using e3
    rw [if_neg (by omega), if_neg (by omega), if_neg (by omega)] at hR
    exact ⟨by decide, hR⟩

theorem token_ok {w : World} {j : Nat} {R : Option Addr → Nat → Nat → World → Prop} (hj : j ≤ 1152921504606846976) (hR : ∀ k w', w.heap.size ≤ k → Bf w' k (tokV j) → Ext [] w w' → R (some ⟨k, 0, none⟩) 4 4 w') : hostlaw_Token.Call (j : Int) w R := by
  apply hostlaw_Token.sound
  unfold hostlaw_Token.B0
  refine make8_ok rfl (by omega) (by omega) fun k w1 hk hs1 hf1 he1 => ?_
  unfold hostlaw_Token.L1
  refine ⟨fun m j' b' l' c' i w' => ∃ (n : Nat) (v : List Int), n ≤ 4 ∧ m = 4 - n ∧ (j : Int) = j' ∧ some ⟨k, 0, none⟩ = b' ∧ 4 = l' ∧ 4 = c' ∧ i = (n : Int) ∧ Bf w' k v ∧ v.length = 4 ∧ (∀ p, p < n → v[p]? = some (stampV j p)) ∧ Ext [] w w', 4, ⟨0, _, by omega, rfl, rfl, rfl, rfl, rfl, rfl, hf1, rfl, fun p hp => by omega, he1⟩, ?_⟩
  rintro m j' b' l' c' i w' ⟨n, v, hn, rfl, rfl, rfl, rfl, rfl, rfl, hf, hv, hst, he⟩
  unfold hostlaw_Token.L1b
  refine Bm.ite (fun hlt => stamp_ok hj (Pn.mk ⟨⟨by omega, by omega⟩, ?_⟩)) fun hge => ?_
  · rw [addr_i]
    refine hf.set (by omega) (st8_isB _) fun w2 hs2 hf2 he2 => ⟨4 - (n + 1), by omega, n + 1, _, by omega, rfl, rfl, rfl, rfl, rfl, by rw [w64 (by omega) (by omega)]; omega, hf2, by simpa using hv, fun p hp => ?_, he.trans' he2 (fun y hy hl => by simp at hy; omega)⟩
    by_cases e : p = n
    · subst e
      rw [List.getElem?_set, if_pos rfl, if_pos (by omega)]
    · rw [List.getElem?_set, if_neg (by omega)]
      exact hst p (by omega)
  · have hn4 : n = 4 := by omega
    subst hn4
    have ev : v = tokV j := by
      apply List.ext_getElem?
      intro p
      by_cases hp : p < 4
      · rw [hst p hp]
        rcases (show p = 0 ∨ p = 1 ∨ p = 2 ∨ p = 3 by omega) with rfl | rfl | rfl | rfl <;> rfl
      · rw [List.getElem?_eq_none (by omega), List.getElem?_eq_none (by simp [tokV]; omega)]
    rw [ev] at hf
    exact hR k w' (by omega) hf he
theorem iat_row {w : World} {k : Nat} {L : List Int} (h : Sk.IAt w k L) : Row w (some ⟨k, 0, none⟩) L.length L.length 1 T_int (L.map Sk.iv) :=
  ⟨by simp, Nat.le_refl _, .inr ⟨k, _, rfl, h, by simp, by rw [Nat.mul_one, List.take_of_length_le (by simp)]⟩⟩
/-- A number of a list. -/
theorem irow_ld {w : World} {b : Option Addr} {l c i : Nat} {L : List Int} {x : Int} {K : Int → Prop} (h : Row w b l c 1 T_int (L.map Sk.iv)) (hx : L[i]? = some x) (hk : K x) : Pn b fun a => (0 ≤ (i : Int) ∧ (i : Int) < (l : Int)) ∧ LdI .i64 (Addr.add a ((i : Int).toNat * 1)) w K := by
  have hl : L.length = l := by have := h.1; simp at this; omega
  have hi := (List.getElem?_eq_some_iff.1 hx).1
  obtain ⟨k, rfl, cs, ho, hc⟩ := h.at (i := i) (by omega) (by omega)
  refine Pn.mk ⟨⟨by omega, by omega⟩, ?_⟩
  rw [addr_i]
  refine LdI.mk ho ?_ hk
  have := hc 0 (by omega)
  simp only [Nat.mul_one, Nat.add_zero] at this
  rw [this, List.getElem?_map, hx]
  rfl
theorem copyInts_ok {w : World} {b : Option Addr} {l c : Nat} {L : List Int} {R : Option Addr → Nat → Nat → World → Prop} (h : Row w b l c 1 T_int (L.map Sk.iv)) (hl : l ≤ 1000) (hR : ∀ k w', w.heap.size ≤ k → Sk.IAt w' k L → Ext [] w w' → R (some ⟨k, 0, none⟩) L.length L.length w') : hostlaw_CopyInts.Call b l c w R := by
  apply hostlaw_CopyInts.sound
  unfold hostlaw_CopyInts.B0
  have hL : L.length = l := by have := h.1; simp at this; omega
  refine Make.mk (by omega) (by omega) (by omega) (by omega) fun k w1 hk hs1 ho1 he1 => ?_
  have h1 := h.ext he1 (fun _ _ q => by cases q)
  have hsz : (madeCells (Value.int .i64 0).cells (((l : Nat) : Int).toNat * 1)).size = l := by
    rw [Int.toNat_natCast]
    simp [madeCells]
  refine Copy.mk (news := L.map Sk.iv) ho1 h1.cells (by simp; omega) (by rw [hsz]; simp; omega) (by simp [Sk.iv]; intro x _; rfl) fun w2 hs2 ho2 he2 => ?_
  have e : putArr (madeCells (Value.int .i64 0).cells (((l : Nat) : Int).toNat * 1)) 0 (L.map Sk.iv) = (L.map Sk.iv).toArray := by
    apply putArr_full
    rw [hsz]; simp; omega
  rw [e] at ho2
  rw [Int.toNat_natCast, ← hL]
  exact hR k w2 (by omega) ho2 (he1.trans' he2 (fun y hy hl => by simp at hy; omega))
theorem sameInts_ok {w : World} {ba bb : Option Addr} {la ca lb cb : Nat} {L : List Int} {R : Bool → World → Prop} (ha : Row w ba la ca 1 T_int (L.map Sk.iv)) (hb : Row w bb lb cb 1 T_int (L.map Sk.iv)) (hl : la ≤ 1000)
    (hR : ∀ w', Ext [] w w' → R true w') : hostlaw_SameInts.Call ba la ca bb lb cb w R := by
  have e1 : L.length = la := by have := ha.1; simp at this; omega
  have e2 : L.length = lb := by have := hb.1; simp at this; omega
  apply hostlaw_SameInts.sound
  unfold hostlaw_SameInts.B0
  refine Bm.neg (by simp; omega) ?_
  unfold hostlaw_SameInts.L1
  refine ⟨fun m a' l' c' b' l2' c2' i w' => ∃ k : Nat, k ≤ la ∧ m = la - k ∧ ba = a' ∧ la = l' ∧ bb = b' ∧ lb = l2' ∧ i = (k : Int) ∧ Ext [] w w', _, ⟨0, by omega, rfl, rfl, rfl, rfl, rfl, rfl, Ext.refl _ _⟩, ?_⟩
  rintro m a' l' c' b' l2' c2' i w' ⟨k, hk, rfl, rfl, rfl, rfl, rfl, rfl, he'⟩
  unfold hostlaw_SameInts.L1b
  refine Bm.ite (fun hlt => ?_) fun hge => hR w' he'
  obtain ⟨x, hx⟩ : ∃ x, L[k]? = some x := ⟨_, List.getElem?_eq_getElem (by omega)⟩
  have hed : Ext [] w w'.drew := he'.trans (Ext.drew _ _)
  refine irow_ld (ha.ext hed (fun _ _ q => by cases q)) hx (irow_ld (hb.ext hed (fun _ _ q => by cases q)) hx (Bm.neg (by simp) ⟨la - (k + 1), by omega, k + 1, by omega, rfl, rfl, rfl, rfl, rfl, by rw [w64 (by omega) (by omega)]; omega, hed⟩))
theorem has_ok {w : World} {b : Option Addr} {l c : Nat} {L : List Int} {x : Int} {R : Bool → World → Prop} (h : Row w b l c 1 T_int (L.map Sk.iv)) (hl : l ≤ 1000) (hR : R (decide (x ∈ L)) w) : hostlaw_has.Call b l c x w R := by
  have hL : L.length = l := by have := h.1; simp at this; omega
  apply hostlaw_has.sound
  unfold hostlaw_has.B0 hostlaw_has.L1
  refine ⟨fun m b' l' c' x' i w' => ∃ k : Nat, k ≤ l ∧ m = l - k ∧ b = b' ∧ l = l' ∧ x = x' ∧ i = (k : Int) ∧ w = w' ∧ x ∉ L.take k, _, ⟨0, by omega, rfl, rfl, rfl, rfl, rfl, rfl, by simp⟩, ?_⟩
  rintro m b' l' c' x' i w' ⟨k, hk, rfl, rfl, rfl, rfl, rfl, rfl, hn⟩
  unfold hostlaw_has.L1b
  refine Bm.ite (fun hlt => ?_) fun hge => ?_
  · obtain ⟨y, hy⟩ : ∃ y, L[k]? = some y := ⟨_, List.getElem?_eq_getElem (by omega)⟩
    refine irow_ld h hy (Bm.mk (fun q => ?_) fun q => ?_)
    · have : y = x := beqT q
      subst this
      rw [decide_eq_true (List.mem_of_getElem? hy)] at hR
      exact hR
    · refine ⟨l - (k + 1), by omega, k + 1, by omega, rfl, rfl, rfl, rfl, by rw [w64 (by omega) (by omega)]; omega, rfl, ?_⟩
      rw [List.take_add_one, hy]
      intro z
      rcases List.mem_append.1 z with z | z
      · exact hn z
      · simp at z
        exact beqF q z.symm
  · rw [List.take_of_length_le (by omega)] at hn
    rw [decide_eq_false hn] at hR
    exact hR
/-- The i-th frame of a list. -/
theorem frL_ld {w : World} {b : Option Addr} {l c lo i : Nat} {F : List (List Int × Nat)} {e : List Int × Nat} {K : Option Addr → Nat → Nat → Prop} (h : FrL w b l c lo F) (he : F[i]? = some e) (hk : K (some ⟨e.2, 0, none⟩) e.1.length e.1.length) : Pn b fun a => (0 ≤ (i : Int) ∧ (i : Int) < (l : Int)) ∧ LdL (Addr.add a ((i : Int).toNat * 1)) w K := by
  have hl := h.len
  have hi := (List.getElem?_eq_some_iff.1 he).1
  obtain ⟨k, rfl, cs, ho, hc⟩ := h.row.at (i := i) (by omega) (by omega)
  refine Pn.mk ⟨⟨by omega, by omega⟩, ?_⟩
  rw [addr_i]
  refine LdL.mk ho ?_ hk
  have := hc 0 (by omega)
  simp only [Nat.mul_one, Nat.add_zero] at this
  rw [this, List.getElem?_map, he]
  rfl
theorem sameFrames_ok {w : World} {ba bb : Option Addr} {la ca lb cb lo lo2 : Nat} {F G : List (List Int × Nat)} {R : Bool → World → Prop} (ha : FrL w ba la ca lo F) (hb : FrL w bb lb cb lo2 G) (he : F.map (·.1) = G.map (·.1)) (hla : la ≤ 100000) (hs : ∀ e ∈ F, e.1.length ≤ 1000000) (hR : ∀ w', Ext [] w w' → R true w') : hostlaw_SameFrames.Call ba la ca bb lb cb w R := by
  have e1 := ha.len
  have e2 := hb.len
  have e3 : F.length = G.length := by have := congrArg List.length he; simpa using this
  apply hostlaw_SameFrames.sound
  unfold hostlaw_SameFrames.B0
  refine Bm.neg (by simp; omega) ?_
  unfold hostlaw_SameFrames.L1
  refine ⟨fun m a' l' c' b' l2' c2' i w' => ∃ k : Nat, k ≤ la ∧ m = la - k ∧ ba = a' ∧ la = l' ∧ bb = b' ∧ lb = l2' ∧ i = (k : Int) ∧ Ext [] w w', _, ⟨0, by omega, rfl, rfl, rfl, rfl, rfl, rfl, Ext.refl _ _⟩, ?_⟩
  rintro m a' l' c' b' l2' c2' i w' ⟨k, hk, rfl, rfl, rfl, rfl, rfl, rfl, he'⟩
  unfold hostlaw_SameFrames.L1b
  refine Bm.ite (fun hlt => ?_) fun hge => hR w' he'
  obtain ⟨x, hx⟩ : ∃ x, F[k]? = some x := ⟨_, List.getElem?_eq_getElem (by omega)⟩
  obtain ⟨y, hy⟩ : ∃ y, G[k]? = some y := ⟨_, List.getElem?_eq_getElem (by omega)⟩
  have exy : x.1 = y.1 := by
    have := congrArg (fun L : List (List Int) => L[k]?) he
    simp only [List.getElem?_map, hx, hy, Option.map_some, Option.some.injEq] at this
    exact this
  have hed : Ext [] w w'.drew := he'.trans (Ext.drew _ _)
  have fa := ha.ext0 hed
  have fb := hb.ext0 hed
  refine frL_ld fa hx (frL_ld fb hy (sameBytes_ok (u := x.1) (v := y.1) (fa.dat x (List.mem_of_getElem? hx)).rd0 (fb.dat y (List.mem_of_getElem? hy)).rd0 rfl rfl (by have := hs x (List.mem_of_getElem? hx); omega) fun w2 he2 _ => ?_))
  rw [decide_eq_true exy]
  exact Bm.neg rfl ⟨la - (k + 1), by omega, k + 1, by omega, rfl, rfl, rfl, rfl, rfl, by rw [w64 (by omega) (by omega)]; omega, hed.trans he2⟩
end Go.Proofs.Qxb6500424aGreat
