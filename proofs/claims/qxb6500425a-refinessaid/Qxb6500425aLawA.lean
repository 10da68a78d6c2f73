/-
  ip: the law's lists: Own, OwnRows, OwnNums, OwnOut.
-/
import Derived.Test.Qxb6500425aIpY
import Derived.Test.Qxb6500425aVcG
set_option linter.unusedVariables false
set_option linter.unusedSimpArgs false
open Go.Vc
namespace Go.Proofs.Qxb6500425a

theorem lawOwn_zero {w : World} {a l : Nat} {b : Option Addr} {R : World → Prop} (h0 : R w) : iplaw_World_Own.Call (some ⟨a, 0, none⟩) b l 0 w R := by
  apply iplaw_World_Own.sound
  unfold iplaw_World_Own.B0
  refine ⟨⟨by omega, by omega⟩, ?_⟩
  rw [slBase0]
  simp only [Int.toNat_natCast, Nat.sub_zero]
  unfold iplaw_World_Own.L1
  refine ⟨fun m a' b' l' c' i w' => 0 = l' ∧ w = w' ∧ i = 0, 0, ⟨rfl, rfl, rfl⟩, ?_⟩
  rintro m a' b' l' c' i w' ⟨rfl, rfl, rfl⟩
  unfold iplaw_World_Own.L1b
  exact Bm.neg rfl (Bm.neg rfl h0)
theorem lawOwn_ok {w : World} {a k n l ln lc : Nat} {C cs : Array Value} {lb : Option Addr} {vs : List Value} {R : World → Prop}
    (ho : Own w a C 43) (hC : C[5]? = some (.slice lb ln lc)) (hrow : Row w lb ln lc 1 68 vs) (hk : Own w k cs 5) (hcs : cs.size = n * 1) (hn : n ≤ 9223372036854775807) (hka : k ≠ a) (hkl : k ∉ rowBlk lb) (hln : ln ≤ 100000000)
    (h0 : n = 0 → R w)
    (hR : 0 < n → ∀ lb' lc' w', Own w' a (putArr C 5 [.slice lb' (ln + 1) lc']) 43 → Row w' lb' (ln + 1) lc' 1 68 (vs ++ [.slice (some ⟨k, 0, none⟩) n n]) → Own w' k (stampArr n 1 [.int .u8 165]) 5 → Ext (k :: a :: rowBlk lb) w w' → (∀ x ∈ rowBlk lb', x ∈ rowBlk lb ∨ w.heap.size ≤ x) → R w') :
    iplaw_World_Own.Call (some ⟨a, 0, none⟩) (some ⟨k, 0, none⟩) l n w R := by
  apply iplaw_World_Own.sound
  unfold iplaw_World_Own.B0
  refine ⟨⟨by omega, by omega⟩, ?_⟩
  rw [slBase0]
  simp only [Int.toNat_natCast, Nat.sub_zero]
  have hal : a ∉ rowBlk lb := fun hx => by
    obtain ⟨_, ho'⟩ := hrow.ty hx
    exact Own.ne_type ho ho' (by decide) rfl
  have hsC : 5 < C.size := (Array.getElem?_eq_some_iff.1 hC).1
  unfold iplaw_World_Own.L1
  refine ⟨fun m a' b' l' c' i w' => some ⟨a, 0, none⟩ = a' ∧ some ⟨k, 0, none⟩ = b' ∧ n = l' ∧ n = c' ∧ 0 ≤ i ∧ i ≤ n ∧ m = (n - i).toNat ∧ w'.heap.size = w.heap.size ∧ Ext [k] w w' ∧ (n = 0 → w = w') ∧ ∃ cs', Own w' k cs' 5 ∧ cs'.size = n * 1 ∧ Stamped cs' i.toNat 1 [.int .u8 165], n,
    ⟨rfl, rfl, rfl, rfl, by omega, by omega, by omega, rfl, Ext.refl _ _, fun _ => rfl, cs, hk, hcs, fun j hj => by simp at hj⟩, ?_⟩
  rintro m a' b' l' c' i w' ⟨rfl, rfl, rfl, rfl, i0, i1, rfl, hsz, hE, hw0, cs', hk', hcs', hst⟩
  unfold iplaw_World_Own.L1b
  have hfit : i < n → i.toNat * 1 + 1 ≤ cs'.size := fun hi => by
    have : (i.toNat + 1) * 1 ≤ n * 1 := Nat.mul_le_mul_right _ (by omega)
    omega
  refine Bm.ite (fun hi => Pn.mk ⟨⟨i0, hi⟩, ?_⟩) (fun hi => ?_)
  · rw [add_mk, Nat.zero_add]
    refine Sts.mk hk' (by have := hfit hi; simp; omega) rfl fun w2 hs2 hk2 he2 => ?_
    rw [w64 (by omega) (by omega)]
    refine ⟨(n - (i + 1)).toNat, by omega, rfl, rfl, rfl, rfl, by omega, by omega, rfl, by omega, hE.trans he2, fun h => by omega, _, hk2, by rw [size_putArr]; exact hcs', ?_⟩
    rw [show (i + 1).toNat = i.toNat + 1 by omega]
    exact hst.step rfl (hfit hi)
  · have ei : i.toNat = n := by omega
    refine Bm.ite (fun hpos => ?_) (fun hpos => ?_)
    · rw [ei] at hst
      have hce := hst.full hcs'
      subst hce
      have hown' := hE.own ho (by simp; omega)
      refine Pn.mk (LdL.cell (by rw [add_mk, Nat.zero_add]; exact hown'.cell hC) (New.mk fun nb w2 hnb hs2 onb he2 => ?_))
      have hrow2 := (hrow.ext hE (fun x hx hx2 => by simp at hx2; subst hx2; exact hkl hx)).ext he2 (fun _ _ h => by cases h)
      refine Vc.Append.mk (news := [.slice (some ⟨k, 0, none⟩) n n]) hrow2 (CellsAt.own onb (fun j v hj => by simpa using hj)) rfl rfl rfl (by omega) (by omega) fun lb' lc' w3 hrow3 hE3 hb3 => Pn.mk ?_
      have hown3 := hE3.own (he2.own hown' (by simp)) hal
      rw [add_mk, Nat.zero_add]
      have hz2 := he2.size
      have hz3 := hE3.size
      have hkl' := hk.lt
      refine Sts.mk hown3 (by simp; omega) rfl fun w4 hs4 ho4 he4 => hR (by omega) lb' lc' w4 ho4 (hrow3.ext he4 (fun x hx hx2 => ?_)) (he4.own (hE3.own (he2.own hk' (by simp)) hkl) (by simpa using hka)) ?_ (fun x hx => ?_)
      · simp at hx2
        subst hx2
        obtain ⟨_, ho'⟩ := hrow3.ty hx
        exact Own.ne_type hown3 ho' (by decide) rfl
      · have e1 : Ext (k :: a :: rowBlk lb) w w2 := (hE.mono (fun x hx _ => by simp at hx; simp [hx])).trans he2.nil
        exact (e1.trans (hE3.mono (fun x hx _ => by simp [hx]))).trans (he4.mono (fun x hx _ => by simp at hx; simp [hx]))
      · rcases hb3 x hx with q | q
        · exact .inl q
        · exact .inr (by omega)
    · have hn0 : n = 0 := by omega
      rw [← hw0 hn0]
      exact h0 hn0

theorem lawOwnRows_zero {w : World} {a l : Nat} {b : Option Addr} {R : World → Prop} (h0 : R w) : iplaw_World_OwnRows.Call (some ⟨a, 0, none⟩) b l 0 w R := by
  apply iplaw_World_OwnRows.sound
  unfold iplaw_World_OwnRows.B0
  refine ⟨⟨by omega, by omega⟩, ?_⟩
  rw [slBase0]
  simp only [Int.toNat_natCast, Nat.sub_zero]
  unfold iplaw_World_OwnRows.L1
  refine ⟨fun m a' b' l' c' i w' => 0 = l' ∧ w = w' ∧ i = 0, 0, ⟨rfl, rfl, rfl⟩, ?_⟩
  rintro m a' b' l' c' i w' ⟨rfl, rfl, rfl⟩
  unfold iplaw_World_OwnRows.L1b
  exact Bm.neg rfl (Bm.neg rfl h0)
theorem lawOwnRows_ok {w : World} {a k n l ln lc : Nat} {C cs : Array Value} {lb : Option Addr} {vs : List Value} {R : World → Prop}
    (ho : Own w a C 43) (hC : C[6]? = some (.slice lb ln lc)) (hrow : Row w lb ln lc 1 58 vs) (hk : Own w k cs 70) (hcs : cs.size = n * 6) (hn : n ≤ 9223372036854775807) (hka : k ≠ a) (hkl : k ∉ rowBlk lb) (hln : ln ≤ 100000000)
    (h0 : n = 0 → R w)
    (hR : 0 < n → ∀ lb' lc' w', Own w' a (putArr C 6 [.slice lb' (ln + 1) lc']) 43 → Row w' lb' (ln + 1) lc' 1 58 (vs ++ [.slice (some ⟨k, 0, none⟩) n n]) → Own w' k (stampArr n 6 [.int .i64 165, .int .i64 165, .int .i64 165, .int .i64 165, .int .i64 165, .int .i64 165]) 70 → Ext (k :: a :: rowBlk lb) w w' → (∀ x ∈ rowBlk lb', x ∈ rowBlk lb ∨ w.heap.size ≤ x) → R w') :
    iplaw_World_OwnRows.Call (some ⟨a, 0, none⟩) (some ⟨k, 0, none⟩) l n w R := by
  apply iplaw_World_OwnRows.sound
  unfold iplaw_World_OwnRows.B0
  refine ⟨⟨by omega, by omega⟩, ?_⟩
  rw [slBase0]
  simp only [Int.toNat_natCast, Nat.sub_zero]
  have hal : a ∉ rowBlk lb := fun hx => by
    obtain ⟨_, ho'⟩ := hrow.ty hx
    exact Own.ne_type ho ho' (by decide) rfl
  have hsC : 6 < C.size := (Array.getElem?_eq_some_iff.1 hC).1
  unfold iplaw_World_OwnRows.L1
  refine ⟨fun m a' b' l' c' i w' => some ⟨a, 0, none⟩ = a' ∧ some ⟨k, 0, none⟩ = b' ∧ n = l' ∧ n = c' ∧ 0 ≤ i ∧ i ≤ n ∧ m = (n - i).toNat ∧ w'.heap.size = w.heap.size ∧ Ext [k] w w' ∧ (n = 0 → w = w') ∧ ∃ cs', Own w' k cs' 70 ∧ cs'.size = n * 6 ∧ Stamped cs' i.toNat 6 [.int .i64 165, .int .i64 165, .int .i64 165, .int .i64 165, .int .i64 165, .int .i64 165], n,
    ⟨rfl, rfl, rfl, rfl, by omega, by omega, by omega, rfl, Ext.refl _ _, fun _ => rfl, cs, hk, hcs, fun j hj => by simp at hj⟩, ?_⟩
  rintro m a' b' l' c' i w' ⟨rfl, rfl, rfl, rfl, i0, i1, rfl, hsz, hE, hw0, cs', hk', hcs', hst⟩
  unfold iplaw_World_OwnRows.L1b
  have hfit : i < n → i.toNat * 6 + 6 ≤ cs'.size := fun hi => by
    have : (i.toNat + 1) * 6 ≤ n * 6 := Nat.mul_le_mul_right _ (by omega)
    omega
  refine Bm.ite (fun hi => Pn.mk ⟨⟨i0, hi⟩, ?_⟩) (fun hi => ?_)
  · rw [add_mk, Nat.zero_add]
    refine Sts.mk hk' (by have := hfit hi; simp; omega) rfl fun w2 hs2 hk2 he2 => ?_
    rw [w64 (by omega) (by omega)]
    refine ⟨(n - (i + 1)).toNat, by omega, rfl, rfl, rfl, rfl, by omega, by omega, rfl, by omega, hE.trans he2, fun h => by omega, _, hk2, by rw [size_putArr]; exact hcs', ?_⟩
    rw [show (i + 1).toNat = i.toNat + 1 by omega]
    exact hst.step rfl (hfit hi)
  · have ei : i.toNat = n := by omega
    refine Bm.ite (fun hpos => ?_) (fun hpos => ?_)
    · rw [ei] at hst
      have hce := hst.full hcs'
      subst hce
      have hown' := hE.own ho (by simp; omega)
      refine Pn.mk (LdL.cell (by rw [add_mk, Nat.zero_add]; exact hown'.cell hC) (New.mk fun nb w2 hnb hs2 onb he2 => ?_))
      have hrow2 := (hrow.ext hE (fun x hx hx2 => by simp at hx2; subst hx2; exact hkl hx)).ext he2 (fun _ _ h => by cases h)
      refine Vc.Append.mk (news := [.slice (some ⟨k, 0, none⟩) n n]) hrow2 (CellsAt.own onb (fun j v hj => by simpa using hj)) rfl rfl rfl (by omega) (by omega) fun lb' lc' w3 hrow3 hE3 hb3 => Pn.mk ?_
      have hown3 := hE3.own (he2.own hown' (by simp)) hal
      rw [add_mk, Nat.zero_add]
      have hz2 := he2.size
      have hz3 := hE3.size
      have hkl' := hk.lt
      refine Sts.mk hown3 (by simp; omega) rfl fun w4 hs4 ho4 he4 => hR (by omega) lb' lc' w4 ho4 (hrow3.ext he4 (fun x hx hx2 => ?_)) (he4.own (hE3.own (he2.own hk' (by simp)) hkl) (by simpa using hka)) ?_ (fun x hx => ?_)
      · simp at hx2
        subst hx2
        obtain ⟨_, ho'⟩ := hrow3.ty hx
        exact Own.ne_type hown3 ho' (by decide) rfl
      · have e1 : Ext (k :: a :: rowBlk lb) w w2 := (hE.mono (fun x hx _ => by simp at hx; simp [hx])).trans he2.nil
        exact (e1.trans (hE3.mono (fun x hx _ => by simp [hx]))).trans (he4.mono (fun x hx _ => by simp at hx; simp [hx]))
      · rcases hb3 x hx with q | q
        · exact .inl q
        · exact .inr (by omega)
    · have hn0 : n = 0 := by omega
      rw [← hw0 hn0]
      exact h0 hn0

theorem lawOwnNums_zero {w : World} {a l : Nat} {b : Option Addr} {R : World → Prop} (h0 : R w) : iplaw_World_OwnNums.Call (some ⟨a, 0, none⟩) b l 0 w R := by
  apply iplaw_World_OwnNums.sound
  unfold iplaw_World_OwnNums.B0
  refine ⟨⟨by omega, by omega⟩, ?_⟩
  rw [slBase0]
  simp only [Int.toNat_natCast, Nat.sub_zero]
  unfold iplaw_World_OwnNums.L1
  refine ⟨fun m a' b' l' c' i w' => 0 = l' ∧ w = w' ∧ i = 0, 0, ⟨rfl, rfl, rfl⟩, ?_⟩
  rintro m a' b' l' c' i w' ⟨rfl, rfl, rfl⟩
  unfold iplaw_World_OwnNums.L1b
  exact Bm.neg rfl (Bm.neg rfl h0)
theorem lawOwnNums_ok {w : World} {a k n l ln lc : Nat} {C cs : Array Value} {lb : Option Addr} {vs : List Value} {R : World → Prop}
    (ho : Own w a C 43) (hC : C[7]? = some (.slice lb ln lc)) (hrow : Row w lb ln lc 1 61 vs) (hk : Own w k cs 3) (hcs : cs.size = n * 1) (hn : n ≤ 9223372036854775807) (hka : k ≠ a) (hkl : k ∉ rowBlk lb) (hln : ln ≤ 100000000)
    (h0 : n = 0 → R w)
    (hR : 0 < n → ∀ lb' lc' w', Own w' a (putArr C 7 [.slice lb' (ln + 1) lc']) 43 → Row w' lb' (ln + 1) lc' 1 61 (vs ++ [.slice (some ⟨k, 0, none⟩) n n]) → Own w' k (stampArr n 1 [.int .i64 165]) 3 → Ext (k :: a :: rowBlk lb) w w' → (∀ x ∈ rowBlk lb', x ∈ rowBlk lb ∨ w.heap.size ≤ x) → R w') :
    iplaw_World_OwnNums.Call (some ⟨a, 0, none⟩) (some ⟨k, 0, none⟩) l n w R := by
  apply iplaw_World_OwnNums.sound
  unfold iplaw_World_OwnNums.B0
  refine ⟨⟨by omega, by omega⟩, ?_⟩
  rw [slBase0]
  simp only [Int.toNat_natCast, Nat.sub_zero]
  have hal : a ∉ rowBlk lb := fun hx => by
    obtain ⟨_, ho'⟩ := hrow.ty hx
    exact Own.ne_type ho ho' (by decide) rfl
  have hsC : 7 < C.size := (Array.getElem?_eq_some_iff.1 hC).1
  unfold iplaw_World_OwnNums.L1
  refine ⟨fun m a' b' l' c' i w' => some ⟨a, 0, none⟩ = a' ∧ some ⟨k, 0, none⟩ = b' ∧ n = l' ∧ n = c' ∧ 0 ≤ i ∧ i ≤ n ∧ m = (n - i).toNat ∧ w'.heap.size = w.heap.size ∧ Ext [k] w w' ∧ (n = 0 → w = w') ∧ ∃ cs', Own w' k cs' 3 ∧ cs'.size = n * 1 ∧ Stamped cs' i.toNat 1 [.int .i64 165], n,
    ⟨rfl, rfl, rfl, rfl, by omega, by omega, by omega, rfl, Ext.refl _ _, fun _ => rfl, cs, hk, hcs, fun j hj => by simp at hj⟩, ?_⟩
  rintro m a' b' l' c' i w' ⟨rfl, rfl, rfl, rfl, i0, i1, rfl, hsz, hE, hw0, cs', hk', hcs', hst⟩
  unfold iplaw_World_OwnNums.L1b
  have hfit : i < n → i.toNat * 1 + 1 ≤ cs'.size := fun hi => by
    have : (i.toNat + 1) * 1 ≤ n * 1 := Nat.mul_le_mul_right _ (by omega)
    omega
  refine Bm.ite (fun hi => Pn.mk ⟨⟨i0, hi⟩, ?_⟩) (fun hi => ?_)
  · rw [add_mk, Nat.zero_add]
    refine Sts.mk hk' (by have := hfit hi; simp; omega) rfl fun w2 hs2 hk2 he2 => ?_
    rw [w64 (by omega) (by omega)]
    refine ⟨(n - (i + 1)).toNat, by omega, rfl, rfl, rfl, rfl, by omega, by omega, rfl, by omega, hE.trans he2, fun h => by omega, _, hk2, by rw [size_putArr]; exact hcs', ?_⟩
    rw [show (i + 1).toNat = i.toNat + 1 by omega]
    exact hst.step rfl (hfit hi)
  · have ei : i.toNat = n := by omega
    refine Bm.ite (fun hpos => ?_) (fun hpos => ?_)
    · rw [ei] at hst
      have hce := hst.full hcs'
      subst hce
      have hown' := hE.own ho (by simp; omega)
      refine Pn.mk (LdL.cell (by rw [add_mk, Nat.zero_add]; exact hown'.cell hC) (New.mk fun nb w2 hnb hs2 onb he2 => ?_))
      have hrow2 := (hrow.ext hE (fun x hx hx2 => by simp at hx2; subst hx2; exact hkl hx)).ext he2 (fun _ _ h => by cases h)
      refine Vc.Append.mk (news := [.slice (some ⟨k, 0, none⟩) n n]) hrow2 (CellsAt.own onb (fun j v hj => by simpa using hj)) rfl rfl rfl (by omega) (by omega) fun lb' lc' w3 hrow3 hE3 hb3 => Pn.mk ?_
      have hown3 := hE3.own (he2.own hown' (by simp)) hal
      rw [add_mk, Nat.zero_add]
      have hz2 := he2.size
      have hz3 := hE3.size
      have hkl' := hk.lt
      refine Sts.mk hown3 (by simp; omega) rfl fun w4 hs4 ho4 he4 => hR (by omega) lb' lc' w4 ho4 (hrow3.ext he4 (fun x hx hx2 => ?_)) (he4.own (hE3.own (he2.own hk' (by simp)) hkl) (by simpa using hka)) ?_ (fun x hx => ?_)
      · simp at hx2
        subst hx2
        obtain ⟨_, ho'⟩ := hrow3.ty hx
        exact Own.ne_type hown3 ho' (by decide) rfl
      · have e1 : Ext (k :: a :: rowBlk lb) w w2 := (hE.mono (fun x hx _ => by simp at hx; simp [hx])).trans he2.nil
        exact (e1.trans (hE3.mono (fun x hx _ => by simp [hx]))).trans (he4.mono (fun x hx _ => by simp at hx; simp [hx]))
      · rcases hb3 x hx with q | q
        · exact .inl q
        · exact .inr (by omega)
    · have hn0 : n = 0 := by omega
      rw [← hw0 hn0]
      exact h0 hn0

theorem lawOwnOut_zero {w : World} {a l : Nat} {b : Option Addr} {R : World → Prop} (h0 : R w) : iplaw_World_OwnOut.Call (some ⟨a, 0, none⟩) b l 0 w R := by
  apply iplaw_World_OwnOut.sound
  unfold iplaw_World_OwnOut.B0
  refine ⟨⟨by omega, by omega⟩, ?_⟩
  rw [slBase0]
  simp only [Int.toNat_natCast, Nat.sub_zero]
  unfold iplaw_World_OwnOut.L1
  refine ⟨fun m a' b' l' c' i w' => 0 = l' ∧ w = w' ∧ i = 0, 0, ⟨rfl, rfl, rfl⟩, ?_⟩
  rintro m a' b' l' c' i w' ⟨rfl, rfl, rfl⟩
  unfold iplaw_World_OwnOut.L1b
  exact Bm.neg rfl (Bm.neg rfl h0)
theorem lawOwnOut_ok {w : World} {a k n l ln lc : Nat} {C cs : Array Value} {lb : Option Addr} {vs : List Value} {R : World → Prop}
    (ho : Own w a C 43) (hC : C[8]? = some (.slice lb ln lc)) (hrow : Row w lb ln lc 1 38 vs) (hk : Own w k cs 68) (hcs : cs.size = n * 1) (hn : n ≤ 9223372036854775807) (hka : k ≠ a) (hkl : k ∉ rowBlk lb) (hln : ln ≤ 100000000)
    (h0 : n = 0 → R w)
    (hR : 0 < n → ∀ lb' lc' w', Own w' a (putArr C 8 [.slice lb' (ln + 1) lc']) 43 → Row w' lb' (ln + 1) lc' 1 38 (vs ++ [.slice (some ⟨k, 0, none⟩) n n]) → Own w' k (stampArr n 1 [.slice none 0 0]) 68 → Ext (k :: a :: rowBlk lb) w w' → (∀ x ∈ rowBlk lb', x ∈ rowBlk lb ∨ w.heap.size ≤ x) → R w') :
    iplaw_World_OwnOut.Call (some ⟨a, 0, none⟩) (some ⟨k, 0, none⟩) l n w R := by
  apply iplaw_World_OwnOut.sound
  unfold iplaw_World_OwnOut.B0
  refine ⟨⟨by omega, by omega⟩, ?_⟩
  rw [slBase0]
  simp only [Int.toNat_natCast, Nat.sub_zero]
  have hal : a ∉ rowBlk lb := fun hx => by
    obtain ⟨_, ho'⟩ := hrow.ty hx
    exact Own.ne_type ho ho' (by decide) rfl
  have hsC : 8 < C.size := (Array.getElem?_eq_some_iff.1 hC).1
  unfold iplaw_World_OwnOut.L1
  refine ⟨fun m a' b' l' c' i w' => some ⟨a, 0, none⟩ = a' ∧ some ⟨k, 0, none⟩ = b' ∧ n = l' ∧ n = c' ∧ 0 ≤ i ∧ i ≤ n ∧ m = (n - i).toNat ∧ w'.heap.size = w.heap.size ∧ Ext [k] w w' ∧ (n = 0 → w = w') ∧ ∃ cs', Own w' k cs' 68 ∧ cs'.size = n * 1 ∧ Stamped cs' i.toNat 1 [.slice none 0 0], n,
    ⟨rfl, rfl, rfl, rfl, by omega, by omega, by omega, rfl, Ext.refl _ _, fun _ => rfl, cs, hk, hcs, fun j hj => by simp at hj⟩, ?_⟩
  rintro m a' b' l' c' i w' ⟨rfl, rfl, rfl, rfl, i0, i1, rfl, hsz, hE, hw0, cs', hk', hcs', hst⟩
  unfold iplaw_World_OwnOut.L1b
  have hfit : i < n → i.toNat * 1 + 1 ≤ cs'.size := fun hi => by
    have : (i.toNat + 1) * 1 ≤ n * 1 := Nat.mul_le_mul_right _ (by omega)
    omega
  refine Bm.ite (fun hi => Pn.mk ⟨⟨i0, hi⟩, ?_⟩) (fun hi => ?_)
  · rw [add_mk, Nat.zero_add]
    refine Sts.mk hk' (by have := hfit hi; simp; omega) rfl fun w2 hs2 hk2 he2 => ?_
    rw [w64 (by omega) (by omega)]
    refine ⟨(n - (i + 1)).toNat, by omega, rfl, rfl, rfl, rfl, by omega, by omega, rfl, by omega, hE.trans he2, fun h => by omega, _, hk2, by rw [size_putArr]; exact hcs', ?_⟩
    rw [show (i + 1).toNat = i.toNat + 1 by omega]
    exact hst.step rfl (hfit hi)
  · have ei : i.toNat = n := by omega
    refine Bm.ite (fun hpos => ?_) (fun hpos => ?_)
    · rw [ei] at hst
      have hce := hst.full hcs'
      subst hce
      have hown' := hE.own ho (by simp; omega)
      refine Pn.mk (LdL.cell (by rw [add_mk, Nat.zero_add]; exact hown'.cell hC) (New.mk fun nb w2 hnb hs2 onb he2 => ?_))
      have hrow2 := (hrow.ext hE (fun x hx hx2 => by simp at hx2; subst hx2; exact hkl hx)).ext he2 (fun _ _ h => by cases h)
      refine Vc.Append.mk (news := [.slice (some ⟨k, 0, none⟩) n n]) hrow2 (CellsAt.own onb (fun j v hj => by simpa using hj)) rfl rfl rfl (by omega) (by omega) fun lb' lc' w3 hrow3 hE3 hb3 => Pn.mk ?_
      have hown3 := hE3.own (he2.own hown' (by simp)) hal
      rw [add_mk, Nat.zero_add]
      have hz2 := he2.size
      have hz3 := hE3.size
      have hkl' := hk.lt
      refine Sts.mk hown3 (by simp; omega) rfl fun w4 hs4 ho4 he4 => hR (by omega) lb' lc' w4 ho4 (hrow3.ext he4 (fun x hx hx2 => ?_)) (he4.own (hE3.own (he2.own hk' (by simp)) hkl) (by simpa using hka)) ?_ (fun x hx => ?_)
      · simp at hx2
        subst hx2
        obtain ⟨_, ho'⟩ := hrow3.ty hx
        exact Own.ne_type hown3 ho' (by decide) rfl
      · have e1 : Ext (k :: a :: rowBlk lb) w w2 := (hE.mono (fun x hx _ => by simp at hx; simp [hx])).trans he2.nil
        exact (e1.trans (hE3.mono (fun x hx _ => by simp [hx]))).trans (he4.mono (fun x hx _ => by simp at hx; simp [hx]))
      · rcases hb3 x hx with q | q
        · exact .inl q
        · exact .inr (by omega)
    · have hn0 : n = 0 := by omega
      rw [← hw0 hn0]
      exact h0 hn0
end Go.Proofs.Qxb6500425a
