/-
  ip: the real layer's sorted.
-/
import Derived.Test.Qxb6500425aIpO
set_option linter.unusedVariables false
set_option linter.unusedSimpArgs false
open Go.Vc
namespace Go.Proofs.Qxb6500425a

theorem put_at (at_ : Nat → Int) (n : Int) {j : Nat} (hj : j < 3) (v : Int) : ∀ t, t < 4 → fnPut (rowsCell at_ n) j [.int .i64 v] t = rowsCell (updB at_ j v) n t := by
  intro t ht
  unfold fnPut rowsCell updB
  by_cases e : t = j
  · subst e
    simp [hj]
  · rw [if_neg (by simp; omega), if_neg e]
theorem put_n (at_ : Nat → Int) (n : Int) (v : Int) : ∀ t, t < 4 → fnPut (rowsCell at_ n) 3 [.int .i64 v] t = rowsCell at_ v t := by
  intro t ht
  unfold fnPut rowsCell
  by_cases e : t = 3
  · subst e
    simp
  · rw [if_neg (by simp; omega), if_pos (by omega), if_pos (by omega)]
theorem ld_at {w : World} {r j : Nat} {at_ : Nat → Int} {n : Int} (h : Own w r (fnArr 4 (rowsCell at_ n)) 89) (hj : j < 3) : w.cell? ⟨r, j, none⟩ = some (.int .i64 (at_ j)) := by
  refine h.cell ?_
  rw [fnArr_get _ (by omega)]
  unfold rowsCell
  rw [if_pos hj]
theorem ld_n {w : World} {r : Nat} {at_ : Nat → Int} {n : Int} (h : Own w r (fnArr 4 (rowsCell at_ n)) 89) : w.cell? ⟨r, 3, none⟩ = some (.int .i64 n) := by
  refine h.cell ?_
  rw [fnArr_get _ (by omega)]
  rfl
def AtIs (at_ : Nat → Int) (o : List Nat) : Prop := ∀ t, t < o.length → at_ t = ((o.getD t 0 : Nat) : Int)
theorem AtIs.lt {S : IPS} {at_ : Nat → Int} {o : List Nat} {i t : Nat} (h : AtIs at_ o) (hl : Lists S i o) (ht : t < o.length) : 0 ≤ at_ t ∧ at_ t < i ∧ (S.sl (at_ t).toNat).used = true ∧ o[t]? = some (at_ t).toNat := by
  have e := h t ht
  have hg : o[t]? = some o[t] := List.getElem?_eq_getElem ht
  have e2 : o.getD t 0 = o[t] := by simp [List.getD, hg]
  have hm := (hl.mem o[t]).1 (List.getElem_mem ht)
  rw [e2] at e
  rw [e, Int.toNat_natCast]
  exact ⟨by omega, by omega, hm.2, hg⟩

theorem sorted_ok {w : World} {p : Nat} {S : IPS} {R : Int → Int → Int → Int → World → Prop} (h : RealAt w p S) (hk : KeysNe S)
    (hR : ∀ at_ o w', Lists S 3 o → AtIs at_ o → Ext [] w w' → R (at_ 0) (at_ 1) (at_ 2) (o.length : Int) w') : ip_IP_sorted.Call (some ⟨p, 0, none⟩) w R := by
  apply ip_IP_sorted.sound
  unfold ip_IP_sorted.B0
  refine New.mk fun t2 w1 ht2 hs1 ho1 he1 => New.mk fun r w2 hr hs2 ho2 he2 => ?_
  have hplt := Own.lt h
  unfold ip_IP_sorted.L1
  refine ⟨fun m p' t2' r' i w' => some ⟨p, 0, none⟩ = p' ∧ t2 = t2' ∧ r = r' ∧ 0 ≤ i ∧ i ≤ 3 ∧ m = (3 - i).toNat ∧ Ext [] w w' ∧ Own w' t2 #[.int .i64 0, .int .i64 0, .int .i64 0, .int .i64 0] 89 ∧ ∃ (at_ : Nat → Int) (o : List Nat), Own w' r (fnArr 4 (rowsCell at_ (o.length : Nat))) 89 ∧ Lists S i.toNat o ∧ AtIs at_ o, 3,
    ⟨rfl, rfl, rfl, by omega, by omega, rfl, he1.trans he2, he2.own ho1 (by simp), fun _ => 0, [], ho2, ⟨fun x => by simp, List.Pairwise.nil, by simp⟩, fun t ht => by simp at ht⟩, ?_⟩
  rintro m p' t2' r' i w' ⟨rfl, rfl, rfl, i0, i3, rfl, hE, ht, at_, o, ho, hl, ha⟩
  unfold ip_IP_sorted.L1b
  have hp' : RealAt w' p S := hE.own h (by simp)
  have hol := hl.len
  refine Bm.ite (fun hi => ?_) (fun hi => ?_)
  · have hi3 : i.toNat < 3 := by omega
    refine Pn.mk ⟨⟨i0, by omega⟩, LdB.cell (by rw [add_mk, add_mk, Nat.zero_add]; exact hp'.used hi3) (Bm.mk (fun hu => ?_) (fun hu => ?_))⟩
    · refine LdI.cell (ld_n ho) ?_
      unfold ip_IP_sorted.L2
      refine ⟨fun m p' t2' r' i' j w'' => some ⟨p, 0, none⟩ = p' ∧ t2 = t2' ∧ r = r' ∧ i = i' ∧ 0 ≤ j ∧ j ≤ o.length ∧ m = j.toNat ∧ Ext [] w w'' ∧ Own w'' t2 #[.int .i64 0, .int .i64 0, .int .i64 0, .int .i64 0] 89 ∧
        ∃ at', Own w'' r (fnArr 4 (rowsCell at' (o.length : Nat))) 89 ∧ (∀ t : Nat, (t : Int) < j → at' t = ((o.getD t 0 : Nat) : Int)) ∧ (∀ t : Nat, j < t → t ≤ o.length → at' t = ((o.getD (t - 1) 0 : Nat) : Int)) ∧ (∀ t x, j.toNat ≤ t → o[t]? = some x → (S.sl i.toNat).key < (S.sl x).key), o.length,
        ⟨rfl, rfl, rfl, rfl, by omega, by omega, by omega, hE, ht, at_, ho, fun t htl => ha t (by omega), fun t h1 h2 => by omega, fun t x h1 h2 => by
          have := (List.getElem?_eq_some_iff.1 h2).1
          omega⟩, ?_⟩
      rintro m p' t2' r' i' j w'' ⟨rfl, rfl, rfl, rfl, j0, j1, rfl, hE2, ht2', at', ho', hlo, hhi, hkey⟩
      unfold ip_IP_sorted.L2b
      have hp2 : RealAt w''.drew p S := Own.drew (hE2.own h (by simp))
      have E2d : Ext [] w w''.drew := hE2.trans (Ext.drew [] w'')
      -- the end of the inner loop
      have fin : (j = 0 ∨ ∀ x, o[j.toNat - 1]? = some x → (S.sl x).key ≤ (S.sl i.toNat).key) → ∀ N2, ip_IP_sorted.B1 (some ⟨p, 0, none⟩) t2 r i j false w''.drew (fun p' t2' r' i' w' => ∃ m', m' < (3 - i).toNat ∧ some ⟨p, 0, none⟩ = p' ∧ t2 = t2' ∧ r = r' ∧ 0 ≤ i' ∧ i' ≤ 3 ∧ m' = (3 - i').toNat ∧ Ext [] w w' ∧ Own w' t2 #[.int .i64 0, .int .i64 0, .int .i64 0, .int .i64 0] 89 ∧ ∃ (at_ : Nat → Int) (o : List Nat), Own w' r (fnArr 4 (rowsCell at_ (o.length : Nat))) 89 ∧ Lists S i'.toNat o ∧ AtIs at_ o) N2 R := by
        intro hend N2
        unfold ip_IP_sorted.B1
        refine Bm.neg rfl ⟨⟨j0, by omega⟩, ?_⟩
        rw [add_mk, Nat.zero_add, Nat.mul_one]
        refine Sts.fn ho'.drew (by simp; omega) rfl (put_at at' _ (by omega) i) fun w3 hs3 ho3 he3 => LdI.cell (ld_n ho3) (Sts.fn ho3 (by simp) rfl (put_n _ _ _) fun w4 hs4 ho4 he4 => ?_)
        rw [w64 (x := i + 1) (by omega) (by omega)]
        rw [w64 (by omega) (by omega)] at ho4
        have hins := hl.ins (j := j.toNat) hu (by omega) hk hi3 (by
          rcases hend with q | q
          · exact .inl (by omega)
          · exact .inr q) hkey
        have hlen : (o.take j.toNat ++ i.toNat :: o.drop j.toNat).length = o.length + 1 := by
          rw [List.length_append, List.length_cons, List.length_take, List.length_drop]
          omega
        refine ⟨(3 - (i + 1)).toNat, by omega, rfl, rfl, rfl, by omega, by omega, rfl, E2d.trans' (he3.trans he4) (fun x hx hlt => by simp at hx; omega), he4.own (he3.own ht2'.drew (by simp; omega)) (by simp; omega), updB at' j.toNat i, o.take j.toNat ++ i.toNat :: o.drop j.toNat, ?_, ?_, ?_⟩
        · rw [hlen]
          exact ho4
        · rw [show (i + 1).toNat = i.toNat + 1 by omega]
          exact hins
        · intro t htl
          rw [hlen] at htl
          have hjl : (o.take j.toNat).length = j.toNat := by rw [List.length_take]; omega
          unfold updB
          by_cases e : t = j.toNat
          · subst e
            rw [if_pos rfl]
            simp only [List.getD]
            rw [List.getElem?_append_right (by omega), hjl]
            simp
            omega
          · rw [if_neg e]
            by_cases e2 : t < j.toNat
            · rw [hlo t (by omega)]
              simp only [List.getD]
              rw [List.getElem?_append_left (by omega), List.getElem?_take, if_pos e2]
            · rw [hhi t (by omega) (by omega)]
              simp only [List.getD]
              rw [List.getElem?_append_right (by omega), hjl]
              obtain ⟨q, hq⟩ : ∃ q, t - j.toNat = q + 1 := ⟨t - j.toNat - 1, by omega⟩
              rw [hq, List.getElem?_cons_succ, List.getElem?_drop]
              rw [show j.toNat + q = t - 1 by omega]
      refine Bm.ite (fun hj => ?_) (fun hj => fin (.inl (by omega)) _)
      rw [w64 (x := j - 1) (by omega) (by omega)]
      have hat : at' (j - 1).toNat = ((o.getD (j - 1).toNat 0 : Nat) : Int) := hlo _ (by omega)
      have hx : o[(j - 1).toNat]? = some (o.getD (j - 1).toNat 0) := by
        simp only [List.getD]
        rw [List.getElem?_eq_getElem (by omega)]
        rfl
      generalize hxx : o.getD (j - 1).toNat 0 = x at hat hx
      have hxm := (hl.mem x).1 (List.mem_of_getElem? hx)
      refine ⟨⟨by omega, by omega⟩, LdI.cell (by rw [add_mk, Nat.zero_add, Nat.mul_one]; exact ld_at ho'.drew (by omega)) ?_⟩
      rw [hat]
      refine Pn.mk ⟨⟨by omega, by omega⟩, LdI.cell (by rw [add_mk, add_mk, add_mk, Nat.zero_add, Int.toNat_natCast]; exact hp2.key (by omega)) (Pn.mk ⟨⟨i0, by omega⟩, LdI.cell (by rw [add_mk, add_mk, add_mk, Nat.zero_add]; exact hp2.key hi3) ?_⟩)⟩
      by_cases hgt : (S.sl x).key > (S.sl i.toNat).key
      · rw [decide_eq_true hgt]
        unfold ip_IP_sorted.B1
        rw [w64 (x := j - 1) (by omega) (by omega)]
        refine Bm.pos rfl ⟨⟨by omega, by omega⟩, LdI.cell (by rw [add_mk, Nat.zero_add, Nat.mul_one]; exact ld_at ho'.drew (by omega)) ⟨⟨j0, by omega⟩, ?_⟩⟩
        rw [add_mk, Nat.zero_add, Nat.mul_one]
        refine Sts.fn ho'.drew (by simp; omega) rfl (put_at at' _ (by omega) _) fun w3 hs3 ho3 he3 => ?_
        refine ⟨(j - 1).toNat, by omega, rfl, rfl, rfl, rfl, by omega, by omega, rfl, E2d.trans' he3 (fun x hx hlt => by simp at hx; omega), he3.own ht2'.drew (by simp; omega), _, ho3, fun t htl => ?_, fun t h1 h2 => ?_, fun t y h1 h2 => ?_⟩
        · unfold updB
          rw [if_neg (by omega)]
          exact hlo t (by omega)
        · unfold updB
          by_cases e : t = j.toNat
          · subst e
            rw [if_pos rfl, hat, ← hxx]
            rw [show j.toNat - 1 = (j - 1).toNat by omega]
          · rw [if_neg e]
            exact hhi t (by omega) h2
        · by_cases e : t = (j - 1).toNat
          · subst e
            rw [hx] at h2
            simp at h2
            subst h2
            exact hgt
          · exact hkey t y (by omega) h2
      · rw [decide_eq_false hgt]
        refine fin (.inr fun y hy => ?_) _
        rw [show j.toNat - 1 = (j - 1).toNat by omega, hx] at hy
        simp at hy
        subst hy
        omega
    · rw [w64 (x := i + 1) (by omega) (by omega)]
      refine ⟨(3 - (i + 1)).toNat, by omega, rfl, rfl, rfl, by omega, by omega, rfl, hE, ht, at_, o, ho, ⟨fun x => ?_, hl.sorted, by omega⟩, ha⟩
      rw [hl.mem x, show (i + 1).toNat = i.toNat + 1 by omega]
      constructor
      · rintro ⟨q1, q2⟩
        exact ⟨by omega, q2⟩
      · rintro ⟨q1, q2⟩
        refine ⟨?_, q2⟩
        by_cases e : x = i.toNat
        · subst e
          rw [hu] at q2
          cases q2
        · omega
  · have e3 : i.toNat = 3 := by omega
    rw [e3] at hl
    refine LdI.cell (ld_at ho (by omega)) (LdI.cell (ld_at ho (by omega)) (LdI.cell (ld_at ho (by omega)) (LdI.cell (ld_n ho) (Sts.full ht rfl rfl fun w3 hs3 ho3 he3 => LdI.mk ho3 rfl (LdI.mk ho3 rfl (LdI.mk ho3 rfl (LdI.mk ho3 rfl (hR at_ o w3 hl ha ?_))))))))
    exact hE.trans' he3 (fun x hx hlt => by simp at hx; omega)
end Go.Proofs.Qxb6500425a
