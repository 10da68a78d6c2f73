/-
  kv: cells on the heap; hash, next, mkCell, keyOf, valOf, keyIs.
-/
import Derived.Test.Qxb6500430aGreatKvA
set_option linter.unusedVariables false
open Go.Vc
namespace Go.Proofs.Qxb6500430aGreat.Kv

/-- A cell's numbers. -/
def ci : Cel → Nat → Int
  | none, _ => 0
  | some none, j => if j = 0 then 2 else 0
  | some (some p), 0 => 1
  | some (some p), 1 => (p.1.size : Int)
  | some (some p), 2 => byteAt p.1 0
  | some (some p), 3 => byteAt p.1 1
  | some (some p), 4 => (p.2.size : Int)
  | some (some p), 5 => byteAt p.2 0
  | some (some p), 6 => byteAt p.2 1
  | some (some p), 7 => byteAt p.2 2
  | some (some p), _ => 0
def cv (c : Cel) : Nat → Value
  | 2 => .int .u8 (ci c 2)
  | 3 => .int .u8 (ci c 3)
  | 5 => .int .u8 (ci c 5)
  | 6 => .int .u8 (ci c 6)
  | 7 => .int .u8 (ci c 7)
  | j => .int .i64 (ci c j)
def cellVs (c : Cel) : List Value := [.int .i64 (ci c 0), .int .i64 (ci c 1), .int .u8 (ci c 2), .int .u8 (ci c 3), .int .i64 (ci c 4), .int .u8 (ci c 5), .int .u8 (ci c 6), .int .u8 (ci c 7)]
theorem cellVs_one (c : Cel) : (cellVs c).all Value.oneCell' = true := rfl
theorem cellVs_getD (c : Cel) {j : Nat} (h : j < 8) : (cellVs c).getD j undef = cv c j := by
  match j, h with
  | 0, _ | 1, _ | 2, _ | 3, _ | 4, _ | 5, _ | 6, _ | 7, _ => rfl
theorem cellVs_fn (c : Cel) : (cellVs c).toArray = fnArr 8 (cv c) := rfl
section
variable {w : World} {b o n m : Nat} {f : Nat → Value} {t : TypeId} {A : Addr}
/-- Eight loads of a cell. -/
theorem ld8 {c : Cel} {K : Int → Int → Int → Int → Int → Int → Int → Int → Prop} (h : Own w b (fnArr n f) t) (hA : A.add m = ⟨b, o, none⟩) (ho : o + 8 ≤ n) (hf : ∀ j, j < 8 → f (o + j) = cv c j)
    (hk : K (ci c 0) (ci c 1) (ci c 2) (ci c 3) (ci c 4) (ci c 5) (ci c 6) (ci c 7)) :
    LdI .i64 (A.add m) w fun x0 => LdI .i64 ((A.add m).add 1) w fun x1 => LdI .u8 ((A.add m).add 2) w fun x2 => LdI .u8 ((A.add m).add 3) w fun x3 => LdI .i64 ((A.add m).add 4) w fun x4 => LdI .u8 ((A.add m).add 5) w fun x5 => LdI .u8 ((A.add m).add 6) w fun x6 => LdI .u8 ((A.add m).add 7) w fun x7 => K x0 x1 x2 x3 x4 x5 x6 x7 := by
  rw [hA]
  simp only [add_mk]
  exact LdI.fn h (by omega) (hf 0 (by omega)) (LdI.fn h (by omega) (hf 1 (by omega)) (LdI.fn h (by omega) (hf 2 (by omega)) (LdI.fn h (by omega) (hf 3 (by omega)) (LdI.fn h (by omega) (hf 4 (by omega)) (LdI.fn h (by omega) (hf 5 (by omega)) (LdI.fn h (by omega) (hf 6 (by omega)) (LdI.fn h (by omega) (hf 7 (by omega)) hk)))))))
/-- Eight loads off a block of a cell. -/
theorem ld8b {c : Cel} {K : Int → Int → Int → Int → Int → Int → Int → Int → Prop} (h : Own w b (cellVs c).toArray t) 
    (hk : K (ci c 0) (ci c 1) (ci c 2) (ci c 3) (ci c 4) (ci c 5) (ci c 6) (ci c 7)) :
    LdI .i64 ⟨b, 0, none⟩ w fun x0 => LdI .i64 ⟨b, 1, none⟩ w fun x1 => LdI .u8 ⟨b, 2, none⟩ w fun x2 => LdI .u8 ⟨b, 3, none⟩ w fun x3 => LdI .i64 ⟨b, 4, none⟩ w fun x4 => LdI .u8 ⟨b, 5, none⟩ w fun x5 => LdI .u8 ⟨b, 6, none⟩ w fun x6 => LdI .u8 ⟨b, 7, none⟩ w fun x7 => K x0 x1 x2 x3 x4 x5 x6 x7 :=
  LdI.mk h rfl (LdI.mk h rfl (LdI.mk h rfl (LdI.mk h rfl (LdI.mk h rfl (LdI.mk h rfl (LdI.mk h rfl (LdI.mk h rfl hk)))))))
/-- A cell stored. -/
theorem st8 {c : Cel} {K : World → Prop} {g : Nat → Value} (h : Own w b (fnArr n f) t) (hA : A.add m = ⟨b, o, none⟩) (ho : o + 8 ≤ n) (hg : ∀ j, j < n → (if o ≤ j ∧ j < o + 8 then cv c (j - o) else f j) = g j)
    (hk : ∀ w', w'.heap.size = w.heap.size → Own w' b (fnArr n g) t → Ext [b] w w' → K w') : Sts (cellVs c) (A.add m) 0 w K := by
  rw [hA]
  refine Sts.fn h ho (cellVs_one c) (fun j hj => ?_) hk
  rw [← hg j hj]
  unfold fnPut
  show (if o ≤ j ∧ j < o + 8 then _ else _) = _
  split
  · rename_i hc
    exact cellVs_getD c (by omega)
  · rfl
end

/-! ### hash, next -/
theorem hash_ok {w : World} {k : ByteArray} (hs0 : k.size ≤ 281474976710656) {R : Int → World → Prop} (hR : R (hs k : Int) w) : kv_hash.Call k w R := by
  apply kv_hash.sound
  unfold kv_hash.B0
  refine ⟨fun m key h i w' => ∃ n : Nat, n ≤ k.size ∧ m = k.size - n ∧ k = key ∧ h = hsN k n ∧ i = (n : Int) ∧ w = w', _, ⟨0, Nat.zero_le _, rfl, rfl, rfl, rfl, rfl⟩, ?_⟩
  rintro m key h i w' ⟨n, hn, rfl, rfl, rfl, rfl, rfl⟩
  unfold kv_hash.L1b
  refine Bm.ite (fun hlt => ⟨⟨by omega, hlt⟩, _, ?_, n + 1, by omega, rfl, rfl, rfl, ?_, rfl⟩) fun hge => ?_
  · omega
  · rw [w64 (by omega) (by omega)]
    omega
  · have e : n = k.size := by omega
    subst e
    show R (and64 _ 7) w
    rw [hs_eq]
    exact hR
theorem next_ok {w : World} {i : Nat} (h : i < 8) {R : Int → World → Prop} (hR : R (((i + 1) % 8 : Nat) : Int) w) : kv_next.Call (i : Int) w R := by
  apply kv_next.sound
  unfold kv_next.B0
  rw [w64 (x := (i : Int) + 1) (by omega) (by omega)]
  show R (and64 _ 7) w
  rw [next_eq h]
  exact hR

/-! ### mkCell -/
/-- A cell on the way: p bytes of the key, q of the value. -/
def cw (k v : ByteArray) (p q : Nat) : Nat → Value
  | 0 => .int .i64 1
  | 1 => .int .i64 (p : Int)
  | 2 => .int .u8 (if 0 < p then byteAt k 0 else 0)
  | 3 => .int .u8 (if 1 < p then byteAt k 1 else 0)
  | 4 => .int .i64 (q : Int)
  | 5 => .int .u8 (if 0 < q then byteAt v 0 else 0)
  | 6 => .int .u8 (if 1 < q then byteAt v 1 else 0)
  | 7 => .int .u8 (if 2 < q then byteAt v 2 else 0)
  | _ => undef
theorem cw_full {p : Pair} {j : Nat} (h : j < 8) : cw p.1 p.2 p.1.size p.2.size j = cv (some (some p)) j := by
  have key : ∀ (s : ByteArray) (i : Nat), (if i < s.size then byteAt s (i : Int) else 0) = byteAt s (i : Int) := fun s i => by
    split
    · rfl
    · rw [byteAt_over (by omega)]
  match j, h with
  | 0, _ => rfl
  | 1, _ => rfl
  | 2, _ => exact congrArg _ (key p.1 0)
  | 3, _ => exact congrArg _ (key p.1 1)
  | 4, _ => rfl
  | 5, _ => exact congrArg _ (key p.2 0)
  | 6, _ => exact congrArg _ (key p.2 1)
  | 7, _ => exact congrArg _ (key p.2 2)
theorem mkCell_ok {w : World} {k v : ByteArray} (hk : k.size ≤ 2) (hv : v.size ≤ 3) {R : Int → Int → Int → Int → Int → Int → Int → Int → World → Prop}
    (hR : ∀ w', Ext [] w w' → R (ci (some (some (k, v))) 0) (ci (some (some (k, v))) 1) (ci (some (some (k, v))) 2) (ci (some (some (k, v))) 3) (ci (some (some (k, v))) 4) (ci (some (some (k, v))) 5) (ci (some (some (k, v))) 6) (ci (some (some (k, v))) 7) w') : kv_mkCell.Call k v w R := by
  apply kv_mkCell.sound
  unfold kv_mkCell.B0
  refine New.mk fun t4 w1 ht4 hs1 ho4 he1 => NewSet.mk rfl rfl fun c w2 hc hs2 hoc he2 => ?_
  have ho4' := he2.own ho4 (by simp)
  have hoc' : Own w2 c (fnArr 8 (cw k v 0 0)) T_kv_cell := hoc
  have hne : t4 ≠ c := by omega
  have hge1 := he1.size
  refine ⟨fun m key val t4' c' i w' => ∃ n : Nat, n ≤ k.size ∧ m = k.size - n ∧ k = key ∧ v = val ∧ t4 = t4' ∧ c = c' ∧ i = (n : Int) ∧ Own w' c (fnArr 8 (cw k v n 0)) T_kv_cell ∧ (∃ x, Own w' t4 x T_kv_cell ∧ x.size = 8) ∧ Ext [] w w', _,
    ⟨0, Nat.zero_le _, rfl, rfl, rfl, rfl, rfl, rfl, hoc', ⟨_, ho4', rfl⟩, he1.trans he2⟩, ?_⟩
  rintro m key val t4' c' i w' ⟨n, hn, rfl, rfl, rfl, rfl, rfl, rfl, ho, ⟨x, hx, hxs⟩, he⟩
  have post : n = k.size → kv_mkCell.L2 v t4 c 0 w' R := by
    rintro rfl
    refine ⟨fun m val t4' c' i w' => ∃ n : Nat, n ≤ v.size ∧ m = v.size - n ∧ v = val ∧ t4 = t4' ∧ c = c' ∧ i = (n : Int) ∧ Own w' c (fnArr 8 (cw k v k.size n)) T_kv_cell ∧ (∃ x, Own w' t4 x T_kv_cell ∧ x.size = 8) ∧ Ext [] w w', _,
      ⟨0, Nat.zero_le _, rfl, rfl, rfl, rfl, rfl, ho, ⟨x, hx, hxs⟩, he⟩, ?_⟩
    rintro m val t4' c' i w' ⟨n, hn, rfl, rfl, rfl, rfl, rfl, ho, ⟨x, hx, hxs⟩, he⟩
    have fin : n = v.size → kv_mkCell.B2 v t4 c (n : Int) false w' (fun val' t4' c' i' w' => ∃ m', m' < v.size - n ∧ ∃ n : Nat, n ≤ v.size ∧ m' = v.size - n ∧ v = val' ∧ t4 = t4' ∧ c = c' ∧ i' = (n : Int) ∧ Own w' c (fnArr 8 (cw k v k.size n)) T_kv_cell ∧ (∃ x, Own w' t4 x T_kv_cell ∧ x.size = 8) ∧ Ext [] w w') R := by
      rintro rfl
      unfold kv_mkCell.B2
      rw [fnArr_congr (fun j hj => cw_full (p := (k, v)) hj), ← cellVs_fn] at ho
      refine Bm.neg rfl (ld8b ho (Sts.full (vs := cellVs (some (some (k, v)))) hx hxs.symm (cellVs_one _) fun w3 hs3 ho3 he3 => ld8b ho3 (hR w3 (he.trans' he3 ?_))))
      intro y hy hlt
      simp at hy
      omega
    unfold kv_mkCell.L2b
    refine Bm.ite (fun hlt => ?_) fun hge => fin (by omega)
    unfold kv_mkCell.B2
    rw [decide_eq_true (show ((n : Int)) < 3 by omega)]
    refine Bm.pos rfl ⟨⟨by omega, hlt⟩, ⟨by omega, by omega⟩, ?_⟩
    rw [add_mk, Int.toNat_natCast, Nat.mul_one]
    have hn3 : n < 3 := by omega
    refine Sts.fn (g := fun j => if j = 5 + n then .int .u8 (byteAt v (n : Int)) else cw k v k.size n j) ho (by simp; omega) rfl (fun j hj => by
      unfold fnPut
      by_cases e : j = 5 + n
      · subst e; simp
      · rw [if_neg (by simp; omega), if_neg e]) fun w3 hs3 ho3 he3 => ?_
    refine Sts.fn (g := cw k v k.size (n + 1)) ho3 (by simp) rfl (fun j hj => by
      rw [w64 (by omega) (by omega)]
      unfold fnPut
      have hn' : n = 0 ∨ n = 1 ∨ n = 2 := by omega
      rcases hn' with rfl | rfl | rfl <;>
      · match j, hj with
        | 0, _ | 1, _ | 2, _ | 3, _ | 4, _ | 5, _ | 6, _ | 7, _ => rfl) fun w4 hs4 ho4 he4 => ?_
    have hc3 : Ext [] w w3 := he.trans' he3 (fun y hy hlt => by simp at hy; omega)
    refine ⟨_, ?_, n + 1, by omega, rfl, rfl, rfl, rfl, by rw [w64 (by omega) (by omega)]; omega, ho4, ⟨x, he4.own (he3.own hx (by simp; omega)) (by simp; omega), hxs⟩, hc3.trans' he4 (fun y hy hlt => by simp at hy; omega)⟩
    omega
  unfold kv_mkCell.L1b
  refine Bm.ite (fun hlt => ?_) fun hge => ?_
  · unfold kv_mkCell.B1
    rw [decide_eq_true (show ((n : Int)) < 2 by omega)]
    refine Bm.pos rfl ⟨⟨by omega, hlt⟩, ⟨by omega, by omega⟩, ?_⟩
    rw [add_mk, Int.toNat_natCast, Nat.mul_one]
    have hn3 : n < 2 := by omega
    refine Sts.fn (g := fun j => if j = 2 + n then .int .u8 (byteAt k (n : Int)) else cw k v n 0 j) ho (by simp; omega) rfl (fun j hj => by
      unfold fnPut
      by_cases e : j = 2 + n
      · subst e; simp
      · rw [if_neg (by simp; omega), if_neg e]) fun w3 hs3 ho3 he3 => ?_
    refine Sts.fn (g := cw k v (n + 1) 0) ho3 (by simp) rfl (fun j hj => by
      rw [w64 (by omega) (by omega)]
      unfold fnPut
      have hn' : n = 0 ∨ n = 1 := by omega
      rcases hn' with rfl | rfl <;>
      · match j, hj with
        | 0, _ | 1, _ | 2, _ | 3, _ | 4, _ | 5, _ | 6, _ | 7, _ => rfl) fun w4 hs4 ho4 he4 => ?_
    have hc3 : Ext [] w w3 := he.trans' he3 (fun y hy hlt => by simp at hy; omega)
    refine ⟨_, ?_, n + 1, by omega, rfl, rfl, rfl, rfl, rfl, by rw [w64 (by omega) (by omega)]; omega, ho4, ⟨x, he4.own (he3.own hx (by simp; omega)) (by simp; omega), hxs⟩, hc3.trans' he4 (fun y hy hlt => by simp at hy; omega)⟩
    omega
  · unfold kv_mkCell.B1
    exact Bm.neg rfl (post (by omega))
end Go.Proofs.Qxb6500430aGreat.Kv
