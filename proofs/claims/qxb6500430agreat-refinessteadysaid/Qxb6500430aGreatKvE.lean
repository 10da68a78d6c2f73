/-
  kv: sorted: the places of the live cells, by key.
-/
import Derived.Test.Qxb6500430aGreatKvD
set_option linter.unusedVariables false
open Go.Vc
namespace Go.Proofs.Qxb6500430aGreat.Kv

def pt (T : Tb) (i : Nat) : Pair := match T i with
  | some (some p) => p
  | _ => (estr, estr)
theorem pt_eq {T : Tb} {i : Nat} {p : Pair} (h : T i = some (some p)) : pt T i = p := by unfold pt; rw [h]
def I64 (L : List Nat) : List Value := L.map fun (x : Nat) => Value.int .i64 (x : Int)
theorem I64_length (L : List Nat) : (I64 L).length = L.length := by simp [I64]
/-- A row of four places. -/
def At4 (w : World) (a : Nat) (L : List Nat) : Prop := Own w a (I64 L).toArray 262 ∧ L.length = 4
theorem At4.ld {w : World} {a i x : Nat} {L : List Nat} {K : Int → Prop} (h : At4 w a L) (hx : L[i]? = some x) (hk : K (x : Int)) : LdI .i64 (Addr.add ⟨a, 0, none⟩ ((i : Int).toNat * 1)) w K := by
  rw [add_mk, Int.toNat_natCast, Nat.mul_one, Nat.zero_add]
  refine LdI.mk h.1 ?_ hk
  simp [I64, hx]
theorem At4.st {w : World} {a i x : Nat} {L : List Nat} {K : World → Prop} (h : At4 w a L) (hi : i < 4) (hk : ∀ w', w'.heap.size = w.heap.size → At4 w' a (L.set i x) → Ext [a] w w' → K w') : Sts [.int .i64 (x : Int)] (Addr.add ⟨a, 0, none⟩ ((i : Int).toNat * 1)) 0 w K := by
  rw [add_mk, Int.toNat_natCast, Nat.mul_one, Nat.zero_add]
  have hl := h.2
  refine Sts.mk h.1 (by simp [I64]; omega) rfl fun w' hs ho he => hk w' hs ⟨?_, by rw [List.length_set]; exact hl⟩ he
  have e : putArr (I64 L).toArray i [Value.int .i64 (x : Int)] = (I64 (L.set i x)).toArray := by
    apply Array.ext_getElem?
    intro j
    rw [getElem?_putArr _ _ _ _ (by simp [I64]; omega)]
    simp only [List.length_cons, List.length_nil, Nat.zero_add, List.getElem?_toArray, I64, List.getElem?_map]
    by_cases hj : j = i
    · subst hj
      simp [show j < L.length by omega]
    · rw [if_neg (by omega), List.getElem?_set_ne (fun e => hj e.symm)]
  rw [e] at ho
  exact ho
theorem At4.ext {w w' : World} {a : Nat} {L : List Nat} {S : List Nat} (h : At4 w a L) (he : Ext S w w') (hs : a ∉ S) : At4 w' a L := ⟨he.own h.1 hs, h.2⟩
theorem list4 {L : List Nat} (h : L.length = 4) : ∃ a b c d, L = [a, b, c, d] := by
  match L, h with
  | [a, b, c, d], _ => exact ⟨a, b, c, d, rfl⟩
/-- Live places, in order. -/
def Places (T : Tb) (n : Nat) (L : List Nat) : Prop := (∀ x ∈ L, x < n ∧ ∃ p, T x = some (some p)) ∧ Asc (fun x => kB (pt T x)) L ∧ (L.map (pt T)).Perm (Lvi T n)
section
variable {w : World} {b n : Nat} {t : TypeId} {rest : Nat → Value} {T : Tb} {l m : Int}
theorem sorted_ok {A : List Pair} {R : Int → Int → Int → Int → World → Prop} (h : Tab w b n t rest T l m) (hT : TInv T) (h4 : (Lv T).length ≤ 4) (hA : AOk A) (hp : (Lv T).Perm A)
    (hR : ∀ w' (x0 x1 x2 x3 : Nat), (∀ (j : Nat) (q : Pair), A[j]? = some q → ∃ i, i < 8 ∧ [x0, x1, x2, x3][j]? = some i ∧ T i = some (some q)) → Ext [] w w' → R (x0 : Int) (x1 : Int) (x2 : Int) (x3 : Int) w') : kv_table_sorted.Call (some ⟨b, 0, none⟩) w R := by
  apply kv_table_sorted.sound
  unfold kv_table_sorted.B0
  refine New.mk fun t2 w1 ht2 hs1 ho1 he1 => New.mk fun a w2 ha hs2 ho2 he2 => ?_
  have hlt := h.lt
  have o1 : At4 w2 t2 [0, 0, 0, 0] := ⟨he2.own ho1 (by simp), rfl⟩
  have o2 : At4 w2 a [0, 0, 0, 0] := ⟨ho2, rfl⟩
  refine ⟨fun mm tt t2' a' nn i w' => ∃ (e : Nat) (L Z : List Nat), e ≤ 8 ∧ mm = 8 - e ∧ some ⟨b, 0, none⟩ = tt ∧ t2 = t2' ∧ a = a' ∧ nn = (L.length : Int) ∧ i = (e : Int) ∧ At4 w' a (L ++ Z) ∧ (∃ Y, At4 w' t2 Y) ∧ Places T e L ∧ Ext [] w w', _,
    ⟨0, [], [0, 0, 0, 0], by omega, rfl, rfl, rfl, rfl, rfl, rfl, o2, ⟨_, o1⟩, ⟨(fun x hx => by cases hx), List.Pairwise.nil, List.Perm.refl _⟩, he1.trans he2⟩, ?_⟩
  rintro mm tt t2' a' nn i w' ⟨e, L, Z, he8, rfl, rfl, rfl, rfl, rfl, rfl, hat, ⟨Y, hY⟩, hL, he⟩
  have ht := h.ext0 he
  have hbig := he.size
  unfold kv_table_sorted.L1b
  refine Bm.ite (fun hlt8 => Pn.mk ⟨⟨by omega, by omega⟩, ht.ldS (by omega) ?_⟩) fun hge => ?_
  · have skip : lv (T e) = [] → kv_table_sorted.B1 (some ⟨b, 0, none⟩) t2 a (L.length : Int) (e : Int) true w' (fun tt t2' a' nn i w' => ∃ m', m' < 8 - e ∧ ∃ (e : Nat) (L Z : List Nat), e ≤ 8 ∧ m' = 8 - e ∧ some ⟨b, 0, none⟩ = tt ∧ t2 = t2' ∧ a = a' ∧ nn = (L.length : Int) ∧ i = (e : Int) ∧ At4 w' a (L ++ Z) ∧ (∃ Y, At4 w' t2 Y) ∧ Places T e L ∧ Ext [] w w') R := by
      intro hn
      unfold kv_table_sorted.B1
      refine Bm.pos rfl ⟨8 - (e + 1), by omega, e + 1, L, Z, by omega, rfl, rfl, rfl, rfl, rfl, by rw [w64 (by omega) (by omega)]; omega, hat, ⟨Y, hY⟩, ⟨fun x hx => ⟨by have := (hL.1 x hx).1; omega, (hL.1 x hx).2⟩, hL.2.1, ?_⟩, he⟩
      rw [Lvi_succ, hn, List.append_nil]
      exact hL.2.2
    rcases ci_state (T e) with ⟨h0, hc⟩ | ⟨h0, hc⟩ | ⟨p, h0, hc⟩
    · rw [h0]
      exact Bm.pos rfl (skip (by rw [hc]; rfl))
    · rw [h0]
      exact Bm.pos rfl (skip (by rw [hc]; rfl))
    rw [h0]
    refine Bm.neg rfl ?_
    have hsucc : Lvi T (e + 1) = Lvi T e ++ [p] := by rw [Lvi_succ, hc]; rfl
    have hle := Lvi_le (T := T) (n := e + 1) (m := 8) (by omega)
    rw [hsucc, List.length_append] at hle
    simp only [List.length_cons, List.length_nil] at hle
    have h4' : (Lvi T 8).length ≤ 4 := h4
    have hLl := hL.2.2.length_eq
    rw [List.length_map] at hLl
    have hL3 : L.length < 4 := by omega
    have hpo := hT.ok e (by omega) p hc
    rw [decide_eq_false (by omega)]
    unfold kv_table_sorted.B1
    refine Bm.neg rfl (Pn.mk ⟨⟨by omega, by omega⟩, ht.ld (by omega) ?_⟩)
    rw [hc]
    refine keyOf_ok hpo fun w3 he3 => ?_
    obtain ⟨z, Z', rfl⟩ : ∃ z Z', Z = z :: Z' := by
      have := hat.2
      rw [List.length_append] at this
      cases Z with
      | nil => simp at this; omega
      | cons z Z' => exact ⟨z, Z', rfl⟩
    have hne : ∀ x ∈ L, kB (pt T x) ≠ kB p := fun x hx hk => by
      obtain ⟨hxe, q, hq⟩ := hL.1 x hx
      rw [pt_eq hq] at hk
      have := hT.uniq x e (by omega) (by omega) q p hq hc (kB_inj (hT.ok x (by omega) q hq) hpo hk)
      omega
    refine ⟨fun mm tt t2' a' nn i key j w' => ∃ (P Q : List Nat) (x : Nat), mm = P.length ∧ some ⟨b, 0, none⟩ = tt ∧ t2 = t2' ∧ a = a' ∧ nn = (L.length : Int) ∧ i = (e : Int) ∧ p.1 = key ∧ j = (P.length : Int) ∧ L = P ++ Q ∧ (∀ y ∈ Q, ¬ kB (pt T y) < kB p) ∧ At4 w' a (P ++ x :: (Q ++ Z')) ∧ (∃ Y, At4 w' t2 Y) ∧ Ext [] w w', _,
      ⟨L, [], z, rfl, rfl, rfl, rfl, rfl, rfl, rfl, rfl, (List.append_nil L).symm, (fun y hy => by cases hy), hat.ext he3 (by simp), ⟨Y, hY.ext he3 (by simp)⟩, he.trans he3⟩, ?_⟩
    clear hat hY he3 w3 Y ht
    rintro mm tt t2' a' nn i key j w3 ⟨P, Q, x, rfl, rfl, rfl, rfl, rfl, rfl, rfl, rfl, hPQ, hQ, hat, ⟨Y, hY⟩, he3⟩
    have fin : (∀ y ∈ P, kB (pt T y) < kB p) → ∀ w4, Ext [] w3 w4 → kv_table_sorted.B2 (some ⟨b, 0, none⟩) t2 a (L.length : Int) (e : Int) (P.length : Int) w4 (fun tt t2' a' nn i w' => ∃ m', m' < 8 - e ∧ ∃ (e : Nat) (L Z : List Nat), e ≤ 8 ∧ m' = 8 - e ∧ some ⟨b, 0, none⟩ = tt ∧ t2 = t2' ∧ a = a' ∧ nn = (L.length : Int) ∧ i = (e : Int) ∧ At4 w' a (L ++ Z) ∧ (∃ Y, At4 w' t2 Y) ∧ Places T e L ∧ Ext [] w w') R := by
      intro hP w4 he4
      unfold kv_table_sorted.B2
      have hPl : P.length < 4 := by
        have : L.length = P.length + Q.length := by rw [hPQ, List.length_append]
        omega
      refine ⟨⟨by omega, by omega⟩, (hat.ext he4 (by simp)).st hPl fun w5 hs5 hat5 he5 => ?_⟩
      have e5 : (P ++ x :: (Q ++ Z')).set P.length e = (P ++ e :: Q) ++ Z' := by
        rw [List.set_append_right _ _ (Nat.le_refl _)]
        simp
      rw [e5] at hat5
      have hins : insK (fun x => kB (pt T x)) e L = P ++ e :: Q := by
        rw [hPQ]
        refine insK_mid (fun y hy => ?_) (fun y hy => ?_)
        · show kB (pt T y) < kB (pt T e)
          rw [pt_eq hc]; exact hP y hy
        · show ¬ kB (pt T y) < kB (pt T e)
          rw [pt_eq hc]; exact hQ y hy
      have hge4 := he4.size
      have hge3 := he3.size
      refine ⟨8 - (e + 1), by omega, e + 1, P ++ e :: Q, Z', by omega, rfl, rfl, rfl, rfl, ?_, by rw [w64 (by omega) (by omega)]; omega, hat5, ⟨Y, (hY.ext he4 (by simp)).ext he5 (by simp; omega)⟩, ?_, (he3.trans he4).trans' he5 (fun y hy hl => by simp at hy; omega)⟩
      · rw [w64 (by omega) (by omega), ← hins, insK_length]
        omega
      · rw [← hins]
        refine ⟨fun y hy => ?_, insK_asc hL.2.1 (fun y hy => ?_), ?_⟩
        · rcases List.mem_cons.1 ((insK_perm e L).subset hy) with rfl | hy
          · exact ⟨by omega, p, hc⟩
          · exact ⟨by have := (hL.1 y hy).1; omega, (hL.1 y hy).2⟩
        · show kB (pt T y) ≠ kB (pt T e)
          rw [pt_eq hc]; exact hne y hy
        · rw [hsucc]
          refine (((insK_perm e L).map (pt T)).trans ?_).trans (List.perm_append_singleton ..).symm
          rw [List.map_cons, pt_eq hc]
          exact hL.2.2.cons p
    unfold kv_table_sorted.L2b
    refine Bm.ite (fun hj => ?_) fun hj => fin (fun y hy => ?_) w3 (Ext.refl _ _)
    · obtain ⟨P', y, rfl⟩ : ∃ P' y, P = P' ++ [y] := by
        rcases List.eq_nil_or_concat P with rfl | ⟨P', y, h⟩
        · simp at hj
        · exact ⟨P', y, by rw [h, List.concat_eq_append]⟩
      have hPl : (P' ++ [y]).length = P'.length + 1 := by simp
      rw [hPl] at hj ⊢
      have ej : IntKind.i64.wrap (((P'.length + 1 : Nat) : Int) - 1) = (P'.length : Int) := by
        have : P'.length + 1 ≤ 4 := by
          have : L.length = (P' ++ [y]).length + Q.length := by rw [hPQ, List.length_append]
          omega
        rw [w64 (by omega) (by omega)]; omega
      rw [ej]
      have hPlt : P'.length + 1 < 4 := by
        have : L.length = (P' ++ [y]).length + Q.length := by rw [hPQ, List.length_append]
        omega
      have hyL : y ∈ L := by rw [hPQ]; simp
      obtain ⟨hye, q, hq⟩ := hL.1 y hyL
      have hget : (P' ++ [y] ++ x :: (Q ++ Z'))[P'.length]? = some y := by simp
      have ht3 := h.ext0 he3
      refine ⟨⟨by omega, by omega⟩, At4.ld (L := P' ++ [y] ++ x :: (Q ++ Z')) ⟨hat.1.drew, hat.2⟩ hget (Pn.mk ⟨⟨by omega, by omega⟩, ht3.drew.ld (by omega) ?_⟩)⟩
      rw [hq]
      have hqo := hT.ok y (by omega) q hq
      refine keyOf_ok hqo fun w4 he4 => ?_
      have he4' : Ext [] w3 w4 := (Ext.drew _ _).trans he4
      rw [less_rk hqo.2.1 hpo.2.1]
      refine Bm.ite (fun hlt => ?_) fun hge => ?_
      · have := fin (fun u hu => ?_) w4 he4'
        · rw [hPl] at this
          exact this
        · rcases List.mem_append.1 hu with hu | hu
          · have hasc := hL.2.1
            rw [hPQ, List.append_assoc] at hasc
            have h1 : kB (pt T u) < kB (pt T y) := asc_mid (κ := fun x => kB (pt T x)) hasc hu (by simp)
            rw [pt_eq hq] at h1
            have : kB q < kB p := hlt
            omega
          · rw [List.mem_singleton] at hu
            subst hu
            rw [pt_eq hq]
            exact hlt
      · refine ⟨⟨by omega, by omega⟩, At4.ld (hat.ext he4' (by simp)) hget ⟨⟨by omega, by omega⟩, (hat.ext he4' (by simp)).st (i := P'.length + 1) hPlt fun w5 hs5 hat5 he5 => ?_⟩⟩
        have e5 : (P' ++ [y] ++ x :: (Q ++ Z')).set (P'.length + 1) y = P' ++ y :: ((y :: Q) ++ Z') := by
          rw [List.append_assoc, List.set_append_right _ _ (by omega)]
          simp
        rw [e5] at hat5
        have hge4 := he4'.size
        have hge3 := he3.size
        refine ⟨P'.length, by omega, P', y :: Q, y, rfl, rfl, rfl, rfl, rfl, rfl, rfl, rfl, ?_, ?_, hat5, ⟨Y, (hY.ext he4' (by simp)).ext he5 (by simp; omega)⟩, (he3.trans he4').trans' he5 (fun u hu hl => by simp at hu; omega)⟩
        · rw [hPQ]; simp
        · intro u hu
          rcases List.mem_cons.1 hu with rfl | hu
          · rw [pt_eq hq]; exact hge
          · exact hQ u hu
    · have : P = [] := List.eq_nil_of_length_eq_zero (by omega)
      subst this
      cases hy
  · have e8 : e = 8 := by omega
    subst e8
    obtain ⟨x0, x1, x2, x3, hx⟩ := list4 hat.2
    rw [hx] at hat
    refine LdI.mk hat.1 rfl (LdI.mk hat.1 rfl (LdI.mk hat.1 rfl (LdI.mk hat.1 rfl (Sts.full (vs := I64 [x0, x1, x2, x3]) hY.1 (by have := hY.2; simp [I64]; omega) rfl fun w3 hs3 ho3 he3 => LdI.mk ho3 rfl (LdI.mk ho3 rfl (LdI.mk ho3 rfl (LdI.mk ho3 rfl ?_)))))))
    have hLA : L.map (pt T) = A := by
      refine asc_unique ?_ hA.1 (hL.2.2.trans hp)
      unfold Asc
      rw [List.pairwise_map]
      exact hL.2.1
    refine hR w3 x0 x1 x2 x3 (fun j q hq => ?_) (he.trans' he3 (fun u hu hl => by simp at hu; omega))
    rw [← hLA, List.getElem?_map] at hq
    cases hj : L[j]? with
    | none => rw [hj] at hq; cases hq
    | some i =>
      rw [hj] at hq
      simp only [Option.map_some, Option.some.injEq] at hq
      obtain ⟨hi, p, hpi⟩ := hL.1 i (List.mem_of_getElem? hj)
      rw [pt_eq hpi] at hq
      subst hq
      refine ⟨i, hi, ?_, hpi⟩
      have hjl := (List.getElem?_eq_some_iff.1 hj).1
      rw [← hx, List.getElem?_append_left hjl]
      exact hj
end
end Go.Proofs.Qxb6500430aGreat.Kv
