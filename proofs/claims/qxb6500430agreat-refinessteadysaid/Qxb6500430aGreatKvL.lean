/-
  kvm: the model on the heap: find, put, run, Apply and the observers.
-/
import Derived.Test.Qxb6500430aGreatKvJ
set_option linter.unusedVariables false
open Go.Vc
namespace Go.Proofs.Qxb6500430aGreat.Kv

def zP : Pair := (estr, estr)
def modF (n : Int) (B : List Pair) (S : Ss) (o : Nat) : Value :=
  if o = 0 then .int .i64 n else if o < 5 then .string (B.getD (o - 1) zP).1 else if o < 9 then .string (B.getD (o - 5) zP).2 else if o < 12 then .int .i64 (S (o - 9)).1 else if (o - 12) % 2 = 0 then .int .i64 (S ((o - 12) / 2)).2.1 else .string (S ((o - 12) / 2)).2.2
def MB (w : World) (b : Nat) (n : Int) (B : List Pair) (S : Ss) : Prop := Own w b (fnArr 18 (modF n B S)) T_kvm_KV ∧ B.length = 4
def padA (A : List Pair) : List Pair := A ++ List.replicate (4 - A.length) zP
def ModAt (w : World) (b : Nat) (A : List Pair) (S : Ss) : Prop := MB w b (A.length : Int) (padA A) S
theorem modF_n (n : Int) (B : List Pair) (S : Ss) : modF n B S 0 = .int .i64 n := rfl
theorem modF_k {n : Int} {B : List Pair} {S : Ss} {i : Nat} (h : i < 4) : modF n B S (1 + i) = .string (B.getD i zP).1 := by
  unfold modF
  rw [if_neg (by omega), if_pos (by omega), show 1 + i - 1 = i by omega]
theorem modF_v {n : Int} {B : List Pair} {S : Ss} {i : Nat} (h : i < 4) : modF n B S (5 + i) = .string (B.getD i zP).2 := by
  unfold modF
  rw [if_neg (by omega), if_neg (by omega), if_pos (by omega), show 5 + i - 5 = i by omega]
theorem modF_q {n : Int} {B : List Pair} {S : Ss} {i : Nat} (h : i < 3) : modF n B S (9 + i) = .int .i64 (S i).1 := by
  unfold modF
  rw [if_neg (by omega), if_neg (by omega), if_neg (by omega), if_pos (by omega), show 9 + i - 9 = i by omega]
theorem modF_e {n : Int} {B : List Pair} {S : Ss} {i : Nat} (h : i < 3) : modF n B S (12 + i * 2) = .int .i64 (S i).2.1 := by
  unfold modF
  rw [if_neg (by omega), if_neg (by omega), if_neg (by omega), if_neg (by omega), if_pos (by omega), show (12 + i * 2 - 12) / 2 = i by omega]
theorem modF_s {n : Int} {B : List Pair} {S : Ss} {i : Nat} (h : i < 3) : modF n B S (12 + i * 2 + 1) = .string (S i).2.2 := by
  unfold modF
  rw [if_neg (by omega), if_neg (by omega), if_neg (by omega), if_neg (by omega), if_neg (by omega), show (12 + i * 2 + 1 - 12) / 2 = i by omega]
theorem getD_set {B : List Pair} {i j : Nat} {p : Pair} (hi : i < B.length) : (B.set i p).getD j zP = if j = i then p else B.getD j zP := by
  simp only [List.getD]
  by_cases h : j = i
  · subst h
    rw [if_pos rfl]
    simp [hi]
  · rw [if_neg h, List.getElem?_set_ne (fun e => h e.symm)]
section
variable {w : World} {b : Nat} {n : Int} {B : List Pair} {S : Ss}
theorem MB.ext {w' : World} {X : List Nat} (h : MB w b n B S) (he : Ext X w w') (hb : b ∉ X) : MB w' b n B S := ⟨he.own h.1 hb, h.2⟩
theorem MB.ext0 {w' : World} (h : MB w b n B S) (he : Ext [] w w') : MB w' b n B S := h.ext he (by simp)
theorem MB.drew (h : MB w b n B S) : MB w.drew b n B S := ⟨h.1.drew, h.2⟩
theorem MB.lt (h : MB w b n B S) : b < w.heap.size := h.1.lt
theorem MB.ldN {K : Int → Prop} (h : MB w b n B S) (hk : K n) : LdI .i64 ⟨b, 0, none⟩ w K := LdI.fn h.1 (by omega) rfl hk
theorem MB.ldK {i : Nat} {K : ByteArray → Prop} (h : MB w b n B S) (hi : i < 4) (hk : K (B.getD i zP).1) : LdS (Addr.add (Addr.add ⟨b, 0, none⟩ 1) ((i : Int).toNat * 1)) w K := by
  rw [add_mk, add_mk, Int.toNat_natCast, Nat.mul_one, Nat.zero_add]
  exact LdS.fn h.1 (by omega) (modF_k hi) hk
theorem MB.ldV {i : Nat} {K : ByteArray → Prop} (h : MB w b n B S) (hi : i < 4) (hk : K (B.getD i zP).2) : LdS (Addr.add (Addr.add ⟨b, 0, none⟩ 5) ((i : Int).toNat * 1)) w K := by
  rw [add_mk, add_mk, Int.toNat_natCast, Nat.mul_one, Nat.zero_add]
  exact LdS.fn h.1 (by omega) (modF_v hi) hk
theorem MB.ldQ {i : Nat} {K : Int → Prop} (h : MB w b n B S) (hi : i < 3) (hk : K (S i).1) : LdI .i64 (Addr.add (Addr.add ⟨b, 0, none⟩ 9) ((i : Int).toNat * 1)) w K := by
  rw [add_mk, add_mk, Int.toNat_natCast, Nat.mul_one, Nat.zero_add]
  exact LdI.fn h.1 (by omega) (modF_q hi) hk
theorem MB.ldE {i : Nat} {K : Int → Prop} (h : MB w b n B S) (hi : i < 3) (hk : K (S i).2.1) : LdI .i64 (Addr.add (Addr.add ⟨b, 0, none⟩ 12) ((i : Int).toNat * 2)) w K := by
  rw [add_mk, add_mk, Int.toNat_natCast, Nat.zero_add]
  exact LdI.fn h.1 (by omega) (modF_e hi) hk
theorem MB.ldS {i : Nat} {K : ByteArray → Prop} (h : MB w b n B S) (hi : i < 3) (hk : K (S i).2.2) : LdS ((Addr.add (Addr.add ⟨b, 0, none⟩ 12) ((i : Int).toNat * 2)).add 1) w K := by
  rw [add_mk, add_mk, add_mk, Int.toNat_natCast, Nat.zero_add]
  exact LdS.fn h.1 (by omega) (modF_s hi) hk
theorem MB.stN {x : Int} {K : World → Prop} (h : MB w b n B S) (hk : ∀ w', w'.heap.size = w.heap.size → MB w' b x B S → Ext [b] w w' → K w') : Sts [.int .i64 x] ⟨b, 0, none⟩ 0 w K :=
  Sts.fn (g := modF x B S) h.1 (by simp) rfl (fun j hj => by
    unfold fnPut modF
    by_cases e : j = 0
    · subst e; rfl
    · rw [if_neg (by simp; omega), if_neg e, if_neg e]) fun w' hs ho he => hk w' hs ⟨ho, h.2⟩ he
theorem MB.stK {i : Nat} {x : ByteArray} {K : World → Prop} (h : MB w b n B S) (hi : i < 4) (hk : ∀ w', w'.heap.size = w.heap.size → MB w' b n (B.set i (x, (B.getD i zP).2)) S → Ext [b] w w' → K w') : Sts [.string x] (Addr.add (Addr.add ⟨b, 0, none⟩ 1) ((i : Int).toNat * 1)) 0 w K := by
  rw [add_mk, add_mk, Int.toNat_natCast, Nat.mul_one, Nat.zero_add]
  have hl := h.2
  refine Sts.fn (g := modF n (B.set i (x, (B.getD i zP).2)) S) h.1 (by simp; omega) rfl (fun j hj => ?_) fun w' hs ho he => hk w' hs ⟨ho, by rw [List.length_set]; exact hl⟩ he
  unfold fnPut modF
  by_cases e : j = 1 + i
  · subst e
    rw [if_pos (by simp), if_neg (by omega), if_pos (by omega), getD_set (by omega), if_pos (by omega)]
    simp
  · rw [if_neg (by simp; omega)]
    by_cases c0 : j = 0
    · rw [if_pos c0, if_pos c0]
    · rw [if_neg c0, if_neg c0]
      by_cases c1 : j < 5
      · rw [if_pos c1, if_pos c1, getD_set (by omega), if_neg (by omega)]
      · rw [if_neg c1, if_neg c1]
        by_cases c2 : j < 9
        · rw [if_pos c2, if_pos c2, getD_set (by omega)]
          split
          · rename_i e2; rw [e2]
          · rfl
        · rw [if_neg c2, if_neg c2]
theorem MB.stV {i : Nat} {x : ByteArray} {K : World → Prop} (h : MB w b n B S) (hi : i < 4) (hk : ∀ w', w'.heap.size = w.heap.size → MB w' b n (B.set i ((B.getD i zP).1, x)) S → Ext [b] w w' → K w') : Sts [.string x] (Addr.add (Addr.add ⟨b, 0, none⟩ 5) ((i : Int).toNat * 1)) 0 w K := by
  rw [add_mk, add_mk, Int.toNat_natCast, Nat.mul_one, Nat.zero_add]
  have hl := h.2
  refine Sts.fn (g := modF n (B.set i ((B.getD i zP).1, x)) S) h.1 (by simp; omega) rfl (fun j hj => ?_) fun w' hs ho he => hk w' hs ⟨ho, by rw [List.length_set]; exact hl⟩ he
  unfold fnPut modF
  by_cases e : j = 5 + i
  · subst e
    rw [if_pos (by simp), if_neg (by omega), if_neg (by omega), if_pos (by omega), getD_set (by omega), if_pos (by omega)]
    simp
  · rw [if_neg (by simp; omega)]
    by_cases c0 : j = 0
    · rw [if_pos c0, if_pos c0]
    · rw [if_neg c0, if_neg c0]
      by_cases c1 : j < 5
      · rw [if_pos c1, if_pos c1, getD_set (by omega)]
        split
        · rename_i e2; rw [e2]
        · rfl
      · rw [if_neg c1, if_neg c1]
        by_cases c2 : j < 9
        · rw [if_pos c2, if_pos c2, getD_set (by omega), if_neg (by omega)]
        · rw [if_neg c2, if_neg c2]
theorem set_kv {B : List Pair} {i : Nat} {x y : ByteArray} (hi : i < B.length) : (B.set i (x, (B.getD i zP).2)).set i (((B.set i (x, (B.getD i zP).2)).getD i zP).1, y) = B.set i (x, y) := by
  rw [getD_set hi, if_pos rfl, List.set_set]
theorem MB.stQ {i : Nat} {x : Int} {K : World → Prop} (h : MB w b n B S) (hi : i < 3) (hk : ∀ w', w'.heap.size = w.heap.size → MB w' b n B (updS S i (x, (S i).2)) → Ext [b] w w' → K w') : Sts [.int .i64 x] (Addr.add (Addr.add ⟨b, 0, none⟩ 9) ((i : Int).toNat * 1)) 0 w K := by
  rw [add_mk, add_mk, Int.toNat_natCast, Nat.mul_one, Nat.zero_add]
  refine Sts.fn (g := modF n B (updS S i (x, (S i).2))) h.1 (by simp; omega) rfl (fun j hj => ?_) fun w' hs ho he => hk w' hs ⟨ho, h.2⟩ he
  unfold fnPut modF
  by_cases e : j = 9 + i
  · subst e
    rw [if_pos (by simp), if_neg (by omega), if_neg (by omega), if_neg (by omega), if_pos (by omega), show 9 + i - 9 = i by omega, updS_eq]
    simp
  · rw [if_neg (by simp; omega)]
    by_cases c0 : j = 0
    · rw [if_pos c0, if_pos c0]
    · rw [if_neg c0, if_neg c0]
      by_cases c1 : j < 5
      · rw [if_pos c1, if_pos c1]
      · rw [if_neg c1, if_neg c1]
        by_cases c2 : j < 9
        · rw [if_pos c2, if_pos c2]
        · rw [if_neg c2, if_neg c2]
          by_cases c3 : j < 12
          · rw [if_pos c3, if_pos c3, updS_ne (by omega)]
          · rw [if_neg c3, if_neg c3]
            have hx : (updS S i (x, (S i).2) ((j - 12) / 2)).2 = (S ((j - 12) / 2)).2 := by
              by_cases e3 : (j - 12) / 2 = i
              · rw [e3, updS_eq]
              · rw [updS_ne e3]
            rw [hx]
theorem modF_tail {S' : Ss} {j : Nat} (hS : ∀ k, k < 3 → (S' k).1 = (S k).1) (h12 : j < 12) : modF n B S' j = modF n B S j := by
  unfold modF
  by_cases c0 : j = 0
  · rw [if_pos c0, if_pos c0]
  · rw [if_neg c0, if_neg c0]
    by_cases c1 : j < 5
    · rw [if_pos c1, if_pos c1]
    · rw [if_neg c1, if_neg c1]
      by_cases c2 : j < 9
      · rw [if_pos c2, if_pos c2]
      · rw [if_neg c2, if_neg c2, if_pos h12, if_pos h12, hS _ (by omega)]
theorem modF_hi {S' : Ss} {j : Nat} (h12 : 12 ≤ j) (hS : (S' ((j - 12) / 2)).2 = (S ((j - 12) / 2)).2) : modF n B S' j = modF n B S j := by
  simp only [modF, if_neg (show ¬ j = 0 by omega), if_neg (show ¬ j < 5 by omega), if_neg (show ¬ j < 9 by omega), if_neg (show ¬ j < 12 by omega), hS]
theorem updA_fst {i k : Nat} {x : Int × ByteArray} : (updS S i ((S i).1, x) k).1 = (S k).1 := by
  by_cases e : k = i
  · rw [e, updS_eq]
  · rw [updS_ne e]
theorem MB.stA {i : Nat} {x : Int} {s : ByteArray} {K : World → Prop} (h : MB w b n B S) (hi : i < 3) (hk : ∀ w', w'.heap.size = w.heap.size → MB w' b n B (updS S i ((S i).1, x, s)) → Ext [b] w w' → K w') : Sts [.int .i64 x, .string s] (Addr.add (Addr.add ⟨b, 0, none⟩ 12) ((i : Int).toNat * 2)) 0 w K := by
  rw [add_mk, add_mk, Int.toNat_natCast, Nat.zero_add]
  refine Sts.fn (g := modF n B (updS S i ((S i).1, x, s))) h.1 (by simp; omega) rfl (fun j hj => ?_) fun w' hs ho he => hk w' hs ⟨ho, h.2⟩ he
  unfold fnPut
  by_cases e0 : j = 12 + i * 2
  · subst e0
    rw [if_pos (by simp), modF_e hi, updS_eq]
    simp
  · by_cases e1 : j = 12 + i * 2 + 1
    · subst e1
      rw [if_pos (by simp), modF_s hi, updS_eq, show 12 + i * 2 + 1 - (12 + i * 2) = 1 by omega]
      rfl
    · rw [if_neg (by simp; omega)]
      by_cases c3 : j < 12
      · exact (modF_tail (fun k _ => updA_fst) c3).symm
      · exact (modF_hi (by omega) (by rw [updS_ne (by omega)])).symm
theorem MB.stE {i : Nat} {x : Int} {K : World → Prop} (h : MB w b n B S) (hi : i < 3) (hk : ∀ w', w'.heap.size = w.heap.size → MB w' b n B (updS S i ((S i).1, x, (S i).2.2)) → Ext [b] w w' → K w') : Sts [.int .i64 x] (Addr.add (Addr.add ⟨b, 0, none⟩ 12) ((i : Int).toNat * 2)) 0 w K := by
  rw [add_mk, add_mk, Int.toNat_natCast, Nat.zero_add]
  refine Sts.fn (g := modF n B (updS S i ((S i).1, x, (S i).2.2))) h.1 (by simp; omega) rfl (fun j hj => ?_) fun w' hs ho he => hk w' hs ⟨ho, h.2⟩ he
  unfold fnPut
  by_cases e0 : j = 12 + i * 2
  · subst e0
    rw [if_pos (by simp), modF_e hi, updS_eq]
    simp
  · rw [if_neg (by simp; omega)]
    by_cases e1 : j = 12 + i * 2 + 1
    · subst e1
      rw [modF_s hi, modF_s hi, updS_eq]
    · by_cases c3 : j < 12
      · exact (modF_tail (fun k _ => updA_fst) c3).symm
      · exact (modF_hi (by omega) (by rw [updS_ne (by omega)])).symm
theorem MB.stS {i : Nat} {s : ByteArray} {K : World → Prop} (h : MB w b n B S) (hi : i < 3) (hk : ∀ w', w'.heap.size = w.heap.size → MB w' b n B (updS S i ((S i).1, (S i).2.1, s)) → Ext [b] w w' → K w') : Sts [.string s] ((Addr.add (Addr.add ⟨b, 0, none⟩ 12) ((i : Int).toNat * 2)).add 1) 0 w K := by
  rw [add_mk, add_mk, add_mk, Int.toNat_natCast, Nat.zero_add]
  refine Sts.fn (g := modF n B (updS S i ((S i).1, (S i).2.1, s))) h.1 (by simp; omega) rfl (fun j hj => ?_) fun w' hs ho he => hk w' hs ⟨ho, h.2⟩ he
  unfold fnPut
  by_cases e0 : j = 12 + i * 2 + 1
  · subst e0
    rw [if_pos (by simp), modF_s hi, updS_eq]
    simp
  · rw [if_neg (by simp; omega)]
    by_cases e1 : j = 12 + i * 2
    · subst e1
      rw [modF_e hi, modF_e hi, updS_eq]
    · by_cases c3 : j < 12
      · exact (modF_tail (fun k _ => updA_fst) c3).symm
      · exact (modF_hi (by omega) (by rw [updS_ne (by omega)])).symm
end
theorem padA_length {A : List Pair} (h : A.length ≤ 4) : (padA A).length = 4 := by unfold padA; rw [List.length_append, List.length_replicate]; omega
theorem padA_at {A : List Pair} {i : Nat} {q : Pair} (h : A[i]? = some q) : (padA A).getD i zP = q := by
  have hi := (List.getElem?_eq_some_iff.1 h).1
  unfold padA
  simp only [List.getD]
  rw [List.getElem?_append_left hi, h]
  rfl
section
variable {w : World} {b : Nat} {A : List Pair} {S : Ss}
theorem ModAt.ext {w' : World} {X : List Nat} (h : ModAt w b A S) (he : Ext X w w') (hb : b ∉ X) : ModAt w' b A S := MB.ext h he hb
theorem ModAt.ext0 {w' : World} (h : ModAt w b A S) (he : Ext [] w w') : ModAt w' b A S := MB.ext0 h he
theorem ModAt.lt (h : ModAt w b A S) : b < w.heap.size := MB.lt h
theorem modNew_ok {R : Option Addr → World → Prop} (hR : ∀ x w', x = w.heap.size → ModAt w' x [] (fun _ => zeroS) → Ext [] w w' → R (some ⟨x, 0, none⟩) w') : kvm_New.Call w R := by
  apply kvm_New.sound
  unfold kvm_New.B0
  exact New.mk fun x w1 hx hs ho he => hR x w1 hx ⟨ho, rfl⟩ he
theorem modLen_ok {R : Int → World → Prop} (h : ModAt w b A S) (hR : R (A.length : Int) w) : kvm_KV_Len.Call (some ⟨b, 0, none⟩) w R := by
  apply kvm_KV_Len.sound
  unfold kvm_KV_Len.B0
  exact Pn.mk (MB.ldN h hR)
theorem modKeyAt_ok {i : Int} {R : ByteArray → World → Prop} (h : ModAt w b A S) (hl : A.length ≤ 4) (hR : R (keyA A i) w) : kvm_KV_KeyAt.Call (some ⟨b, 0, none⟩) i w R := by
  apply kvm_KV_KeyAt.sound
  unfold kvm_KV_KeyAt.B0
  have bad : ¬ (0 ≤ i ∧ i < A.length) → kvm_KV_KeyAt.B1 (some ⟨b, 0, none⟩) i true w R := fun hn => by
    unfold kvm_KV_KeyAt.B1
    unfold keyA at hR
    rw [if_neg hn] at hR
    exact Bm.pos rfl hR
  refine Bm.ite (fun hlt => bad (by omega)) fun hge => Pn.mk (MB.ldN h ?_)
  by_cases hlt : i ≥ (A.length : Int)
  · rw [decide_eq_true hlt]
    exact bad (by omega)
  rw [decide_eq_false hlt]
  unfold kvm_KV_KeyAt.B1
  obtain ⟨j, rfl⟩ : ∃ j : Nat, i = j := ⟨i.toNat, by omega⟩
  obtain ⟨q, hq⟩ : ∃ q, A[j]? = some q := ⟨_, List.getElem?_eq_getElem (by omega)⟩
  refine Bm.neg rfl (Pn.mk ⟨⟨by omega, by omega⟩, MB.ldK h (by omega) ?_⟩)
  rw [padA_at hq]
  unfold keyA at hR
  rw [if_pos ⟨by omega, by omega⟩, Int.toNat_natCast] at hR
  simp only [List.getD, hq, Option.getD_some] at hR
  exact hR
theorem modFind_ok {k : ByteArray} {R : Int → World → Prop} (h : ModAt w b A S) (hl : A.length ≤ 4) (hR : (∀ (i : Nat) (v : ByteArray), A[i]? = some (k, v) → R (i : Int) w) ∧ ((∀ x ∈ A, x.1 ≠ k) → R (-1) w)) : kvm_KV_find.Call (some ⟨b, 0, none⟩) k w R := by
  apply kvm_KV_find.sound
  unfold kvm_KV_find.B0
  refine ⟨fun m k' key i w' => ∃ n : Nat, n ≤ A.length ∧ m = A.length - n ∧ some ⟨b, 0, none⟩ = k' ∧ k = key ∧ i = (n : Int) ∧ w = w' ∧ ∀ j q, j < n → A[j]? = some q → q.1 ≠ k, _, ⟨0, Nat.zero_le _, rfl, rfl, rfl, rfl, rfl, fun j q hj => by omega⟩, ?_⟩
  rintro m k' key i w' ⟨n, hn, rfl, rfl, rfl, rfl, rfl, hb⟩
  unfold kvm_KV_find.L1b
  refine Pn.mk (MB.ldN h (Bm.ite (fun hlt => Pn.mk ⟨⟨by omega, by omega⟩, MB.ldK h (by omega) ?_⟩) fun hge => hR.2 fun x hx => ?_))
  · obtain ⟨q, hq⟩ : ∃ q, A[n]? = some q := ⟨_, List.getElem?_eq_getElem (by omega)⟩
    rw [padA_at hq, str_beq]
    by_cases e : q.1 = k
    · refine Bm.pos (decide_eq_true e) (hR.1 n q.2 ?_)
      rw [hq, ← e]
    · refine Bm.neg (decide_eq_false e) ⟨_, ?_, n + 1, by omega, rfl, rfl, rfl, by rw [w64 (by omega) (by omega)]; omega, rfl, fun j r hj hr => ?_⟩
      · omega
      · by_cases ej : j = n
        · subst ej
          rw [hq] at hr
          cases hr
          exact e
        · exact hb j r (by omega) hr
  · obtain ⟨j, hj⟩ := List.getElem?_of_mem hx
    have := (List.getElem?_eq_some_iff.1 hj).1
    exact hb j x (by omega) hj
theorem modVal_ok {k : ByteArray} {R : ByteArray → Bool → World → Prop} (h : ModAt w b A S) (hk : KvOk A S) (hR : R ((lookA A k).getD estr) (lookA A k).isSome w) : kvm_KV_Val.Call (some ⟨b, 0, none⟩) k w R := by
  apply kvm_KV_Val.sound
  unfold kvm_KV_Val.B0
  have hl := hk.le
  refine Bm.ite (fun hlen => ?_) fun hlen => modFind_ok h hl ⟨fun i v hq => ?_, fun ha => ?_⟩
  · have : lookA A k = none := lookA_none fun x hx e => by
      have := (hk.a.2 x hx).2.1
      rw [e] at this
      omega
    rw [this] at hR
    exact hR
  · have hi := (List.getElem?_eq_some_iff.1 hq).1
    refine Bm.neg (decide_eq_false (by omega)) (Pn.mk ⟨⟨by omega, by omega⟩, MB.ldV h (by omega) ?_⟩)
    rw [padA_at hq]
    have := lookA_some hk.a (List.mem_of_getElem? hq)
    simp only at this
    rw [this] at hR
    exact hR
  · refine Bm.pos (by decide) ?_
    rw [lookA_none ha] at hR
    exact hR
theorem modSess_ok {c : Int} {R : Int → Int → ByteArray → World → Prop} (h : ModAt w b A S)
    (hR : ∀ w', Ext [] w w' → R (if 0 ≤ c ∧ c < 3 then (S c.toNat).1 else 0) (if 0 ≤ c ∧ c < 3 then (S c.toNat).2.1 else 0) (if 0 ≤ c ∧ c < 3 then (S c.toNat).2.2 else estr) w') : kvm_KV_Sess.Call (some ⟨b, 0, none⟩) c w R := by
  apply kvm_KV_Sess.sound
  unfold kvm_KV_Sess.B0
  refine New.mk fun t5 w1 ht5 hs1 ho1 he1 => ?_
  have ha : AnsB w1 t5 := ⟨_, _, ho1⟩
  have bad : ¬ (0 ≤ c ∧ c < 3) → kvm_KV_Sess.B1 (some ⟨b, 0, none⟩) c t5 true w1 R := fun hn => by
    unfold kvm_KV_Sess.B1
    refine Bm.pos rfl (AnsB.ret (K := fun x s w => R 0 x s w) ha fun w2 he2 => ?_)
    have := hR w2 (up1 he1 he2 (by omega))
    rw [if_neg hn, if_neg hn, if_neg hn] at this
    exact this
  refine Bm.ite (fun hlt => bad (by omega)) fun hge => ?_
  by_cases h3 : c ≥ 3
  · rw [decide_eq_true h3]
    exact bad (by omega)
  rw [decide_eq_false h3]
  unfold kvm_KV_Sess.B1
  obtain ⟨i, rfl⟩ : ∃ i : Nat, c = i := ⟨c.toNat, by omega⟩
  have hi : i < 3 := by omega
  refine Bm.neg rfl (Pn.mk ⟨⟨by omega, by omega⟩, (MB.drew (h.ext0 he1)).ldQ hi (Pn.mk ⟨⟨by omega, by omega⟩, (MB.drew (h.ext0 he1)).ldE hi ((MB.drew (h.ext0 he1)).ldS hi ?_)⟩)⟩)
  refine AnsB.ret (K := fun x s w => R (S i).1 x s w) (ha.ext0 (Ext.drew _ _)) fun w5 he5 => ?_
  have := hR w5 (up1 (he1.trans (Ext.drew _ _)) he5 (by omega))
  rw [if_pos ⟨by omega, by omega⟩, if_pos ⟨by omega, by omega⟩, if_pos ⟨by omega, by omega⟩, Int.toNat_natCast] at this
  exact this
end
end Go.Proofs.Qxb6500430aGreat.Kv
