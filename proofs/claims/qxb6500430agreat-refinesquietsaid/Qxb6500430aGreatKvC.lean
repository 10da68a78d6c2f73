/-
  kv: keyOf, valOf, keyIs; the table on the heap; find, room.
-/
import Derived.Test.Qxb6500430aGreatKvB
set_option linter.unusedVariables false
open Go.Vc
namespace Go.Proofs.Qxb6500430aGreat.Kv

theorem keyOf_ok {w : World} {p : Pair} (hp : PairOk p) {R : ByteArray → World → Prop} (hR : ∀ w', Ext [] w w' → R p.1 w') : kv_keyOf.Call (ci (some (some p)) 0) (ci (some (some p)) 1) (ci (some (some p)) 2) (ci (some (some p)) 3) (ci (some (some p)) 4) (ci (some (some p)) 5) (ci (some (some p)) 6) (ci (some (some p)) 7) w R := by
  apply kv_keyOf.sound
  unfold kv_keyOf.B0
  have hsz : p.1.size ≤ 2 := hp.2.1
  refine New.mk fun c w1 hc hs1 ho1 he1 => Buf.make (by omega) (by omega) fun r w2 hr hs2 hb2 he2 => ?_
  have ho2 : Own w2 c (cellVs (some (some p))).toArray T_kv_cell := he2.own ho1 (by simp)
  refine ⟨fun m c' b l cp i w' => ∃ n : Nat, n ≤ p.1.size ∧ m = p.1.size - n ∧ c = c' ∧ i = (n : Int) ∧ Own w' c (cellVs (some (some p))).toArray T_kv_cell ∧ Buf w' b l cp ((strB p.1).take n) ∧ (∀ k ∈ rowBlk b, c < k) ∧ Ext [] w w', _,
    ⟨0, Nat.zero_le _, rfl, rfl, rfl, ho2, hb2, fun k hk => by simp [rowBlk] at hk; omega, he1.trans he2⟩, ?_⟩
  rintro m c' b l cp i w' ⟨n, hn, rfl, rfl, rfl, ho, hb, hlt, he⟩
  unfold kv_keyOf.L1b
  refine LdI.mk ho rfl ?_
  show Bm (decide ((n : Int) < (p.1.size : Int))) _ _
  refine Bm.ite (fun h => ?_) fun h => ?_
  · unfold kv_keyOf.B1
    rw [decide_eq_true (show ((n : Int)) < 2 by omega)]
    refine Bm.pos rfl ⟨⟨by omega, by omega⟩, ?_⟩
    rw [add_mk, Int.toNat_natCast, Nat.mul_one]
    have hcell : (cellVs (some (some p))).toArray[2 + n]? = some (.int .u8 (byteAt p.1 (n : Int))) := by
      have hn' : n < 2 := by omega
      match n, hn' with
      | 0, _ | 1, _ => rfl
    refine LdI.mk ho hcell (Buf.app [byteAt p.1 (n : Int)] hb (IsB.one (byteAt_bd _ _)) (by
      have := hb.len
      rw [List.length_take]
      simp
      omega) fun b' c2 w3 hb3 he3 hg3 => ?_)
    rw [take_strB_succ (by omega)] at hb3
    have hge := he.size
    refine ⟨_, ?_, n + 1, by omega, rfl, rfl, by rw [w64 (by omega) (by omega)]; omega, he3.own ho (fun hk => by have := hlt c hk; omega), hb3, fun k hk => ?_, he.trans' he3 fun k hk hl => by have := hlt k hk; omega⟩
    · omega
    · rcases hg3 k hk with h1 | h1
      · exact hlt k h1
      · have := ho.lt; omega
  · unfold kv_keyOf.B1
    refine Bm.neg rfl (hb.str ?_)
    have e : (strB p.1).take n = strB p.1 := List.take_of_length_le (by rw [strB_length]; omega)
    rw [e, bStr_strB]
    exact hR w' he
theorem valOf_ok {w : World} {p : Pair} (hp : PairOk p) {R : ByteArray → World → Prop} (hR : ∀ w', Ext [] w w' → R p.2 w') : kv_valOf.Call (ci (some (some p)) 0) (ci (some (some p)) 1) (ci (some (some p)) 2) (ci (some (some p)) 3) (ci (some (some p)) 4) (ci (some (some p)) 5) (ci (some (some p)) 6) (ci (some (some p)) 7) w R := by
  apply kv_valOf.sound
  unfold kv_valOf.B0
  have hsz : p.2.size ≤ 3 := hp.2.2
  refine New.mk fun c w1 hc hs1 ho1 he1 => Buf.make (by omega) (by omega) fun r w2 hr hs2 hb2 he2 => ?_
  have ho2 : Own w2 c (cellVs (some (some p))).toArray T_kv_cell := he2.own ho1 (by simp)
  refine ⟨fun m c' b l cp i w' => ∃ n : Nat, n ≤ p.2.size ∧ m = p.2.size - n ∧ c = c' ∧ i = (n : Int) ∧ Own w' c (cellVs (some (some p))).toArray T_kv_cell ∧ Buf w' b l cp ((strB p.2).take n) ∧ (∀ k ∈ rowBlk b, c < k) ∧ Ext [] w w', _,
    ⟨0, Nat.zero_le _, rfl, rfl, rfl, ho2, hb2, fun k hk => by simp [rowBlk] at hk; omega, he1.trans he2⟩, ?_⟩
  rintro m c' b l cp i w' ⟨n, hn, rfl, rfl, rfl, ho, hb, hlt, he⟩
  unfold kv_valOf.L1b
  refine LdI.mk ho rfl ?_
  show Bm (decide ((n : Int) < (p.2.size : Int))) _ _
  refine Bm.ite (fun h => ?_) fun h => ?_
  · unfold kv_valOf.B1
    rw [decide_eq_true (show ((n : Int)) < 3 by omega)]
    refine Bm.pos rfl ⟨⟨by omega, by omega⟩, ?_⟩
    rw [add_mk, Int.toNat_natCast, Nat.mul_one]
    have hcell : (cellVs (some (some p))).toArray[5 + n]? = some (.int .u8 (byteAt p.2 (n : Int))) := by
      have hn' : n < 3 := by omega
      match n, hn' with
      | 0, _ | 1, _ | 2, _ => rfl
    refine LdI.mk ho hcell (Buf.app [byteAt p.2 (n : Int)] hb (IsB.one (byteAt_bd _ _)) (by
      have := hb.len
      rw [List.length_take]
      simp
      omega) fun b' c2 w3 hb3 he3 hg3 => ?_)
    rw [take_strB_succ (by omega)] at hb3
    have hge := he.size
    refine ⟨_, ?_, n + 1, by omega, rfl, rfl, by rw [w64 (by omega) (by omega)]; omega, he3.own ho (fun hk => by have := hlt c hk; omega), hb3, fun k hk => ?_, he.trans' he3 fun k hk hl => by have := hlt k hk; omega⟩
    · omega
    · rcases hg3 k hk with h1 | h1
      · exact hlt k h1
      · have := ho.lt; omega
  · unfold kv_valOf.B1
    refine Bm.neg rfl (hb.str ?_)
    have e : (strB p.2).take n = strB p.2 := List.take_of_length_le (by rw [strB_length]; omega)
    rw [e, bStr_strB]
    exact hR w' he

theorem keyIs_ok {w : World} {p : Pair} {k : ByteArray} (hp : PairOk p) {R : Bool → World → Prop} (hR : ∀ w', Ext [] w w' → R (decide (p.1 = k)) w') : kv_keyIs.Call (ci (some (some p)) 0) (ci (some (some p)) 1) (ci (some (some p)) 2) (ci (some (some p)) 3) (ci (some (some p)) 4) (ci (some (some p)) 5) (ci (some (some p)) 6) (ci (some (some p)) 7) k w R := by
  apply kv_keyIs.sound
  unfold kv_keyIs.B0
  have hsz : p.1.size ≤ 2 := hp.2.1
  refine New.mk fun c w1 hc hs1 ho1 he1 => ?_
  have ho2 : Own w1 c (cellVs (some (some p))).toArray T_kv_cell := ho1
  refine LdI.mk ho2 rfl ?_
  show Bm ((p.1.size : Int) != (k.size : Int)) _ _
  refine Bm.mk (fun hne => ?_) fun heq => ?_
  · unfold kv_keyIs.B1
    refine Bm.pos rfl ?_
    have : decide (p.1 = k) = false := decide_eq_false fun e => by subst e; simp at hne
    rw [← this]
    exact hR w1 he1
  have hs : p.1.size = k.size := by
    have : (p.1.size : Int) = (k.size : Int) := by simpa using heq
    omega
  refine LdI.mk ho2 rfl ?_
  show kv_keyIs.B1 k c (decide ((p.1.size : Int) > 2)) w1 R
  rw [decide_eq_false (by omega)]
  unfold kv_keyIs.B1
  refine Bm.neg rfl ⟨fun m key c' i w' => ∃ n : Nat, n ≤ p.1.size ∧ m = p.1.size - n ∧ k = key ∧ c = c' ∧ i = (n : Int) ∧ Own w' c (cellVs (some (some p))).toArray T_kv_cell ∧ (strB p.1).take n = (strB k).take n ∧ Ext [] w w', _,
    ⟨0, Nat.zero_le _, rfl, rfl, rfl, rfl, ho2, rfl, he1⟩, ?_⟩
  rintro m key c' i w' ⟨n, hn, rfl, rfl, rfl, rfl, ho, heq2, he⟩
  unfold kv_keyIs.L1b
  refine LdI.mk ho rfl ?_
  show Bm (decide ((n : Int) < (p.1.size : Int))) _ _
  refine Bm.ite (fun h => ⟨⟨by omega, by omega⟩, ?_⟩) fun h => ?_
  · rw [add_mk, Int.toNat_natCast, Nat.mul_one]
    have hcell : (cellVs (some (some p))).toArray[2 + n]? = some (.int .u8 (byteAt p.1 (n : Int))) := by
      have hn' : n < 2 := by omega
      match n, hn' with
      | 0, _ | 1, _ => rfl
    refine LdI.mk ho.drew hcell ⟨⟨by omega, by omega⟩, Bm.mk (fun hne => ?_) fun heq => ?_⟩
    · have : decide (p.1 = k) = false := decide_eq_false fun e => by subst e; simp at hne
      rw [← this]
      exact hR _ (he.trans (Ext.drew _ _))
    · have e : byteAt p.1 (n : Int) = byteAt k (n : Int) := by simpa using heq
      refine ⟨_, ?_, n + 1, by omega, rfl, rfl, rfl, by rw [w64 (by omega) (by omega)]; omega, ho.drew, ?_, he.trans (Ext.drew _ _)⟩
      · omega
      · rw [← take_strB_succ (by omega), ← take_strB_succ (by omega), heq2, e]
  · have e : p.1 = k := by
      apply str_inj
      rw [List.take_of_length_le (by rw [strB_length]; omega), List.take_of_length_le (by rw [strB_length]; omega)] at heq2
      exact heq2
    have := hR w' he
    rw [decide_eq_true e] at this
    exact this

/-! ### the table -/
def tabF (rest : Nat → Value) (T : Tb) (l m : Int) (o : Nat) : Value := if o < 64 then cv (T (o / 8)) (o % 8) else if o = 64 then .int .i64 l else if o = 65 then .int .i64 m else rest o
/-- A table at the head of block b (n cells, of type t). -/
def Tab (w : World) (b n : Nat) (t : TypeId) (rest : Nat → Value) (T : Tb) (l m : Int) : Prop := Own w b (fnArr n (tabF rest T l m)) t ∧ 66 ≤ n
theorem tabF_cell {rest : Nat → Value} {T : Tb} {l m : Int} {i j : Nat} (hi : i < 8) (hj : j < 8) : tabF rest T l m (i * 8 + j) = cv (T i) j := by
  unfold tabF
  rw [if_pos (by omega), show (i * 8 + j) / 8 = i by omega, show (i * 8 + j) % 8 = j by omega]
theorem tabF_put {rest : Nat → Value} {T : Tb} {l m : Int} {i o : Nat} {c : Cel} (hi : i < 8) : (if i * 8 ≤ o ∧ o < i * 8 + 8 then cv c (o - i * 8) else tabF rest T l m o) = tabF rest (upd T i c) l m o := by
  unfold tabF
  by_cases h : i * 8 ≤ o ∧ o < i * 8 + 8
  · rw [if_pos h, if_pos (by omega), show o / 8 = i by omega, upd_eq, show o % 8 = o - i * 8 by omega]
  · rw [if_neg h]
    by_cases h64 : o < 64
    · rw [if_pos h64, if_pos h64, upd_ne (by omega)]
    · rw [if_neg h64, if_neg h64]
section
variable {w : World} {b n : Nat} {t : TypeId} {rest : Nat → Value} {T : Tb} {l m : Int}
theorem Tab.ext {w' : World} {S : List Nat} (h : Tab w b n t rest T l m) (he : Ext S w w') (hb : b ∉ S) : Tab w' b n t rest T l m := ⟨he.own h.1 hb, h.2⟩
theorem Tab.ext0 {w' : World} (h : Tab w b n t rest T l m) (he : Ext [] w w') : Tab w' b n t rest T l m := h.ext he (by simp)
theorem Tab.drew (h : Tab w b n t rest T l m) : Tab w.drew b n t rest T l m := ⟨h.1.drew, h.2⟩
theorem Tab.lt (h : Tab w b n t rest T l m) : b < w.heap.size := h.1.lt
/-- A cell's state. -/
theorem Tab.ldS {i : Nat} {K : Int → Prop} (h : Tab w b n t rest T l m) (hi : i < 8) (hk : K (ci (T i) 0)) : LdI .i64 (Addr.add ⟨b, 0, none⟩ ((i : Int).toNat * 8)) w K := by
  rw [add_mk, Int.toNat_natCast, Nat.zero_add]
  have := h.2
  exact LdI.fn h.1 (by omega) (by rw [show i * 8 = i * 8 + 0 by omega, tabF_cell hi (by omega)]; rfl) hk
theorem Tab.ld {i : Nat} {K : Int → Int → Int → Int → Int → Int → Int → Int → Prop} (h : Tab w b n t rest T l m) (hi : i < 8) (hk : K (ci (T i) 0) (ci (T i) 1) (ci (T i) 2) (ci (T i) 3) (ci (T i) 4) (ci (T i) 5) (ci (T i) 6) (ci (T i) 7)) :
    LdI .i64 (Addr.add ⟨b, 0, none⟩ ((i : Int).toNat * 8)) w fun x0 => LdI .i64 ((Addr.add ⟨b, 0, none⟩ ((i : Int).toNat * 8)).add 1) w fun x1 => LdI .u8 ((Addr.add ⟨b, 0, none⟩ ((i : Int).toNat * 8)).add 2) w fun x2 => LdI .u8 ((Addr.add ⟨b, 0, none⟩ ((i : Int).toNat * 8)).add 3) w fun x3 => LdI .i64 ((Addr.add ⟨b, 0, none⟩ ((i : Int).toNat * 8)).add 4) w fun x4 => LdI .u8 ((Addr.add ⟨b, 0, none⟩ ((i : Int).toNat * 8)).add 5) w fun x5 => LdI .u8 ((Addr.add ⟨b, 0, none⟩ ((i : Int).toNat * 8)).add 6) w fun x6 => LdI .u8 ((Addr.add ⟨b, 0, none⟩ ((i : Int).toNat * 8)).add 7) w fun x7 => K x0 x1 x2 x3 x4 x5 x6 x7 := by
  have := h.2
  exact ld8 (o := i * 8) h.1 (by rw [add_mk, Int.toNat_natCast, Nat.zero_add]) (by omega) (fun j hj => tabF_cell hi hj) hk
theorem Tab.st {i : Nat} {c : Cel} {K : World → Prop} (h : Tab w b n t rest T l m) (hi : i < 8) (hk : ∀ w', w'.heap.size = w.heap.size → Tab w' b n t rest (upd T i c) l m → Ext [b] w w' → K w') : Sts (cellVs c) (Addr.add ⟨b, 0, none⟩ ((i : Int).toNat * 8)) 0 w K := by
  have := h.2
  exact st8 (o := i * 8) h.1 (by rw [add_mk, Int.toNat_natCast, Nat.zero_add]) (by omega) (fun j hj => tabF_put hi) fun w' hs ho he => hk w' hs ⟨ho, h.2⟩ he
theorem Tab.ldL {K : Int → Prop} (h : Tab w b n t rest T l m) (hk : K l) : LdI .i64 (Addr.add ⟨b, 0, none⟩ 64) w K := by
  rw [add_mk]
  exact LdI.fn h.1 (by have := h.2; omega) rfl hk
theorem Tab.ldM {K : Int → Prop} (h : Tab w b n t rest T l m) (hk : K m) : LdI .i64 (Addr.add ⟨b, 0, none⟩ 65) w K := by
  rw [add_mk]
  exact LdI.fn h.1 (by have := h.2; omega) rfl hk
theorem Tab.stL {x : Int} {K : World → Prop} (h : Tab w b n t rest T l m) (hk : ∀ w', w'.heap.size = w.heap.size → Tab w' b n t rest T x m → Ext [b] w w' → K w') : Sts [.int .i64 x] (Addr.add ⟨b, 0, none⟩ 64) 0 w K := by
  have := h.2
  rw [add_mk]
  refine Sts.fn (g := tabF rest T x m) h.1 (by simp; omega) rfl (fun j hj => ?_) fun w' hs ho he => hk w' hs ⟨ho, h.2⟩ he
  unfold fnPut tabF
  by_cases e : j = 64
  · subst e; rfl
  · rw [if_neg (by simp; omega)]
    by_cases h64 : j < 64
    · rw [if_pos h64, if_pos h64]
    · rw [if_neg h64, if_neg h64, if_neg e, if_neg e]
theorem Tab.stM {x : Int} {K : World → Prop} (h : Tab w b n t rest T l m) (hk : ∀ w', w'.heap.size = w.heap.size → Tab w' b n t rest T l x → Ext [b] w w' → K w') : Sts [.int .i64 x] (Addr.add ⟨b, 0, none⟩ 65) 0 w K := by
  have := h.2
  rw [add_mk]
  refine Sts.fn (g := tabF rest T l x) h.1 (by simp; omega) rfl (fun j hj => ?_) fun w' hs ho he => hk w' hs ⟨ho, h.2⟩ he
  unfold fnPut tabF
  by_cases e : j = 65
  · subst e; rfl
  · rw [if_neg (by simp; omega)]
    by_cases h64 : j < 64
    · rw [if_pos h64, if_pos h64]
    · rw [if_neg h64, if_neg h64, if_neg e, if_neg e]
theorem ci_state (c : Cel) : ci c 0 = 0 ∧ c = none ∨ ci c 0 = 2 ∧ c = some none ∨ ∃ p, ci c 0 = 1 ∧ c = some (some p) := by
  rcases c with _ | _ | p
  · exact .inl ⟨rfl, rfl⟩
  · exact .inr (.inl ⟨rfl, rfl⟩)
  · exact .inr (.inr ⟨p, rfl, rfl⟩)
/-- The live cell that holds the key, or -1. -/
theorem find_ok {k : ByteArray} {R : Int → World → Prop} (h : Tab w b n t rest T l m) (hT : TInv T) (hk : k.size ≤ 281474976710656)
    (hR : ∀ w', Ext [] w w' → (∀ i p, i < 8 → T i = some (some p) → p.1 = k → R (i : Int) w') ∧ (Absent T k → R (-1) w')) : kv_table_find.Call (some ⟨b, 0, none⟩) k w R := by
  apply kv_table_find.sound
  unfold kv_table_find.B0
  refine hash_ok hk ⟨fun mm tt key i d w' => ∃ e : Nat, e ≤ 8 ∧ mm = 8 - e ∧ some ⟨b, 0, none⟩ = tt ∧ k = key ∧ i = (pos k e : Int) ∧ d = (e : Int) ∧ (∀ x, x < e → ∀ p, T (pos k x) = some (some p) → p.1 ≠ k) ∧ Ext [] w w', _,
    ⟨0, by omega, rfl, rfl, rfl, by rw [pos_zero], rfl, fun x hx => by omega, Ext.refl _ _⟩, ?_⟩
  rintro mm tt key i d w' ⟨e, he8, rfl, rfl, rfl, rfl, rfl, hb, he⟩
  unfold kv_table_find.L1b
  refine Bm.ite (fun hlt => Pn.mk ⟨⟨by omega, by have := pos_lt k e; omega⟩, ?_⟩) fun hge => (hR w' he).2 (hT.absent hb (.inr (by omega)))
  have ht := h.ext0 he
  refine ht.ld (pos_lt k e) (NewSet.mk rfl rfl fun c w1 hc hs1 ho1 he1 => ?_)
  have ho : Own w1 c (cellVs (T (pos k e))).toArray T_kv_cell := ho1
  have he' := he.trans he1
  have go : (∀ p, T (pos k e) = some (some p) → p.1 ≠ k) → ∀ w'', Ext [] w w'' → kv_table_find.B1 (some ⟨b, 0, none⟩) k (pos k e : Int) (e : Int) w'' (fun tt key i d w' => ∃ m', m' < 8 - e ∧ ∃ e : Nat, e ≤ 8 ∧ m' = 8 - e ∧ some ⟨b, 0, none⟩ = tt ∧ k = key ∧ i = (pos k e : Int) ∧ d = (e : Int) ∧ (∀ x, x < e → ∀ p, T (pos k x) = some (some p) → p.1 ≠ k) ∧ Ext [] w w') R := by
    intro hne w'' hx
    unfold kv_table_find.B1
    refine next_ok (pos_lt k e) ⟨8 - (e + 1), by omega, e + 1, by omega, rfl, rfl, rfl, by rw [pos_succ], by rw [w64 (by omega) (by omega)]; omega, fun x hx' p hp => ?_, hx⟩
    by_cases c : x = e
    · subst c; exact hne p hp
    · exact hb x (by omega) p hp
  refine LdI.mk ho rfl ?_
  show Bm (ci (T (pos k e)) 0 == 0) _ _
  rcases ci_state (T (pos k e)) with ⟨h0, hc⟩ | ⟨h0, hc⟩ | ⟨p, h0, hc⟩
  · rw [h0]
    exact Bm.pos rfl ((hR w1 he').2 (hT.absent hb (.inl hc)))
  · rw [h0]
    refine Bm.neg rfl (LdI.mk ho rfl ?_)
    show Bm (ci (T (pos k e)) 0 == 1) _ _
    rw [h0]
    exact Bm.neg rfl (go (fun p hp => by rw [hc] at hp; cases hp) w1 he')
  · rw [h0]
    refine Bm.neg rfl (LdI.mk ho rfl ?_)
    show Bm (ci (T (pos k e)) 0 == 1) _ _
    rw [h0]
    refine Bm.pos rfl (ld8b ho ?_)
    rw [hc]
    refine keyIs_ok (hT.ok _ (pos_lt k e) p hc) fun w2 he2 => ?_
    by_cases hpk : p.1 = k
    · rw [decide_eq_true hpk]
      exact Bm.pos rfl ((hR w2 (he'.trans he2)).1 _ p (pos_lt k e) hc hpk)
    · rw [decide_eq_false hpk]
      exact Bm.neg rfl (go (fun q hq => by rw [hc] at hq; cases hq; exact hpk) w2 (he'.trans he2))
/-- The first cell on the key's walk that is not live. -/
theorem room_ok {k : ByteArray} {R : Int → World → Prop} (h : Tab w b n t rest T l m) (hk : k.size ≤ 281474976710656) (hl : (Lv T).length ≤ 7)
    (hR : ∀ d, d < 8 → lv (T (pos k d)) = [] → (∀ e, e < d → T (pos k e) ≠ none) → R (pos k d : Int) w) : kv_table_room.Call (some ⟨b, 0, none⟩) k w R := by
  apply kv_table_room.sound
  unfold kv_table_room.B0
  refine hash_ok hk ⟨fun mm tt i d w' => ∃ e : Nat, e ≤ 8 ∧ mm = 8 - e ∧ some ⟨b, 0, none⟩ = tt ∧ i = (pos k e : Int) ∧ d = (e : Int) ∧ (∀ x, x < e → lv (T (pos k x)) ≠ []) ∧ w = w', _,
    ⟨0, by omega, rfl, rfl, by rw [pos_zero], rfl, fun x hx => by omega, rfl⟩, ?_⟩
  rintro mm tt i d w' ⟨e, he8, rfl, rfl, rfl, rfl, hb, rfl⟩
  have he : e < 8 := by
    apply Classical.byContradiction
    intro hc
    obtain ⟨i, hi, hf⟩ := some_free hl
    obtain ⟨d, hd, rfl⟩ := pos_all k hi
    exact hb d (by omega) hf
  unfold kv_table_room.L1b
  rw [decide_eq_true (show ((e : Int)) < 8 by omega)]
  refine Bm.pos rfl (Pn.mk ⟨⟨by omega, by have := pos_lt k e; omega⟩, h.ldS (pos_lt k e) ?_⟩)
  have fin : lv (T (pos k e)) = [] → R (pos k e : Int) w := fun hf => hR e he hf fun x hx hc => hb x hx (by rw [hc]; rfl)
  unfold kv_table_room.B1
  rcases ci_state (T (pos k e)) with ⟨h0, hc⟩ | ⟨h0, hc⟩ | ⟨p, h0, hc⟩
  · rw [h0]
    exact Bm.neg rfl (fin (by rw [hc]; rfl))
  · rw [h0]
    exact Bm.neg rfl (fin (by rw [hc]; rfl))
  · rw [h0]
    refine Bm.pos rfl (next_ok (pos_lt k e) ⟨8 - (e + 1), by omega, e + 1, by omega, rfl, rfl, by rw [pos_succ], by rw [w64 (by omega) (by omega)]; omega, fun x hx => ?_, rfl⟩)
    by_cases c : x = e
    · subst c; rw [hc]; simp [lv]
    · exact hb x (by omega)
end
end Go.Proofs.Qxb6500430aGreat.Kv
