/-
  kv: the plain table: cells, reach, what putting, turning and dropping do.
-/
import Derived.Test.Qxb6500430aGreatStr
import Derived.Test.Qxb6500430aGreatVcH
set_option linter.unusedVariables false
open Go.Vc
namespace Go.Proofs.Qxb6500430aGreat.Kv

abbrev Pair := ByteArray × ByteArray
/-- none: empty; some none: a tombstone; some (some p): live. -/
abbrev Cel := Option (Option Pair)
abbrev Tb := Nat → Cel
def kB (p : Pair) : Nat := rk p.1
def PairOk (p : Pair) : Prop := 1 ≤ p.1.size ∧ p.1.size ≤ 2 ∧ p.2.size ≤ 3
theorem kB_inj {p q : Pair} (hp : PairOk p) (hq : PairOk q) (h : kB p = kB q) : p.1 = q.1 := rk_inj hp.2.1 hq.2.1 h
def lv : Cel → List Pair
  | some (some p) => [p]
  | _ => []
def tm : Cel → List Unit
  | some none => [()]
  | _ => []
def upd (T : Tb) (i : Nat) (c : Cel) : Tb := fun j => if j = i then c else T j
theorem upd_eq (T : Tb) (i : Nat) (c : Cel) : upd T i c i = c := by simp [upd]
theorem upd_ne {T : Tb} {i j : Nat} {c : Cel} (h : j ≠ i) : upd T i c j = T j := by simp [upd, h]
def Lvi (T : Tb) (n : Nat) : List Pair := (List.range n).flatMap fun i => lv (T i)
def Lv (T : Tb) : List Pair := Lvi T 8
def tmi (T : Tb) (n : Nat) : List Unit := (List.range n).flatMap fun i => tm (T i)
def tombs (T : Tb) : Nat := (tmi T 8).length
theorem Lvi_succ (T : Tb) (n : Nat) : Lvi T (n + 1) = Lvi T n ++ lv (T n) := by simp [Lvi, List.range_succ]
theorem tmi_succ (T : Tb) (n : Nat) : tmi T (n + 1) = tmi T n ++ tm (T n) := by simp [tmi, List.range_succ]
theorem Lvi_le {T : Tb} : ∀ {n m : Nat}, n ≤ m → (Lvi T n).length ≤ (Lvi T m).length
  | n, 0, h => by
    have : n = 0 := by omega
    subst this
    exact Nat.le_refl _
  | n, m + 1, h => by
    by_cases e : n = m + 1
    · subst e; exact Nat.le_refl _
    · have := Lvi_le (T := T) (n := n) (m := m) (by omega)
      rw [Lvi_succ, List.length_append]
      omega
theorem flat_congr {α β : Type} {f g : α → List β} : ∀ {L : List α}, (∀ x ∈ L, f x = g x) → L.flatMap f = L.flatMap g
  | [], _ => rfl
  | a :: L, h => by rw [List.flatMap_cons, List.flatMap_cons, h a (List.mem_cons_self ..), flat_congr fun x hx => h x (List.mem_cons_of_mem _ hx)]
theorem perm_upd {β : Type} (g : Cel → List β) (T : Tb) (i : Nat) (c : Cel) : ∀ L : List Nat, L.Nodup → i ∈ L → (g (T i) ++ L.flatMap fun j => g (upd T i c j)).Perm (g c ++ L.flatMap fun j => g (T j))
  | [], _, h => by cases h
  | a :: L, hn, h => by
    have hn' := List.nodup_cons.1 hn
    rw [List.flatMap_cons, List.flatMap_cons]
    by_cases e : a = i
    · subst e
      rw [upd_eq]
      have hL : (L.flatMap fun j => g (upd T a c j)) = L.flatMap fun j => g (T j) := by
        apply flat_congr
        intro j hj
        rw [upd_ne (show j ≠ a from fun e => hn'.1 (e ▸ hj))]
      rw [hL, ← List.append_assoc, ← List.append_assoc]
      exact List.Perm.append_right _ List.perm_append_comm
    · rw [upd_ne e]
      have hi : i ∈ L := by
        rcases List.mem_cons.1 h with h | h
        · exact absurd h.symm e
        · exact h
      have ih := perm_upd g T i c L hn'.2 hi
      refine (List.perm_append_comm_assoc ..).trans (((List.Perm.append_left _ ih)).trans (List.perm_append_comm_assoc ..))
theorem Lv_upd (T : Tb) {i : Nat} (hi : i < 8) (c : Cel) : (lv (T i) ++ Lv (upd T i c)).Perm (lv c ++ Lv T) := perm_upd lv T i c (List.range 8) List.nodup_range (List.mem_range.2 hi)
theorem tombs_upd (T : Tb) {i : Nat} (hi : i < 8) (c : Cel) : (tm (T i)).length + tombs (upd T i c) = (tm c).length + tombs T := by
  have := (perm_upd tm T i c (List.range 8) List.nodup_range (List.mem_range.2 hi)).length_eq
  rw [List.length_append, List.length_append] at this
  exact this
theorem mem_Lvi {T : Tb} {n : Nat} {p : Pair} : p ∈ Lvi T n ↔ ∃ i, i < n ∧ T i = some (some p) := by
  unfold Lvi
  rw [List.mem_flatMap]
  constructor
  · rintro ⟨i, hi, hp⟩
    refine ⟨i, List.mem_range.1 hi, ?_⟩
    rcases hc : T i with _ | _ | q
    · rw [hc] at hp; cases hp
    · rw [hc] at hp; cases hp
    · rw [hc] at hp
      simp only [lv, List.mem_singleton] at hp
      rw [hp]
  · rintro ⟨i, hi, hp⟩
    exact ⟨i, List.mem_range.2 hi, by rw [hp]; simp [lv]⟩
theorem mem_Lv {T : Tb} {p : Pair} : p ∈ Lv T ↔ ∃ i, i < 8 ∧ T i = some (some p) := mem_Lvi
theorem flat_ge {f : Nat → List Pair} : ∀ L : List Nat, (∀ i ∈ L, f i ≠ []) → L.length ≤ (L.flatMap f).length
  | [], _ => Nat.zero_le _
  | a :: L, h => by
    have ih := flat_ge L fun i hi => h i (List.mem_cons_of_mem _ hi)
    have ha := List.length_pos_iff.2 (h a (List.mem_cons_self ..))
    rw [List.flatMap_cons, List.length_append, List.length_cons]
    omega
theorem some_free {T : Tb} (h : (Lv T).length ≤ 7) : ∃ i, i < 8 ∧ lv (T i) = [] := by
  apply Classical.byContradiction
  intro hc
  have := flat_ge (f := fun i => lv (T i)) (List.range 8) fun i hi e => hc ⟨i, List.mem_range.1 hi, e⟩
  rw [List.length_range] at this
  unfold Lv Lvi at h
  omega
/-! ### the walk of a key -/
def and64 (x y : Int) : Int := IntKind.i64.wrap (BitVec.ofInt IntKind.i64.bits x &&& BitVec.ofInt IntKind.i64.bits y).toNat
theorem and7 (x : Int) : 0 ≤ and64 x 7 ∧ and64 x 7 < 8 := by
  unfold and64
  have h : (BitVec.ofInt IntKind.i64.bits x &&& BitVec.ofInt IntKind.i64.bits (7 : Int)).toNat ≤ 7 := by
    rw [BitVec.toNat_and]
    exact Nat.and_le_right
  rw [w64 (by omega) (by omega)]
  omega
theorem next_all : ∀ i : Fin 8, and64 ((i.val : Int) + 1) 7 = (((i.val + 1) % 8 : Nat) : Int) := by decide +kernel
theorem next_eq {i : Nat} (h : i < 8) : and64 ((i : Int) + 1) 7 = (((i + 1) % 8 : Nat) : Int) := next_all ⟨i, h⟩
def hsN (k : ByteArray) : Nat → Int
  | 0 => (k.size : Int)
  | i + 1 => and64 (IntKind.i64.wrap (IntKind.i64.wrap (hsN k i * 31) + IntKind.i64.wrap (byteAt k (i : Int)))) 65535
def hs (k : ByteArray) : Nat := (and64 (hsN k k.size) 7).toNat
theorem hs_lt (k : ByteArray) : hs k < 8 := by have := and7 (hsN k k.size); unfold hs; omega
theorem hs_eq (k : ByteArray) : and64 (hsN k k.size) 7 = (hs k : Int) := by have := and7 (hsN k k.size); unfold hs; omega
def pos (k : ByteArray) (d : Nat) : Nat := (hs k + d) % 8
theorem pos_lt (k : ByteArray) (d : Nat) : pos k d < 8 := Nat.mod_lt _ (by decide)
theorem pos_zero (k : ByteArray) : pos k 0 = hs k := Nat.mod_eq_of_lt (hs_lt k)
theorem pos_succ (k : ByteArray) (d : Nat) : pos k (d + 1) = (pos k d + 1) % 8 := by unfold pos; omega
theorem pos_all (k : ByteArray) {i : Nat} (h : i < 8) : ∃ d, d < 8 ∧ i = pos k d := by
  have := hs_lt k
  refine ⟨(i + 8 - hs k) % 8, Nat.mod_lt _ (by decide), ?_⟩
  unfold pos
  omega
structure TInv (T : Tb) : Prop where
  ok : ∀ i, i < 8 → ∀ p, T i = some (some p) → PairOk p
  reach : ∀ i, i < 8 → ∀ p, T i = some (some p) → ∃ d, d < 8 ∧ i = pos p.1 d ∧ ∀ e, e < d → T (pos p.1 e) ≠ none
  uniq : ∀ i j, i < 8 → j < 8 → ∀ p q, T i = some (some p) → T j = some (some q) → p.1 = q.1 → i = j
def Absent (T : Tb) (k : ByteArray) : Prop := ∀ i, i < 8 → ∀ p, T i = some (some p) → p.1 ≠ k
theorem TInv.empty : TInv (fun _ => none) := ⟨fun i hi p h => (by cases h), fun i hi p h => (by cases h), fun i j _ _ p q h => (by cases h)⟩
theorem Lv_empty : Lv (fun _ => none) = [] := rfl
theorem tombs_empty : tombs (fun _ => none) = 0 := rfl
/-- An empty cell on the walk: the key is not there. -/
theorem TInv.absent {T : Tb} (h : TInv T) {k : ByteArray} {n : Nat} (hn : ∀ e, e < n → ∀ p, T (pos k e) = some (some p) → p.1 ≠ k) (he : T (pos k n) = none ∨ 8 ≤ n) : Absent T k := by
  intro i hi p hp hk
  obtain ⟨d, hd, e, hr⟩ := h.reach i hi p hp
  rw [hk] at e hr
  rcases Nat.lt_trichotomy d n with c | c | c
  · exact hn d c p (by rw [← e]; exact hp) hk
  · subst c
    rcases he with he | he
    · rw [← e, hp] at he; cases he
    · omega
  · rcases he with he | he
    · exact hr n c he
    · omega
theorem TInv.add {T : Tb} (h : TInv T) {p : Pair} (hp : PairOk p) (ha : Absent T p.1) {d : Nat} (hd : d < 8) (hf : lv (T (pos p.1 d)) = []) (hb : ∀ e, e < d → T (pos p.1 e) ≠ none) : TInv (upd T (pos p.1 d) (some (some p))) := by
  have keep : ∀ {j}, T j ≠ none → upd T (pos p.1 d) (some (some p)) j ≠ none := by
    intro j hj
    by_cases e : j = pos p.1 d
    · rw [e, upd_eq]; simp
    · rw [upd_ne e]; exact hj
  refine ⟨?_, ?_, ?_⟩
  · intro i hi q hq
    by_cases e : i = pos p.1 d
    · rw [e, upd_eq] at hq
      cases hq
      exact hp
    · rw [upd_ne e] at hq
      exact h.ok i hi q hq
  · intro i hi q hq
    by_cases e : i = pos p.1 d
    · rw [e, upd_eq] at hq
      cases hq
      exact ⟨d, hd, e, fun x hx => keep (hb x hx)⟩
    · rw [upd_ne e] at hq
      obtain ⟨d', h1, h2, h3⟩ := h.reach i hi q hq
      exact ⟨d', h1, h2, fun x hx => keep (h3 x hx)⟩
  · intro i j hi hj q q' hq hq' he
    by_cases ei : i = pos p.1 d
    · by_cases ej : j = pos p.1 d
      · rw [ei, ej]
      · rw [ei, upd_eq] at hq
        rw [upd_ne ej] at hq'
        cases hq
        exact absurd he.symm (ha j hj q' hq')
    · rw [upd_ne ei] at hq
      by_cases ej : j = pos p.1 d
      · rw [ej, upd_eq] at hq'
        cases hq'
        exact absurd he (ha i hi q hq)
      · rw [upd_ne ej] at hq'
        exact h.uniq i j hi hj q q' hq hq' he
theorem TInv.turn {T : Tb} (h : TInv T) {i : Nat} (hi : i < 8) {p q : Pair} (hq : T i = some (some q)) (hp : PairOk p) (hk : p.1 = q.1) : TInv (upd T i (some (some p))) := by
  have keep : ∀ {j}, T j ≠ none → upd T i (some (some p)) j ≠ none := by
    intro j hj
    by_cases e : j = i
    · rw [e, upd_eq]; simp
    · rw [upd_ne e]; exact hj
  refine ⟨?_, ?_, ?_⟩
  · intro j hj r hr
    by_cases e : j = i
    · rw [e, upd_eq] at hr
      cases hr
      exact hp
    · rw [upd_ne e] at hr
      exact h.ok j hj r hr
  · intro j hj r hr
    by_cases e : j = i
    · rw [e, upd_eq] at hr
      cases hr
      obtain ⟨d', h1, h2, h3⟩ := h.reach i hi q hq
      rw [e, hk]
      exact ⟨d', h1, h2, fun x hx => keep (h3 x hx)⟩
    · rw [upd_ne e] at hr
      obtain ⟨d', h1, h2, h3⟩ := h.reach j hj r hr
      exact ⟨d', h1, h2, fun x hx => keep (h3 x hx)⟩
  · intro a b ha hb r s hr hs he
    by_cases ea : a = i
    · by_cases eb : b = i
      · rw [ea, eb]
      · rw [ea, upd_eq] at hr
        rw [upd_ne eb] at hs
        cases hr
        rw [ea]
        exact h.uniq i b hi hb q s hq hs (by rw [← hk]; exact he)
    · rw [upd_ne ea] at hr
      by_cases eb : b = i
      · rw [eb, upd_eq] at hs
        cases hs
        rw [eb]
        exact h.uniq a i ha hi r q hr hq (by rw [← hk]; exact he)
      · rw [upd_ne eb] at hs
        exact h.uniq a b ha hb r s hr hs he
theorem TInv.drop {T : Tb} (h : TInv T) (i : Nat) : TInv (upd T i (some none)) := by
  have keep : ∀ {j}, T j ≠ none → upd T i (some none) j ≠ none := by
    intro j hj
    by_cases e : j = i
    · rw [e, upd_eq]; simp
    · rw [upd_ne e]; exact hj
  have old : ∀ {j r}, upd T i (some none) j = some (some r) → T j = some (some r) := by
    intro j r hr
    by_cases e : j = i
    · rw [e, upd_eq] at hr; cases hr
    · rw [upd_ne e] at hr; exact hr
  refine ⟨fun j hj r hr => h.ok j hj r (old hr), fun j hj r hr => ?_, fun a b ha hb r s hr hs he => h.uniq a b ha hb r s (old hr) (old hs) he⟩
  obtain ⟨d', h1, h2, h3⟩ := h.reach j hj r (old hr)
  exact ⟨d', h1, h2, fun x hx => keep (h3 x hx)⟩
/-! ### the pairs, sorted -/
def setA (k v : ByteArray) (A : List Pair) : List Pair := A.map fun q => if q.1 = k then (k, v) else q
def delA (k : ByteArray) (A : List Pair) : List Pair := A.filter fun q => !decide (q.1 = k)
def AOk (A : List Pair) : Prop := Asc kB A ∧ ∀ p ∈ A, PairOk p
theorem A_split {A : List Pair} (h : AOk A) {i : Nat} {q : Pair} (hq : A[i]? = some q) : ∃ s t, A = s ++ q :: t ∧ s.length = i ∧ ∀ x, x ∈ s ∨ x ∈ t → x.1 ≠ q.1 := by
  have hi := (List.getElem?_eq_some_iff.1 hq).1
  have e : A = A.take i ++ q :: A.drop (i + 1) := by
    have := List.drop_eq_getElem_cons hi
    rw [(List.getElem?_eq_some_iff.1 hq).2] at this
    rw [← this, List.take_append_drop]
  refine ⟨_, _, e, by rw [List.length_take]; omega, fun x hx he => ?_⟩
  have ha := h.1
  rw [e] at ha
  rcases hx with hx | hx
  · have := asc_mid ha hx (List.mem_cons_self ..)
    unfold kB at this
    rw [he] at this
    omega
  · have := (List.pairwise_cons.1 (asc_right ha)).1 x hx
    unfold kB at this
    rw [he] at this
    omega
theorem map_same {k v : ByteArray} : ∀ {s : List Pair}, (∀ x ∈ s, x.1 ≠ k) → (s.map fun q => if q.1 = k then (k, v) else q) = s
  | [], _ => rfl
  | a :: s, h => by
    rw [List.map_cons, if_neg (h a (List.mem_cons_self ..)), map_same fun x hx => h x (List.mem_cons_of_mem _ hx)]
theorem filter_same {k : ByteArray} : ∀ {s : List Pair}, (∀ x ∈ s, x.1 ≠ k) → (s.filter fun q => !decide (q.1 = k)) = s
  | [], _ => rfl
  | a :: s, h => by
    rw [List.filter_cons_of_pos (by simp [h a (List.mem_cons_self ..)]), filter_same fun x hx => h x (List.mem_cons_of_mem _ hx)]
theorem setA_at {A : List Pair} (h : AOk A) {i : Nat} {q : Pair} (hq : A[i]? = some q) (v : ByteArray) : setA q.1 v A = A.set i (q.1, v) := by
  obtain ⟨s, t, rfl, rfl, hx⟩ := A_split h hq
  unfold setA
  rw [List.map_append, List.map_cons, if_pos rfl, map_same fun x h => hx x (.inl h), map_same fun x h => hx x (.inr h), List.set_append_right _ _ (Nat.le_refl _)]
  simp
theorem delA_at {A : List Pair} (h : AOk A) {i : Nat} {q : Pair} (hq : A[i]? = some q) : delA q.1 A = A.eraseIdx i := by
  obtain ⟨s, t, rfl, rfl, hx⟩ := A_split h hq
  unfold delA
  rw [List.filter_append, List.filter_cons_of_neg (by simp), filter_same fun x h => hx x (.inl h), filter_same fun x h => hx x (.inr h), List.eraseIdx_append_of_length_le (Nat.le_refl _)]
  simp
theorem A_perm {A : List Pair} (h : AOk A) {q : Pair} (hq : q ∈ A) (v : ByteArray) : A.Perm (q :: delA q.1 A) ∧ (setA q.1 v A).Perm ((q.1, v) :: delA q.1 A) := by
  obtain ⟨i, hi⟩ := List.getElem?_of_mem hq
  obtain ⟨s, t, e, rfl, hx⟩ := A_split h hi
  have hd : delA q.1 A = s ++ t := by
    subst e
    unfold delA
    rw [List.filter_append, List.filter_cons_of_neg (by simp), filter_same fun x h => hx x (.inl h), filter_same fun x h => hx x (.inr h)]
  have hs : setA q.1 v A = s ++ (q.1, v) :: t := by
    subst e
    unfold setA
    rw [List.map_append, List.map_cons, if_pos rfl, map_same fun x h => hx x (.inl h), map_same fun x h => hx x (.inr h)]
  rw [hd, hs]
  exact ⟨by rw [e]; exact List.perm_middle, List.perm_middle⟩
theorem AOk.set {A : List Pair} (h : AOk A) {k v : ByteArray} (hk : 1 ≤ k.size ∧ k.size ≤ 2) (hv : v.size ≤ 3) : AOk (setA k v A) := by
  refine ⟨asc_map h.1 fun x hx => ?_, fun p hp => ?_⟩
  · split
    · rename_i e
      unfold kB
      rw [e]
    · rfl
  · unfold setA at hp
    rw [List.mem_map] at hp
    obtain ⟨x, hx, rfl⟩ := hp
    split
    · exact ⟨hk.1, hk.2, hv⟩
    · exact h.2 x hx
theorem AOk.del {A : List Pair} (h : AOk A) (k : ByteArray) : AOk (delA k A) := ⟨asc_filter h.1, fun p hp => h.2 p (List.mem_filter.1 hp).1⟩
theorem AOk.ins {A : List Pair} (h : AOk A) {p : Pair} (hp : PairOk p) (hn : ∀ x ∈ A, x.1 ≠ p.1) : AOk (insK kB p A) :=
  ⟨insK_asc h.1 fun x hx e => hn x hx (kB_inj (h.2 x hx) hp e), fun x hx => by
    rcases List.mem_cons.1 ((insK_perm p A).subset hx) with e | hx
    · subst e; exact hp
    · exact h.2 x hx⟩
theorem setA_length (k v : ByteArray) (A : List Pair) : (setA k v A).length = A.length := by simp [setA]
/-! ### how the table's pairs go -/
theorem Lv_turn {T : Tb} {A : List Pair} (hA : AOk A) (hp : (Lv T).Perm A) {i : Nat} (hi : i < 8) {q : Pair} (hq : T i = some (some q)) (v : ByteArray) : (Lv (upd T i (some (some (q.1, v))))).Perm (setA q.1 v A) := by
  have h1 := Lv_upd T hi (some (some (q.1, v)))
  rw [hq] at h1
  have hm : q ∈ A := hp.subset (mem_Lv.2 ⟨i, hi, hq⟩)
  obtain ⟨h2, h3⟩ := A_perm hA hm v
  have h4 : (q :: Lv (upd T i (some (some (q.1, v))))).Perm (q :: (q.1, v) :: delA q.1 A) := h1.trans (((hp.trans h2).cons _).trans (List.Perm.swap ..))
  exact (List.Perm.cons_inv h4).trans h3.symm
theorem Lv_drop {T : Tb} {A : List Pair} (hA : AOk A) (hp : (Lv T).Perm A) {i : Nat} (hi : i < 8) {q : Pair} (hq : T i = some (some q)) : (Lv (upd T i (some none))).Perm (delA q.1 A) := by
  have h1 := Lv_upd T hi (some none)
  rw [hq] at h1
  have hm : q ∈ A := hp.subset (mem_Lv.2 ⟨i, hi, hq⟩)
  obtain ⟨h2, _⟩ := A_perm hA hm estr
  have h4 : (q :: Lv (upd T i (some none))).Perm (q :: delA q.1 A) := h1.trans (hp.trans h2)
  exact List.Perm.cons_inv h4
theorem Lv_add {T : Tb} {i : Nat} (hi : i < 8) (hf : lv (T i) = []) (p : Pair) : (Lv (upd T i (some (some p)))).Perm (p :: Lv T) := by
  have h1 := Lv_upd T hi (some (some p))
  rw [hf] at h1
  exact h1
theorem absent_iff {T : Tb} {A : List Pair} (hp : (Lv T).Perm A) {k : ByteArray} : Absent T k ↔ ∀ x ∈ A, x.1 ≠ k := by
  constructor
  · intro h x hx
    obtain ⟨i, hi, e⟩ := mem_Lv.1 (hp.symm.subset hx)
    exact h i hi x e
  · intro h i hi p e
    exact h p (hp.subset (mem_Lv.2 ⟨i, hi, e⟩))
end Go.Proofs.Qxb6500430aGreat.Kv
