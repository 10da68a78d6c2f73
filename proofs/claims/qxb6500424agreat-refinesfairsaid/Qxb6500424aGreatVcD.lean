/-
  Vc, part D: laws on the heap for proofs over printed conditions.
-/
import Derived.Test.Qxb6500424aGreatVcC
import Derived.Below
set_option linter.unusedVariables false
namespace Go.Vc

/-! ### Blocks -/
/-- Block b holds the cells c, and all of them may be written. -/
def Own (w : World) (b : Nat) (c : Array Value) (t : TypeId) : Prop := ∃ f : Nat × Nat, w.heap[b]? = some (.cells c t f) ∧ (f.1 = f.2 ∨ c.size ≤ f.1)
/-- w' is w with new blocks, and with the blocks of S changed. -/
structure Ext (S : List Nat) (w w' : World) : Prop where
  os : w'.os = w.os
  tape : w'.tape = w.tape
  output : w'.output = w.output
  size : w.heap.size ≤ w'.heap.size
  heap : ∀ k, k < w.heap.size → k ∉ S → w'.heap[k]? = w.heap[k]?

theorem add_mk (b o n : Nat) : (⟨b, o, none⟩ : Addr).add n = ⟨b, o + n, none⟩ := by
  unfold Addr.add; split <;> simp_all
section
variable {w w' : World} {b : Nat} {c : Array Value} {t : TypeId}
theorem Own.lt (h : Own w b c t) : b < w.heap.size := by
  obtain ⟨f, h, _⟩ := h
  exact (Array.getElem?_eq_some_iff.1 h).1
theorem Own.cell (h : Own w b c t) {o : Nat} {v : Value} (hv : c[o]? = some v) : w.cell? ⟨b, o, none⟩ = some v := by
  obtain ⟨f, h, _⟩ := h
  simp [World.cell?, h, hv]
theorem Own.cell_eq (h : Own w b c t) (o : Nat) : w.cell? ⟨b, o, none⟩ = c[o]? := by
  obtain ⟨f, h, _⟩ := h
  simp [World.cell?, h]
theorem Own.frozen (h : Own w b c t) {o : Nat} (ho : o < c.size) : w.frozen? ⟨b, o, none⟩ = false := by
  obtain ⟨⟨lo, hi⟩, h, hf⟩ := h
  simp only [World.frozen?, h]
  rcases hf with hf | hf
  · simp at hf; subst hf; simp
  · simp at hf ⊢; intro; omega
theorem Own.new (w : World) (c : Array Value) (t : TypeId) : Own (w.alloc (.cells c t)) w.heap.size c t := ⟨(0, 0), by show (w.heap.push _)[w.heap.size]? = _; simp, .inl rfl⟩
theorem Own.newMark (w : World) (c : Array Value) (t : TypeId) (n : Nat) (hn : c.size ≤ n) : Own (w.alloc (.cells c t (n, n + 1))) w.heap.size c t := ⟨(n, n + 1), by show (w.heap.push _)[w.heap.size]? = _; simp, .inr hn⟩
theorem Own.alloc (h : Own w b c t) (o : Obj) : Own (w.alloc o) b c t := by
  obtain ⟨f, hf, hx⟩ := h
  have hlt : b < w.heap.size := (Array.getElem?_eq_some_iff.1 hf).1
  refine ⟨f, ?_, hx⟩
  show (w.heap.push o)[b]? = _
  rw [Array.getElem?_push, if_neg (by omega)]; exact hf
theorem Own.drew (h : Own w b c t) : Own w.drew b c t := h
theorem Own.set (h : Own w b c t) (o : Nat) (v : Value) : Own (w.setCell ⟨b, o, none⟩ v) b (c.setIfInBounds o v) t := by
  obtain ⟨f, hf, hx⟩ := h
  refine ⟨f, ?_, by simpa using hx⟩
  simp [World.setCell, Array.getElem?_modify, hf]
theorem Own.set_ne (h : Own w b c t) {b' : Nat} (hne : b' ≠ b) (o : Nat) (s : Option Nat) (v : Value) : Own (w.setCell ⟨b', o, s⟩ v) b c t := by
  obtain ⟨f, hf, hx⟩ := h
  refine ⟨f, ?_, hx⟩
  simp only [World.setCell, Array.getElem?_modify]
  rw [if_neg hne]; exact hf
theorem Own.unique {c' : Array Value} {t' : TypeId} (h : Own w b c t) (h' : Own w b c' t') : c = c' ∧ t = t' := by
  obtain ⟨f, hf, _⟩ := h
  obtain ⟨f', hf', _⟩ := h'
  rw [hf] at hf'
  simp only [Option.some.injEq, Obj.cells.injEq] at hf'
  exact ⟨hf'.1, hf'.2.1⟩
theorem Own.ne_type {b' : Nat} {c' : Array Value} {t' : TypeId} (h : Own w b c t) (h' : Own w b' c' t') (ht : t ≠ t') : b ≠ b' := fun e => by
  subst e; exact ht (h.unique h').2
theorem Own.ne_size {b' : Nat} {c' : Array Value} {t' : TypeId} (h : Own w b c t) (h' : Own w b' c' t') (ht : c.size ≠ c'.size) : b ≠ b' := fun e => by
  subst e; exact ht (by rw [(h.unique h').1])

theorem Ext.refl (S : List Nat) (w : World) : Ext S w w := ⟨rfl, rfl, rfl, Nat.le_refl _, fun _ _ _ => rfl⟩
theorem Ext.mono {S T : List Nat} (h : Ext S w w') (hs : ∀ x ∈ S, x < w.heap.size → x ∈ T) : Ext T w w' := ⟨h.os, h.tape, h.output, h.size, fun k hk hn => h.heap k hk fun hx => hn (hs k hx hk)⟩
theorem Ext.nil {T : List Nat} (h : Ext [] w w') : Ext T w w' := h.mono fun x hx => by cases hx
theorem Ext.trans {S : List Nat} {w'' : World} (h : Ext S w w') (h' : Ext S w' w'') : Ext S w w'' :=
  ⟨h'.os.trans h.os, h'.tape.trans h.tape, h'.output.trans h.output, Nat.le_trans h.size h'.size, fun k hk hn => (h'.heap k (Nat.lt_of_lt_of_le hk h.size) hn).trans (h.heap k hk hn)⟩
/-- The second stretch may also write what the first made. -/
theorem Ext.trans' {S T : List Nat} {w'' : World} (h : Ext S w w') (h' : Ext T w' w'') (hs : ∀ x ∈ T, x < w.heap.size → x ∈ S) : Ext S w w'' :=
  ⟨h'.os.trans h.os, h'.tape.trans h.tape, h'.output.trans h.output, Nat.le_trans h.size h'.size, fun k hk hn => (h'.heap k (Nat.lt_of_lt_of_le hk h.size) fun hx => hn (hs k hx hk)).trans (h.heap k hk hn)⟩
theorem Ext.alloc (S : List Nat) (w : World) (o : Obj) : Ext S w (w.alloc o) :=
  ⟨rfl, rfl, rfl, by simp, fun k hk _ => by show (w.heap.push o)[k]? = _; rw [Array.getElem?_push, if_neg (by omega)]⟩
theorem Ext.drew (S : List Nat) (w : World) : Ext S w w.drew := ⟨rfl, rfl, rfl, Nat.le_refl _, fun _ _ _ => rfl⟩
theorem Ext.set {S : List Nat} (w : World) {b : Nat} (hb : b ∈ S ∨ w.heap.size ≤ b) (o : Nat) (s : Option Nat) (v : Value) : Ext S w (w.setCell ⟨b, o, s⟩ v) :=
  ⟨rfl, rfl, rfl, by simp, fun k hk hn => by
    simp only [World.setCell, Array.getElem?_modify]
    rw [if_neg]; rintro rfl
    rcases hb with hb | hb
    · exact hn hb
    · omega⟩
theorem Ext.own {S : List Nat} (h : Ext S w w') (ho : Own w b c t) (hb : b ∉ S) : Own w' b c t := by
  have hlt := ho.lt
  obtain ⟨f, hf, hx⟩ := ho
  exact ⟨f, by rw [h.heap b hlt hb]; exact hf, hx⟩
theorem Ext.cell {S : List Nat} (h : Ext S w w') {a : Addr} (hlt : a.block < w.heap.size) (hb : a.block ∉ S) : w'.cell? a = w.cell? a := by
  unfold World.cell?; rw [h.heap _ hlt hb]
theorem Ext.below {w0 : World} {S : List Nat} (h : Ext S w w') (h0 : RowKit.Below w0.heap.size w0 w) (hs : ∀ x ∈ S, w0.heap.size ≤ x) : RowKit.Below w0.heap.size w0 w' :=
  ⟨h.os.trans h0.os, h.tape.trans h0.tape, h.output.trans h0.output, Nat.le_trans h0.size h.size, fun k hk => (h.heap k (Nat.lt_of_lt_of_le hk h0.size) fun hx => by have := hs k hx; omega).trans (h0.block k hk)⟩
end

/-! ### Introductions -/
section
variable {w : World} {b o : Nat} {c : Array Value} {t : TypeId}
theorem LdI.mk {k : IntKind} {n : Int} {K : Int → Prop} (h : Own w b c t) (hc : c[o]? = some (.int k n)) (hk : K n) : LdI k ⟨b, o, none⟩ w K := ⟨n, h.cell hc, hk⟩
theorem LdB.mk {n : Bool} {K : Bool → Prop} (h : Own w b c t) (hc : c[o]? = some (.bool n)) (hk : K n) : LdB ⟨b, o, none⟩ w K := ⟨n, h.cell hc, hk⟩
theorem LdS.mk {n : ByteArray} {K : ByteArray → Prop} (h : Own w b c t) (hc : c[o]? = some (.string n)) (hk : K n) : LdS ⟨b, o, none⟩ w K := ⟨n, h.cell hc, hk⟩
theorem LdP.mk {n : Option Addr} {K : Option Addr → Prop} (h : Own w b c t) (hc : c[o]? = some (.pointer n)) (hk : K n) : LdP ⟨b, o, none⟩ w K := ⟨n, h.cell hc, hk⟩
theorem LdL.mk {s : Option Addr} {l cp : Nat} {K : Option Addr → Nat → Nat → Prop} (h : Own w b c t) (hc : c[o]? = some (.slice s l cp)) (hk : K s l cp) : LdL ⟨b, o, none⟩ w K := ⟨s, l, cp, h.cell hc, hk⟩
theorem Pn.mk {a : Addr} {K : Addr → Prop} (h : K a) : Pn (some a) K := h
theorem Bm.mk {x : Bool} {X Y : Prop} (h1 : x = true → X) (h2 : x = false → Y) : Bm x X Y := by cases x; exact h2 rfl; exact h1 rfl
theorem Bm.pos {x : Bool} {X Y : Prop} (hx : x = true) (h : X) : Bm x X Y := by subst hx; exact h
theorem Bm.neg {x : Bool} {X Y : Prop} (hx : x = false) (h : Y) : Bm x X Y := by subst hx; exact h
theorem Bm.ite {p : Prop} [Decidable p] {X Y : Prop} (h1 : p → X) (h2 : ¬ p → Y) : Bm (decide p) X Y := Bm.mk (fun h => h1 (of_decide_eq_true h)) (fun h => h2 (of_decide_eq_false h))
theorem New.mk {K : Nat → World → Prop} (h : ∀ r w', r = w.heap.size → w'.heap.size = r + 1 → Own w' r c t → Ext [] w w' → K r w') : New (.cells c t) w K :=
  h _ _ rfl (by simp) (Own.new w c t) (Ext.alloc _ _ _)
/-- The cells from o on, replaced. -/
def putArr (c : Array Value) (o : Nat) : List Value → Array Value
  | [] => c
  | v :: vs => putArr (c.setIfInBounds o v) (o + 1) vs
theorem size_putArr : ∀ (vs : List Value) (c : Array Value) (o : Nat), (putArr c o vs).size = c.size
  | [], _, _ => rfl
  | v :: vs, c, o => by simp [putArr, size_putArr vs]
theorem getElem?_putArr : ∀ (vs : List Value) (c : Array Value) (o j : Nat), o + vs.length ≤ c.size → (putArr c o vs)[j]? = if o ≤ j ∧ j < o + vs.length then vs[j - o]? else c[j]?
  | [], c, o, j, h => by simp [putArr]; omega
  | v :: vs, c, o, j, h => by
    simp only [putArr]
    rw [getElem?_putArr vs _ _ _ (by simp at h ⊢; omega)]
    simp only [List.length_cons] at h ⊢
    by_cases h1 : o + 1 ≤ j ∧ j < o + 1 + vs.length
    · rw [if_pos h1, if_pos (by omega)]
      have : j - o = (j - (o + 1)) + 1 := by omega
      rw [this]; simp
    · rw [if_neg h1]
      by_cases h2 : j = o
      · subst h2
        rw [if_pos (by omega)]
        have hlt : j < c.size := by omega
        simp [hlt]
      · rw [if_neg (by omega)]
        rw [Array.getElem?_setIfInBounds_ne (by omega)]
theorem Sts.own : ∀ (vs : List Value) (w : World) (b o i : Nat) (c : Array Value) (t : TypeId) (K : World → Prop), Own w b c t → o + i + vs.length ≤ c.size → vs.all Value.oneCell' = true →
    (∀ w', w'.heap.size = w.heap.size → Own w' b (putArr c (o + i) vs) t → Ext [b] w w' → K w') → Sts vs ⟨b, o, none⟩ i w K
  | [], w, b, o, i, c, t, K, h, _, _, hk => hk w rfl h (Ext.refl _ _)
  | v :: vs, w, b, o, i, c, t, K, h, hl, h1, hk => by
    simp only [List.all_cons, Bool.and_eq_true] at h1
    simp only [List.length_cons] at hl
    refine ⟨h1.1, ?_⟩
    rw [add_mk]
    refine ⟨⟨_, h.cell (Array.getElem?_eq_getElem (by omega))⟩, h.frozen (by omega), ?_⟩
    refine Sts.own vs _ b o (i + 1) _ t K (h.set _ _) (by simp; omega) h1.2 fun w' hs hw' he => ?_
    refine hk w' (by rw [hs]; simp) hw' (Ext.trans (Ext.set w (.inl (by simp)) _ _ _) he)
theorem Sts.mk {vs : List Value} {K : World → Prop} (h : Own w b c t) (hl : o + vs.length ≤ c.size) (h1 : vs.all Value.oneCell' = true)
    (hk : ∀ w', w'.heap.size = w.heap.size → Own w' b (putArr c o vs) t → Ext [b] w w' → K w') : Sts vs ⟨b, o, none⟩ 0 w K :=
  Sts.own vs w b o 0 c t K h (by omega) h1 hk
theorem CellsAt.own {vs : List Value} (h : Own w b c t) (hv : ∀ j v, vs[j]? = some v → c[o + j]? = some v) : CellsAt w (some ⟨b, o, none⟩) vs := fun j v hj => by
  rw [add_mk]; exact h.cell (hv j v hj)
theorem Make.mk {e : TypeId} {z : Value} {sz by_ : Nat} {l n : Int} {K : Nat → World → Prop} (h0 : 0 ≤ l) (h1 : l ≤ n) (h2 : (by_ : Int) * n ≤ 281474976710656) (h3 : n ≤ 9223372036854775807)
    (h : ∀ r w', r = w.heap.size → w'.heap.size = r + 1 → Own w' r (madeCells z.cells (n.toNat * sz)) e → Ext [] w w' → K r w') : Make e z sz by_ l n w K :=
  ⟨⟨h0, h1, h2, h3⟩, New.mk h⟩
theorem madeCells_one (z : Value) (n : Nat) : madeCells #[z] n = Array.replicate n z := by
  apply Array.ext
  · simp [madeCells]
  · intro i h1 h2
    simp [madeCells, Nat.mod_one]
theorem ToBytes.mk2 {e : TypeId} {s : ByteArray} {K : Nat → Nat → World → Prop}
    (h : ∀ r cap w', s.size ≤ cap → (s.size ≤ 9223372036854775807 → cap ≤ 9223372036854775807) → r = w.heap.size → w'.heap.size = r + 1 → Own w' r ((bytesV s.data.toList).toArray ++ Array.replicate (cap - s.size) (.int .u8 0)) e → Ext [] w w' → K r cap w') : ToBytes e s w K := by
  intro cap hcap hle
  refine h _ cap _ hcap hle rfl (by simp) (Own.newMark w.drew _ _ cap ?_) (Ext.trans (Ext.drew _ _) (Ext.alloc _ _ _))
  simp [bytesV]; omega
theorem ToBytes.mk {e : TypeId} {s : ByteArray} {K : Nat → Nat → World → Prop}
    (h : ∀ r cap w', s.size ≤ cap → r = w.heap.size → w'.heap.size = r + 1 → Own w' r ((bytesV s.data.toList).toArray ++ Array.replicate (cap - s.size) (.int .u8 0)) e → Ext [] w w' → K r cap w') : ToBytes e s w K :=
  ToBytes.mk2 fun r cap w' hc _ hr hs ho he => h r cap w' hc hr hs ho he
theorem ToStr.mk {l : Nat} {s : ByteArray} {K : ByteArray → Prop} (h : Own w b c t) (hl : s.size = l) (hv : ∀ j, j < l → c[o + j]? = some (.int .u8 (s.data.toList.getD j 0).toNat)) (hk : K s) : ToStr (some ⟨b, o, none⟩) l w K :=
  ⟨s, hl, CellsAt.own h fun j v hj => by
    simp only [bytesV, List.getElem?_map, Option.map_eq_some_iff] at hj
    obtain ⟨u, hu, rfl⟩ := hj
    have hlt := (List.getElem?_eq_some_iff.1 hu).1
    have hjl : j < l := by rw [← hl]; simpa using hlt
    rw [hv j hjl]
    simp [hu], hk⟩
end

/-! ### Rows behind a slice that its holder alone has -/
def rowBlk (b : Option Addr) : List Nat := match b with
  | some a => [a.block]
  | none => []
/-- A slice (b, l, c) over an array of its own: its first l elements are vs. -/
def Row (w : World) (b : Option Addr) (l c sz : Nat) (t : TypeId) (vs : List Value) : Prop :=
  vs.length = l * sz ∧ l ≤ c ∧ ((b = none ∧ c = 0) ∨ ∃ k cs, b = some ⟨k, 0, none⟩ ∧ Own w k cs t ∧ c * sz ≤ cs.size ∧ cs.toList.take (l * sz) = vs)
theorem Row.nil (w : World) (sz : Nat) (t : TypeId) : Row w none 0 0 sz t [] := ⟨by simp, Nat.le_refl _, .inl ⟨rfl, rfl⟩⟩
theorem Row.lt {w : World} {b : Option Addr} {l c sz : Nat} {t : TypeId} {vs : List Value} (h : Row w b l c sz t vs) : ∀ k ∈ rowBlk b, k < w.heap.size := by
  rcases h.2.2 with ⟨rfl, _⟩ | ⟨k, cs, rfl, ho, _, _⟩
  · intro k hk; simp [rowBlk] at hk
  · intro k' hk; simp [rowBlk] at hk; subst hk; exact ho.lt
theorem Row.ext {w w' : World} {b : Option Addr} {l c sz : Nat} {t : TypeId} {vs : List Value} {S : List Nat} (h : Row w b l c sz t vs) (he : Ext S w w') (hs : ∀ k ∈ rowBlk b, k ∉ S) : Row w' b l c sz t vs := by
  refine ⟨h.1, h.2.1, ?_⟩
  rcases h.2.2 with ⟨rfl, hc⟩ | ⟨k, cs, rfl, ho, hr⟩
  · exact .inl ⟨rfl, hc⟩
  · exact .inr ⟨k, cs, rfl, he.own ho (hs k (by simp [rowBlk])), hr⟩
theorem Row.cells {w : World} {b : Option Addr} {l c sz : Nat} {t : TypeId} {vs : List Value} (h : Row w b l c sz t vs) : CellsAt w b vs := by
  rcases h.2.2 with ⟨rfl, hc⟩ | ⟨k, cs, rfl, ho, hs, ht⟩
  · have h0 : l = 0 := by have := h.2.1; omega
    have := h.1
    rw [h0] at this
    exact List.eq_nil_of_length_eq_zero (by simpa using this)
  · exact CellsAt.own ho fun j v hj => by
      rw [← ht, List.getElem?_take] at hj
      split at hj
      · simpa using hj
      · cases hj
/-- One element's cells. -/
theorem Row.at {w : World} {b : Option Addr} {l c sz : Nat} {t : TypeId} {vs : List Value} (h : Row w b l c sz t vs) {i : Nat} (hi : i < l) (hsz : 0 < sz) : ∃ k, b = some ⟨k, 0, none⟩ ∧ ∃ cs, Own w k cs t ∧ ∀ j, j < sz → cs[i * sz + j]? = vs[i * sz + j]? := by
  rcases h.2.2 with ⟨rfl, hc⟩ | ⟨k, cs, rfl, ho, hs, ht⟩
  · have := h.2.1; omega
  · refine ⟨k, rfl, cs, ho, fun j hj => ?_⟩
    have hlt : i * sz + j < l * sz := by
      have : (i + 1) * sz ≤ l * sz := Nat.mul_le_mul_right _ hi
      rw [Nat.add_mul] at this; omega
    rw [← ht, List.getElem?_take, if_pos hlt]; simp
theorem take_putArr (c : Array Value) (o : Nat) (vs : List Value) (h : o + vs.length ≤ c.size) : (putArr c o vs).toList.take (o + vs.length) = c.toList.take o ++ vs := by
  apply List.ext_getElem?
  intro j
  rw [List.getElem?_take]
  by_cases hj : j < o + vs.length
  · rw [if_pos hj]
    have h1 : (putArr c o vs).toList[j]? = (putArr c o vs)[j]? := by simp
    rw [h1, getElem?_putArr vs c o j h]
    by_cases h2 : o ≤ j
    · rw [if_pos ⟨h2, hj⟩]
      have hl : (c.toList.take o).length = o := by simp; omega
      rw [List.getElem?_append_right (by omega), hl]
    · rw [if_neg (by omega)]
      rw [List.getElem?_append_left (by simp; omega), List.getElem?_take, if_pos (by omega)]
      simp
  · rw [if_neg hj]
    rw [List.getElem?_eq_none (by simp; omega)]
theorem Append.mkC {w : World} {e : TypeId} {z : Value} {sz by_ : Nat} {b : Option Addr} {l c : Nat} {xb : Option Addr} {n : Nat} {vs news : List Value} {K : Option Addr → Nat → World → Prop}
    (hr : Row w b l c sz e vs) (hx : CellsAt w xb news) (hn : news.length = n * sz) (hz : z.cells.size = sz) (h1 : news.all Value.oneCell' = true) (hby : (l + n) * by_ ≤ 140737488355328) (h63 : ((l + n : Nat) : Int) ≤ 9223372036854775807)
    (hk : ∀ b' c' w', Row w' b' (l + n) c' sz e (vs ++ news) → Ext (rowBlk b) w w' → (∀ k ∈ rowBlk b', k ∈ rowBlk b ∨ (w.heap.size ≤ k ∧ k < w'.heap.size)) → (c' = c ∨ c' ≤ 9223372036854775807) → K b' c' w') :
    Append e z sz by_ b l c xb n w K := by
  have hlen : (vs ++ news).length = (l + n) * sz := by rw [List.length_append, hr.1, hn, Nat.add_mul]
  refine ⟨news, hn, hx, fun hroom => ?_, fun hg => ?_⟩
  · have hb2 := hr.2.2
    rcases hb2 with ⟨rfl, hc⟩ | ⟨k, cs, rfl, ho, hs, ht⟩
    · have hl0 : l = 0 := by omega
      have hn0 : n = 0 := by omega
      subst hl0; subst hn0; subst hc
      have e1 : news = [] := List.eq_nil_of_length_eq_zero (by simpa using hn)
      have e2 : vs = [] := List.eq_nil_of_length_eq_zero (by simpa using hr.1)
      subst e1; subst e2
      exact hk none 0 w (Row.nil w sz e) (Ext.refl _ _) (fun k hk => by simp [rowBlk] at hk) (.inl rfl)
    · have hfit : l * sz + news.length ≤ cs.size := by rw [hn, ← Nat.add_mul]; exact Nat.le_trans (Nat.mul_le_mul_right _ hroom) hs
      show Sts news ((⟨k, 0, none⟩ : Addr).add (l * sz)) 0 w _
      rw [add_mk, Nat.zero_add]
      refine Sts.mk ho hfit h1 fun w' _ ho' he => ?_
      refine hk _ c w' ⟨hlen, hroom, .inr ⟨k, _, rfl, ho', by rw [size_putArr]; exact hs, ?_⟩⟩ he (fun k' hk' => .inl hk') (.inl rfl)
      have h3 := take_putArr cs (l * sz) news hfit
      rw [hn, ← Nat.add_mul] at h3
      rw [h3, ht]
  · refine ⟨h63, growslice_fits hg hby, vs, hr.1, hr.cells, fun cap hcap hcm => ?_⟩
    refine hk _ cap _ ⟨hlen, hcap, .inr ⟨_, _, rfl, Own.new w.drew _ e, ?_, ?_⟩⟩ (Ext.trans (Ext.drew _ _) (Ext.alloc _ _ _)) (fun k hk' => .inr ?_) (.inr hcm)
    · refine Nat.le_of_eq ?_
      simp only [Array.size_append, List.size_toArray, size_zeroCells, hz, hr.1, hn, ← Nat.add_mul]
      congr 1; omega
    · simp only [Array.toList_append, List.append_assoc]
      rw [← List.append_assoc, ← hlen]
      exact List.take_left
    · simp [rowBlk] at hk'; subst hk'; exact ⟨Nat.le_refl _, by simp⟩
theorem Append.mk {w : World} {e : TypeId} {z : Value} {sz by_ : Nat} {b : Option Addr} {l c : Nat} {xb : Option Addr} {n : Nat} {vs news : List Value} {K : Option Addr → Nat → World → Prop}
    (hr : Row w b l c sz e vs) (hx : CellsAt w xb news) (hn : news.length = n * sz) (hz : z.cells.size = sz) (h1 : news.all Value.oneCell' = true) (hby : (l + n) * by_ ≤ 140737488355328) (h63 : ((l + n : Nat) : Int) ≤ 9223372036854775807)
    (hk : ∀ b' c' w', Row w' b' (l + n) c' sz e (vs ++ news) → Ext (rowBlk b) w w' → (∀ k ∈ rowBlk b', k ∈ rowBlk b ∨ (w.heap.size ≤ k ∧ k < w'.heap.size)) → K b' c' w') :
    Append e z sz by_ b l c xb n w K :=
  Append.mkC hr hx hn hz h1 hby h63 fun b' c' w' q1 q2 q3 _ => hk b' c' w' q1 q2 q3
theorem Copy.mk {w : World} {sz : Nat} {b l n : Nat} {xb : Option Addr} {c : Array Value} {t : TypeId} {news : List Value} {K : Int → World → Prop} (ho : Own w b c t) (hx : CellsAt w xb news) (hn : news.length = Nat.min n l * sz) (hl : news.length ≤ c.size) (h1 : news.all Value.oneCell' = true)
    (hk : ∀ w', w'.heap.size = w.heap.size → Own w' b (putArr c 0 news) t → Ext [b] w w' → K ((Nat.min n l : Nat) : Int) w') : Copy sz (some ⟨b, 0, none⟩) l xb n w K :=
  ⟨news, hn, hx, Sts.mk ho (by omega) h1 hk⟩
/-- A copy to the middle of a block. -/
theorem Copy.mk2 {w : World} {sz : Nat} {b o l n : Nat} {xb : Option Addr} {c : Array Value} {t : TypeId} {news : List Value} {K : Int → World → Prop} (ho : Own w b c t) (hx : CellsAt w xb news) (hn : news.length = Nat.min n l * sz) (hl : o + news.length ≤ c.size) (h1 : news.all Value.oneCell' = true)
    (hk : ∀ w', w'.heap.size = w.heap.size → Own w' b (putArr c o news) t → Ext [b] w w' → K ((Nat.min n l : Nat) : Int) w') : Copy sz (some ⟨b, o, none⟩) l xb n w K :=
  ⟨news, hn, hx, Sts.mk ho (by omega) h1 hk⟩
/-- A row's first i elements, with no spare room. -/
theorem Row.sub {w : World} {b : Option Addr} {l c sz : Nat} {t : TypeId} {vs : List Value} (h : Row w b l c sz t vs) {i : Nat} (hi : i ≤ l) : Row w b i i sz t (vs.take (i * sz)) := by
  have hm : i * sz ≤ l * sz := Nat.mul_le_mul_right _ hi
  refine ⟨by rw [List.length_take, h.1]; omega, Nat.le_refl _, ?_⟩
  rcases h.2.2 with ⟨rfl, hc⟩ | ⟨k, cs, rfl, ho, hs, ht⟩
  · exact .inl ⟨rfl, by have := h.2.1; omega⟩
  · refine .inr ⟨k, cs, rfl, ho, Nat.le_trans (Nat.mul_le_mul_right _ (Nat.le_trans hi h.2.1)) hs, ?_⟩
    rw [← ht, List.take_take]
    congr 1
    omega
/-- A row's cells from element i on. -/
theorem Row.tail {w : World} {b : Option Addr} {l c sz : Nat} {t : TypeId} {vs : List Value} (h : Row w b l c sz t vs) (i : Nat) {m : Int} (hm : (l : Int) ≤ m) : CellsAt w (slBase b i m sz) (vs.drop (i * sz)) := by
  rcases h.2.2 with ⟨rfl, hc⟩ | ⟨k, cs, rfl, ho, hs, ht⟩
  · have h0 : l = 0 := by have := h.2.1; omega
    have h1 := h.1
    rw [h0, Nat.zero_mul] at h1
    have h2 : vs = [] := List.eq_nil_of_length_eq_zero h1
    subst h2
    simp only [slBase]
    split
    · simp [CellsAt]
    · simp [CellsAt]
  · simp only [slBase]
    split
    · rename_i he
      have hle : l ≤ i := by simp at he; omega
      rw [List.drop_eq_nil_of_le (by rw [h.1]; exact Nat.mul_le_mul_right _ hle)]
      exact CellsAt.own ho fun j v hj => by simp at hj
    · show CellsAt w (some ((⟨k, 0, none⟩ : Addr).add _)) _
      rw [add_mk, Nat.zero_add, Int.toNat_natCast]
      refine CellsAt.own ho fun j v hj => ?_
      rw [List.getElem?_drop, ← ht, List.getElem?_take] at hj
      split at hj
      · simpa using hj
      · cases hj
theorem putArr_full (c : Array Value) (vs : List Value) (h : vs.length = c.size) : putArr c 0 vs = vs.toArray := by
  apply Array.ext'
  have h1 := take_putArr c 0 vs (by omega)
  simp only [Nat.zero_add, List.take_zero, List.nil_append] at h1
  rw [List.take_of_length_le (by simp [size_putArr, h])] at h1
  simpa using h1
/-- A whole block stored over. -/
theorem Sts.full {w : World} {b : Nat} {c : Array Value} {t : TypeId} {vs : List Value} {K : World → Prop} (h : Own w b c t) (hl : vs.length = c.size) (h1 : vs.all Value.oneCell' = true)
    (hk : ∀ w', w'.heap.size = w.heap.size → Own w' b vs.toArray t → Ext [b] w w' → K w') : Sts vs ⟨b, 0, none⟩ 0 w K :=
  Sts.mk h (by omega) h1 fun w' hs ho he => hk w' hs (by rw [putArr_full c vs hl] at ho; exact ho) he
/-- From F the footprint has come to F': by new blocks alone. -/
def Grew (w : World) (F F' : List Nat) : Prop := ∀ k ∈ F', k ∈ F ∨ w.heap.size ≤ k
theorem Grew.refl (w : World) (F : List Nat) : Grew w F F := fun k hk => .inl hk
theorem Grew.trans {w w' : World} {F F' F'' : List Nat} (h : Grew w F F') (hs : w.heap.size ≤ w'.heap.size) (h' : Grew w' F' F'') : Grew w F F'' := fun k hk => by
  rcases h' k hk with h1 | h1
  · exact h k h1
  · exact .inr (by omega)
end Go.Vc
