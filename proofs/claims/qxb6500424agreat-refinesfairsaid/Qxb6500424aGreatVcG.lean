/-
  Lists that a law keeps: stamped blocks behind slices.
-/
import Derived.Test.Qxb6500424aGreatVcF
set_option linter.unusedVariables false
namespace Go.Vc
theorem Row.ty {w : World} {b : Option Addr} {l c sz : Nat} {t : TypeId} {vs : List Value} {k : Nat} (hr : Row w b l c sz t vs) (hk : k ∈ rowBlk b) : ∃ cs, Own w k cs t := by
  rcases hr.2.2 with ⟨rfl, _⟩ | ⟨k', cs, rfl, ho, _⟩
  · simp [rowBlk] at hk
  · simp [rowBlk] at hk
    subst hk
    exact ⟨cs, ho⟩
/-- n records, each rec. -/
def stampArr (n sz : Nat) (rc : List Value) : Array Value := fnArr (n * sz) fun j => rc.getD (j % sz) undef
def Stamped (cs : Array Value) (i sz : Nat) (rc : List Value) : Prop := ∀ j, j < i * sz → cs[j]? = some (rc.getD (j % sz) undef)
theorem Stamped.step {cs : Array Value} {i sz : Nat} {rc : List Value} (h : Stamped cs i sz rc) (hl : rc.length = sz) (hf : i * sz + sz ≤ cs.size) : Stamped (putArr cs (i * sz) rc) (i + 1) sz rc := by
  intro j hj
  rw [Nat.add_mul, Nat.one_mul] at hj
  rw [getElem?_putArr rc cs _ _ (by omega)]
  by_cases c1 : i * sz ≤ j
  · rw [if_pos (by omega)]
    obtain ⟨r, rfl⟩ : ∃ r, j = i * sz + r := ⟨j - i * sz, by omega⟩
    have e1 : (i * sz + r) % sz = r := by
      rw [Nat.mul_comm, Nat.mul_add_mod]
      exact Nat.mod_eq_of_lt (by omega)
    rw [e1, show i * sz + r - i * sz = r by omega]
    have : rc[r]? = some rc[r] := List.getElem?_eq_getElem (by omega)
    simp [List.getD, this]
  · rw [if_neg (by omega)]
    exact h j (by omega)
theorem Stamped.full {cs : Array Value} {n sz : Nat} {rc : List Value} (h : Stamped cs n sz rc) (hs : cs.size = n * sz) : cs = stampArr n sz rc := fnArr_ext hs h
theorem stampArr_size (n sz : Nat) (rc : List Value) : (stampArr n sz rc).size = n * sz := fnArr_size _ _
theorem stampArr_get {n sz i f : Nat} {rc : List Value} (hi : i < n) (hf : f < sz) : (stampArr n sz rc)[i * sz + f]? = some (rc.getD f undef) := by
  have h1 : (i + 1) * sz ≤ n * sz := Nat.mul_le_mul_right _ hi
  rw [Nat.add_mul, Nat.one_mul] at h1
  unfold stampArr
  rw [fnArr_get _ (by omega)]
  have e1 : (i * sz + f) % sz = f := by
    rw [Nat.mul_comm, Nat.mul_add_mod]
    exact Nat.mod_eq_of_lt hf
  rw [e1]
/-- Slices of stamped blocks, all of them outside F. -/
def Kept (w : World) (F : List Nat) (t : TypeId) (sz : Nat) (rc : List Value) (vs : List Value) : Prop :=
  ∀ v ∈ vs, ∃ k n, v = .slice (some ⟨k, 0, none⟩) n n ∧ Own w k (stampArr n sz rc) t ∧ k ∉ F ∧ n ≤ 9223372036854775807
theorem Kept.nil (w : World) (F : List Nat) (t : TypeId) (sz : Nat) (rc : List Value) : Kept w F t sz rc [] := fun v hv => by cases hv
theorem Kept.ext {w w' : World} {F F' S : List Nat} {t : TypeId} {sz : Nat} {rc vs : List Value} (h : Kept w F t sz rc vs) (he : Ext S w w') (hs : ∀ x ∈ S, x < w.heap.size → x ∈ F) (hg : Grew w F F') : Kept w' F' t sz rc vs := fun v hv => by
  obtain ⟨k, n, e, ho, hk, hn⟩ := h v hv
  refine ⟨k, n, e, he.own ho (fun hx => hk (hs k hx ho.lt)), fun hx => ?_, hn⟩
  rcases hg k hx with q | q
  · exact hk q
  · have := ho.lt
    omega
/-- The blocks of a kept list. -/
def KeptNot (k : Nat) (vs : List Value) : Prop := ∀ b n c, Value.slice (some ⟨b, 0, none⟩) n c ∈ vs → b ≠ k
theorem Kept.fresh {w : World} {F : List Nat} {t : TypeId} {sz : Nat} {rc vs : List Value} (h : Kept w F t sz rc vs) {k : Nat} (hk : w.heap.size ≤ k) : KeptNot k vs := fun b n c hv e => by
  obtain ⟨k', n', e', ho, _⟩ := h _ hv
  simp only [Value.slice.injEq, Option.some.injEq, Addr.mk.injEq, and_true] at e'
  have := ho.lt
  omega
theorem KeptNot.nil (k : Nat) : KeptNot k [] := fun b n c h => by cases h
/-- As Kept.ext, with a block more that the stretch may write: it is none of the list's. -/
theorem Kept.ext1 {w w' : World} {F F' S : List Nat} {t : TypeId} {sz : Nat} {rc vs : List Value} {k : Nat} (h : Kept w F t sz rc vs) (hk : KeptNot k vs) (he : Ext (k :: S) w w') (hs : ∀ x ∈ S, x < w.heap.size → x ∈ F) (hg : Grew w F F') : Kept w' F' t sz rc vs := fun v hv => by
  obtain ⟨b, n, e, ho, hb, hn⟩ := h v hv
  refine ⟨b, n, e, he.own ho (fun hx => ?_), fun hx => ?_, hn⟩
  · rcases List.mem_cons.1 hx with q | q
    · exact hk b n n (by rw [← e]; exact hv) q
    · exact hb (hs b q ho.lt)
  · rcases hg b hx with q | q
    · exact hb q
    · have := ho.lt
      omega
theorem Kept.add {w : World} {F : List Nat} {t : TypeId} {sz n k : Nat} {rc vs : List Value} (h : Kept w F t sz rc vs) (ho : Own w k (stampArr n sz rc) t) (hk : k ∉ F) (hn : n ≤ 9223372036854775807) : Kept w F t sz rc (vs ++ [.slice (some ⟨k, 0, none⟩) n n]) := fun v hv => by
  rcases List.mem_append.1 hv with q | q
  · exact h v q
  · simp at q
    exact ⟨k, n, q, ho, hk, hn⟩
/-- A list behind a law's cell. -/
structure KL where
  b : Option Addr
  n : Nat
  c : Nat
  vs : List Value
def KL.val (x : KL) : Value := .slice x.b x.n x.c
def KL.nil : KL := ⟨none, 0, 0, []⟩
theorem KL.ld {w : World} {a s : Nat} {C : Array Value} {WT LT : TypeId} {x : KL} {j : Int} {b : Option Addr} {n c : Nat} {K : Option Addr → Nat → Nat → Prop} (ho : Own w a C WT) (hC : C[s]? = some x.val) (hrow : Row w x.b x.n x.c 1 LT x.vs) (h0 : 0 ≤ j) (hj : x.vs[j.toNat]? = some (.slice b n c)) (hK : K b n c) :
    Pn (some ⟨a, 0, none⟩) fun y => LdL (y.add s) w fun b l c => Pn b fun a1 => (0 ≤ j ∧ j < ((l : Nat) : Int)) ∧ LdL (Addr.add a1 (j.toNat * 1)) w K := by
  have hlt := (List.getElem?_eq_some_iff.1 hj).1
  have hl := hrow.1
  obtain ⟨k, hk, cs, hok, hc⟩ := hrow.at (i := j.toNat) (by omega) (by omega)
  refine Pn.mk (LdL.cell (by rw [add_mk, Nat.zero_add]; exact ho.cell hC) ?_)
  rw [hk]
  refine Pn.mk ⟨⟨h0, by omega⟩, LdL.cell ?_ hK⟩
  rw [add_mk, Nat.zero_add, hok.cell_eq]
  have := hc 0 (by omega)
  rw [Nat.add_zero] at this
  rw [this, Nat.mul_one]
  exact hj
end Go.Vc
