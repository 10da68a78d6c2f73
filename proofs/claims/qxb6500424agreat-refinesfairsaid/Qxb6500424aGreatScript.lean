/-
  The input of every law of this seat: a slice of api.Op. Read off the kit's 'Trod' into plain cells.
-/
import Derived.Test.Qxb6500424aGreatVcD
import Derived.Deep.Slices
import Derived.OpenShut
import Derived.SizedLaws
namespace Go.Vc
open Go.ChangeShapes Go.WideShapes

/-- One element of a script. -/
structure OpV where
  k : Int
  a : Int
  b : Int
  c : Int
  s : ByteArray
  t : ByteArray

structure OpV.Wf (o : OpV) : Prop where
  k : -9223372036854775808 ≤ o.k ∧ o.k ≤ 9223372036854775807
  a : -9223372036854775808 ≤ o.a ∧ o.a ≤ 9223372036854775807
  b : -9223372036854775808 ≤ o.b ∧ o.b ≤ 9223372036854775807
  c : -9223372036854775808 ≤ o.c ∧ o.c ≤ 9223372036854775807
  s : o.s.size ≤ 140737488351232
  t : o.t.size ≤ 140737488351232

structure OpAt (w : World) (x : Addr) (o : OpV) : Prop where
  blk : x.block < w.heap.size
  k : w.cell? x = some (.int .i64 o.k)
  a : w.cell? (x.add 1) = some (.int .i64 o.a)
  b : w.cell? (x.add 2) = some (.int .i64 o.b)
  c : w.cell? (x.add 3) = some (.int .i64 o.c)
  s : w.cell? (x.add 4) = some (.string o.s)
  t : w.cell? (x.add 5) = some (.string o.t)
  wf : o.Wf

/-- The slice 'sb' of 'n' elements is a script. -/
def ScriptIs (w : World) (sb : Option Addr) (n : Nat) (ops : Nat → OpV) : Prop :=
  n ≤ 140737488351232 ∧ ∀ i, i < n → ∃ x : Addr, sb = some x ∧ OpAt w (x.add (i * 6)) (ops i)

theorem wf_i64 {n : Int} (h : (Lit.int .i64 n).wf = true) : -9223372036854775808 ≤ n ∧ n ≤ 9223372036854775807 := by
  have h1 : (decide ((-9223372036854775808 : Int) ≤ n) && decide (n ≤ (9223372036854775807 : Int))) = true := h
  simpa using h1

theorem cell_of_cells {w : World} {base : Nat} {x : Addr} {n : Nat} {cs : List Value} (h : w.cells? base x n = some cs) {j : Nat} (hj : j < n) {v : Value} (hv : cs[j]? = some v) : w.cell? (x.add j) = some v := by
  obtain ⟨_, _, h3⟩ := World.cells?_some h
  rw [h3 j hj]
  exact hv

theorem lt_of_cell {w : World} {x : Addr} {v : Value} (h : w.cell? x = some v) : x.block < w.heap.size := by
  apply Classical.byContradiction
  intro hn
  simp [World.cell?, Array.getElem?_eq_none (Nat.le_of_not_lt hn)] at h

theorem take_one {cs : List Value} {j : Nat} {v : Value} (h : (cs.drop j).take 1 = [v]) : cs[j]? = some v := by
  have h1 : ((cs.drop j).take 1)[0]? = some v := by rw [h]; rfl
  simpa using h1

section
variable {H : Type} {enc : TypeId × Value → H} {P : Program} {w : World} {base : Nat} {spare : Nat → Bool} {held : Bool}

theorem op_int {fs : Array Field} {xs : List (DataW H × List MemPlace)} {n i : Nat} {cs : List Value} {f : Field} (hf : fs[i]? = some f) (hl : xs.length = fs.size)
    (h : ∀ (i : Nat) (f : Field), fs[i]? = some f → DataW.trod enc P w base spare held n f.type ((cs.drop f.offset).take (P.cellsOf f.type)) = xs[i]?)
    (hu : P.underlying f.type = some (.int .i64)) (hc : P.cellsOf f.type = 1) : ∃ z, cs[f.offset]? = some (.int .i64 z) ∧ -9223372036854775808 ≤ z ∧ z ≤ 9223372036854775807 := by
  have h1 := h i f hf
  have hi : i < xs.length := by
    rw [hl]
    exact (Array.getElem?_eq_some_iff.1 hf).1
  rw [List.getElem?_eq_getElem hi, hc] at h1
  obtain ⟨z, hz, _, hw⟩ := DataW.trod_int hu h1
  exact ⟨z, take_one hz, wf_i64 hw⟩

theorem op_str {fs : Array Field} {xs : List (DataW H × List MemPlace)} {n i : Nat} {cs : List Value} {f : Field} (hf : fs[i]? = some f) (hl : xs.length = fs.size)
    (h : ∀ (i : Nat) (f : Field), fs[i]? = some f → DataW.trod enc P w base spare held n f.type ((cs.drop f.offset).take (P.cellsOf f.type)) = xs[i]?)
    (hu : P.underlying f.type = some .string) (hc : P.cellsOf f.type = 1) : ∃ z : ByteArray, cs[f.offset]? = some (.string z) ∧ (xs.map (·.1))[i]? = some (.lit (.string z.data.toList)) := by
  have h1 := h i f hf
  have hi : i < xs.length := by
    rw [hl]
    exact (Array.getElem?_eq_some_iff.1 hf).1
  rw [List.getElem?_eq_getElem hi, hc] at h1
  obtain ⟨z, hz, hx, hw⟩ := DataW.trod_string hu h1
  refine ⟨z, take_one hz, ?_⟩
  rw [List.getElem?_map, List.getElem?_eq_getElem hi, hx]
  rfl

theorem weightsAll_mem {e : TypeId} {d : DataW H} {m : Nat} (hm : m ∈ d.weights P e) : ∀ {l : List (DataW H)}, d ∈ l → m ∈ DataW.weightsAll P e l
  | d0 :: r, h => by
    simp only [DataW.weightsAll, List.mem_append]
    rcases List.mem_cons.1 h with rfl | h
    · exact Or.inl hm
    · exact Or.inr (weightsAll_mem hm h)

/-- The script, opened. -/
theorem script_open {t e : TypeId} {fs : Array Field} {f0 f1 f2 f3 f4 f5 : Field} {fuel : Nat} {sb : Option Addr} {n c : Nat} {x : DataW H × List MemPlace}
    (ht : P.underlying t = some (.slice e)) (he : P.underlying e = some (.struct fs)) (h6 : P.cellsOf e = 6)
    (e0 : fs[0]? = some f0) (e1 : fs[1]? = some f1) (e2 : fs[2]? = some f2) (e3 : fs[3]? = some f3) (e4 : fs[4]? = some f4) (e5 : fs[5]? = some f5)
    (o0 : f0.offset = 0) (o1 : f1.offset = 1) (o2 : f2.offset = 2) (o3 : f3.offset = 3) (o4 : f4.offset = 4) (o5 : f5.offset = 5)
    (u0 : P.underlying f0.type = some (.int .i64)) (u1 : P.underlying f1.type = some (.int .i64)) (u2 : P.underlying f2.type = some (.int .i64)) (u3 : P.underlying f3.type = some (.int .i64)) (u4 : P.underlying f4.type = some .string) (u5 : P.underlying f5.type = some .string)
    (c0 : P.cellsOf f0.type = 1) (c1 : P.cellsOf f1.type = 1) (c2 : P.cellsOf f2.type = 1) (c3 : P.cellsOf f3.type = 1) (c4 : P.cellsOf f4.type = 1) (c5 : P.cellsOf f5.type = 1)
    (hb : 1 ≤ P.bytesOf e)
    (h : DataW.trod enc P w base spare held fuel t [.slice sb n c] = some x) (hz : ∀ m ∈ x.1.weights P t, m ≤ reachBytes) : ∃ ops, ScriptIs w sb n ops := by
  rcases Go.Deep.open_slice ht h with ⟨hcs, _⟩ | ⟨a, len, cap, m, k, D, Pl, hcs, _, hl, hm, hmm, hxx, hx⟩
  · simp at hcs
    obtain ⟨rfl, rfl, rfl⟩ := hcs
    exact ⟨fun _ => ⟨0, 0, 0, 0, .empty, .empty⟩, by simp, fun i hi => absurd hi (Nat.not_lt_zero _)⟩
  · simp at hcs
    obtain ⟨rfl, rfl, rfl⟩ := hcs
    have hle : n ≤ m := by rw [hmm]; split <;> omega
    subst hxx
    have hn : n ≤ 140737488351232 := by
      have h1 := hz ((n + (m - n)) * P.bytesOf e) (by simp [DataW.weights, ht])
      have h2 : (n + (m - n)) * 1 ≤ (n + (m - n)) * P.bytesOf e := Nat.mul_le_mul_left _ hb
      unfold reachBytes at h1
      omega
    have key : ∀ i, i < n → ∃ o, OpAt w (a.add (i * 6)) o := by
      intro i hi
      obtain ⟨cs, hc, htr⟩ := hx i (by omega)
      rw [h6] at hc
      obtain ⟨xs, k', _, hag, _, hxl, hfs⟩ := DataW.trod_struct he htr
      have hD : D i = .agg (xs.map (·.1)) := congrArg Prod.fst hag
      have hwt : ∀ (j : Nat) (f : Field) (z : ByteArray), fs[j]? = some f → (xs.map (·.1))[j]? = some (.lit (.string z.data.toList)) → z.size ≤ 140737488351232 := by
        intro j f z hf hj
        have h1 : z.data.toList.length ∈ (D i).weights P e := by
          rw [hD]
          simp only [DataW.weights, he]
          refine DataW.weights_mem_each (j := j) (t := f.type) (by simp [hf]) hj _ ?_
          simp [DataW.weights]
        have h2 := hz z.data.toList.length (by
          simp only [DataW.weights, ht, List.mem_cons, List.mem_append]
          exact Or.inr (Or.inl (weightsAll_mem h1 (List.mem_map.2 ⟨i, List.mem_range.2 hi, rfl⟩))))
        have h3 : z.data.toList.length = z.size := by
          rw [Array.length_toList]
          rfl
        rw [h3] at h2
        exact h2
      obtain ⟨z0, g0, r0⟩ := op_int e0 hxl hfs u0 c0
      obtain ⟨z1, g1, r1⟩ := op_int e1 hxl hfs u1 c1
      obtain ⟨z2, g2, r2⟩ := op_int e2 hxl hfs u2 c2
      obtain ⟨z3, g3, r3⟩ := op_int e3 hxl hfs u3 c3
      obtain ⟨z4, g4, r4⟩ := op_str e4 hxl hfs u4 c4
      obtain ⟨z5, g5, r5⟩ := op_str e5 hxl hfs u5 c5
      rw [o0] at g0
      rw [o1] at g1
      rw [o2] at g2
      rw [o3] at g3
      rw [o4] at g4
      rw [o5] at g5
      have q0 : w.cell? (a.add (i * 6)) = some (.int .i64 z0) := by
        have := cell_of_cells hc (by omega) g0
        simpa [Go.Deep.add_add] using this
      exact ⟨⟨z0, z1, z2, z3, z4, z5⟩, lt_of_cell q0, q0, cell_of_cells hc (by omega) g1, cell_of_cells hc (by omega) g2, cell_of_cells hc (by omega) g3, cell_of_cells hc (by omega) g4, cell_of_cells hc (by omega) g5, ⟨r0, r1, r2, r3, hwt 4 _ _ e4 r4, hwt 5 _ _ e5 r5⟩⟩
    refine ⟨fun i => if hi : i < n then Classical.choose (key i hi) else ⟨0, 0, 0, 0, .empty, .empty⟩, hn, fun i hi => ⟨a, rfl, ?_⟩⟩
    simp only [dif_pos hi]
    exact Classical.choose_spec (key i hi)
end
end Go.Vc
