/-
  seg: sequence numbers, the sums of both sides.
-/
import Derived.Test.Qxb6500426aBytes
import Derived.Test.Qxb6500426aSame
set_option linter.unusedVariables false
set_option linter.unusedSimpArgs false
open Go.Vc
namespace Go.Proofs.Qxb6500426a

/-! ### sequence numbers -/
theorem tmod256 (x : Int) : x.tmod 256 = x % 256 ∨ x.tmod 256 = x % 256 - 256 := by
  rw [Int.tmod_eq_emod]
  split
  · exact .inl (by omega)
  · exact .inr (by simp)
theorem tmod_pos {x : Int} (n : Int) (h : 0 ≤ x) : x.tmod n = x % n := Int.tmod_eq_emod_of_nonneg h
def sqAdd (a n : Int) : Int := (a + n) % 256
theorem sqAdd_bd (a n : Int) : 0 ≤ sqAdd a n ∧ sqAdd a n < 256 := by unfold sqAdd; omega
theorem sqAdd_low {a : Int} (h : 0 ≤ a ∧ a < 256) : sqAdd a 0 = a := by unfold sqAdd; omega
def sqDiff (a b : Int) : Int := if 128 ≤ (a - b) % 256 then (a - b) % 256 - 256 else (a - b) % 256
theorem sqDiff_bd (a b : Int) : -128 ≤ sqDiff a b ∧ sqDiff a b < 128 := by unfold sqDiff; split <;> omega
section
variable {w : World}
theorem seqAdd_ok {a n : Int} {R : Int → World → Prop} (hR : R (sqAdd a n) w) : api_SeqAdd.Call a n w R := by
  apply api_SeqAdd.sound
  unfold api_SeqAdd.B0
  refine ⟨by decide, by decide, by decide, by decide, ?_⟩
  have h1 := tmod256 a
  have h2 := tmod256 n
  rw [w64 (x := a.tmod 256 + n.tmod 256) (by omega) (by omega)]
  have h3 := tmod256 (a.tmod 256 + n.tmod 256)
  rw [w64 (x := (a.tmod 256 + n.tmod 256).tmod 256 + 256) (by omega) (by omega), tmod_pos _ (by omega)]
  have e : ((a.tmod 256 + n.tmod 256).tmod 256 + 256) % 256 = sqAdd a n := by unfold sqAdd; omega
  rw [e]
  exact hR
theorem seqDiff_ok {a b : Int} {R : Int → World → Prop} (hR : R (sqDiff a b) w) : api_SeqDiff.Call a b w R := by
  apply api_SeqDiff.sound
  unfold api_SeqDiff.B0
  refine ⟨by decide, ?_⟩
  have h1 := tmod256 b
  rw [w64 (x := 0 - b.tmod 256) (by omega) (by omega)]
  refine seqAdd_ok ?_
  have e : sqAdd a (0 - b.tmod 256) = (a - b) % 256 := by unfold sqAdd; omega
  rw [e]
  unfold sqDiff at hR
  refine Bm.ite (fun h => ?_) fun h => ?_
  · rw [if_pos h] at hR
    rw [w64 (by omega) (by omega)]
    exact hR
  · rw [if_neg h] at hR
    exact hR
def leastN (mx : Int) (have0 : Nat) : Nat := (min mx (have0 : Int)).toNat
theorem leastN_le (mx : Int) (k : Nat) : leastN mx k ≤ k := by unfold leastN; omega
theorem least_ok {mx : Int} {k : Nat} {R : Int → World → Prop} (hR : R (leastN mx k : Int) w) : seg_least.Call mx (k : Int) w R := by
  apply seg_least.sound
  unfold seg_least.B0 seg_least.B1
  unfold leastN at hR
  refine Bm.ite (fun h => ?_) fun h => ?_
  · refine Bm.ite (fun h2 => absurd h2 (by omega)) fun h2 => ?_
    rw [show (((min mx (k : Int)).toNat : Nat) : Int) = (k : Int) by omega] at hR
    exact hR
  · refine Bm.ite (fun h2 => ?_) fun h2 => ?_
    · rw [show (((min mx (k : Int)).toNat : Nat) : Int) = 0 by omega] at hR
      exact hR
    · rw [show (((min mx (k : Int)).toNat : Nat) : Int) = mx by omega] at hR
      exact hR
end
/-! ### the plain sums -/
def sumS : List Int → Int
  | [] => 0
  | x :: r => x + sumS r
def sumW : List Int → Int
  | [] => 0
  | x :: r => ((r.length : Int) + 1) * x + sumW r
theorem sumS_snoc (v : List Int) (x : Int) : sumS (v ++ [x]) = sumS v + x := by
  induction v with
  | nil => simp [sumS]
  | cons y r ih => simp only [List.cons_append, sumS, ih]; omega
theorem sumW_snoc (v : List Int) (x : Int) : sumW (v ++ [x]) = sumW v + sumS v + x := by
  induction v with
  | nil => simp [sumW, sumS]
  | cons y r ih =>
    simp only [List.cons_append, sumW, sumS, ih, List.length_append, List.length_cons, List.length_nil]
    have e : (((r.length + (0 + 1) : Nat) : Int) + 1) * y = ((r.length : Int) + 1) * y + y := by
      have : (((r.length + (0 + 1) : Nat) : Int) + 1) = ((r.length : Int) + 1) + 1 := by omega
      rw [this, Int.add_mul]
      omega
    rw [e]
    omega
/-! ### the real side's running pair -/
def SumAt (w : World) (u : Nat) (v : List Int) : Prop := Own w u #[.int .u8 (sumS v % 256), .int .u8 (sumW v % 256)] T_seg_sums
theorem sumAdd_ok {w : World} {u : Nat} {v : List Int} {x : Int} {R : World → Prop} (hu : SumAt w u v)
    (hR : ∀ w', SumAt w' u (v ++ [x]) → Ext [u] w w' → w'.heap.size = w.heap.size → R w') : seg_sums_add.Call (some ⟨u, 0, none⟩) x w R := by
  apply seg_sums_add.sound
  unfold seg_sums_add.B0
  simp only [Pn, add_mk, Nat.zero_add]
  unfold SumAt at hu
  refine LdI.mk hu rfl (Sts.mk hu (by simp) rfl fun w1 hs1 ho1 he1 => ?_)
  have ho2 := ho1.drew
  refine LdI.mk ho2 rfl (LdI.mk ho2 rfl (Sts.mk ho2 (by simp [size_putArr]) rfl fun w2 hs2 ho3 he3 => ?_))
  refine hR w2 ?_ (he1.trans ((Ext.drew _ _).trans he3)) (by rw [hs2]; exact hs1)
  unfold SumAt
  have e1 : IntKind.u8.wrap (sumS v % 256 + x) = sumS (v ++ [x]) % 256 := by
    rw [wrap8_eq, sumS_snoc]
    omega
  have e2 : IntKind.u8.wrap (sumW v % 256 + IntKind.u8.wrap (sumS v % 256 + x)) = sumW (v ++ [x]) % 256 := by
    rw [wrap8_eq, wrap8_eq, sumW_snoc]
    omega
  rw [← e2, ← e1]
  exact ho3
theorem get_lt {α : Type} {L : List α} {n : Nat} (h : n < L.length) : ∃ a, L[n]? = some a := ⟨L[n], List.getElem?_eq_getElem h⟩
theorem take1 {α : Type} {L : List α} {n : Nat} {a : α} (h : L[n]? = some a) : L.take (n + 1) = L.take n ++ [a] := by
  rw [List.take_add_one, h]; rfl
theorem addr_k (r o : Nat) (k : Nat) : Addr.add ⟨r, o, none⟩ ((k : Int).toNat * 1) = ⟨r, o + k, none⟩ := by
  rw [add_mk, Int.toNat_natCast]; simp
/-- A byte loaded at a number of the loop's. -/
theorem Rd.ldn {w : World} {b : Option Addr} {v : List Int} (h : Rd w b v) {i : Nat} {x : Int} (hx : v[i]? = some x) {l : Nat} (hl : v.length = l) {K : Int → Prop} (hk : K x) : Pn b fun a => (0 ≤ (i : Int) ∧ (i : Int) < (l : Int)) ∧ LdI .u8 (Addr.add a ((i : Int).toNat * 1)) w K := by
  have hi := (List.getElem?_eq_some_iff.1 hx).1
  obtain ⟨k, o, rfl, hc⟩ := h.at hx
  refine Pn.mk ⟨⟨by omega, by omega⟩, LdI.cell ?_ hk⟩
  rw [addr_k]
  exact hc
theorem sumAll_ok {w : World} {u : Nat} {v p : List Int} {b : Option Addr} {l c : Nat} {R : World → Prop} (hu : SumAt w u v) (hp : ∀ w', Ext [u] w w' → Rd w' b p) (hl : p.length = l) (hb : l ≤ 281474976710656)
    (hR : ∀ w', SumAt w' u (v ++ p) → Ext [u] w w' → w'.heap.size = w.heap.size → R w') : seg_sums_all.Call (some ⟨u, 0, none⟩) b l c w R := by
  apply seg_sums_all.sound
  unfold seg_sums_all.B0 seg_sums_all.L1
  refine ⟨fun m x' b' l' c' i w' => ∃ n : Nat, n ≤ l ∧ m = l - n ∧ some ⟨u, 0, none⟩ = x' ∧ b = b' ∧ l = l' ∧ i = (n : Int) ∧ SumAt w' u (v ++ p.take n) ∧ Ext [u] w w' ∧ w'.heap.size = w.heap.size, _,
    ⟨0, by omega, rfl, rfl, rfl, rfl, rfl, by simpa using hu, Ext.refl _ _, rfl⟩, ?_⟩
  rintro m x' b' l' c' i w' ⟨n, hn, rfl, rfl, rfl, rfl, rfl, hu', he', hs'⟩
  unfold seg_sums_all.L1b
  refine Bm.ite (fun hlt => ?_) fun hge => ?_
  · obtain ⟨x, hx⟩ := get_lt (L := p) (n := n) (by omega)
    have hp' := hp w' he'
    refine hp'.ldn hx hl (sumAdd_ok hu' fun w2 hu2 he2 hs2 => ⟨l - (n + 1), by omega, n + 1, by omega, rfl, rfl, rfl, rfl, by rw [w64 (by omega) (by omega)]; omega, ?_, he'.trans he2, by omega⟩)
    rw [take1 hx, ← List.append_assoc]
    exact hu2
  · rw [List.take_of_length_le (by omega)] at hu'
    exact hR w' hu' he' hs'
theorem Rd.old {w w' : World} {b : Option Addr} {v : List Int} {S : List Nat} (h : Rd w b v) (he : Ext S w w') (hs : ∀ k ∈ S, w.heap.size ≤ k) : Rd w' b v := by
  rcases h.2 with rfl | ⟨k, o, e, hlt, _⟩
  · exact Rd.nil _ _
  · exact h.ext he (fun k' o' e' hx => by
      rw [e] at e'
      simp at e'
      have := hs k' hx
      omega)
theorem over_ok {w : World} {src dst : Int} {hb db : Option Addr} {hl hc dl dc : Nat} {H D : List Int} {R : Int → Int → World → Prop} (hs : 0 ≤ src ∧ src < 256) (hd : 0 ≤ dst ∧ dst < 256) (hH : Rd w hb H) (hHl : H.length = hl) (hD : Rd w db D) (hDl : D.length = dl) (bl : hl ≤ 1000 ∧ dl ≤ 1000)
    (hR : ∀ w', Ext [] w w' → R (sumS ([src, dst] ++ H ++ D) % 256) (sumW ([src, dst] ++ H ++ D) % 256) w') : seg_over.Call src dst hb hl hc db dl dc w R := by
  apply seg_over.sound
  unfold seg_over.B0
  refine New.mk fun r0 w1 e1 s1 o1 he1 => New.mk fun r w2 e2 s2 o2 he2 => Sts.full (vs := [.int .u8 0, .int .u8 0]) o2 rfl rfl fun w3 hs3 o3 he3 => ?_
  rw [wrap8_id hs.1 hs.2, wrap8_id hd.1 hd.2]
  have h3 : SumAt w3 r [] := o3
  have z1 := he1.size
  have ex3 : Ext [r] w w3 := ((he1.trans he2).nil).trans he3
  have hr : ∀ k ∈ [r], w.heap.size ≤ k := fun k hk => by simp at hk; omega
  refine sumAdd_ok h3 fun w4 h4 he4 hs4 => sumAdd_ok h4 fun w5 h5 he5 hs5 => sumAll_ok h5 (fun w' he => hH.old (((ex3.trans he4).trans he5).trans he) hr) hHl (by omega) fun w6 h6 he6 hs6 =>
    sumAll_ok h6 (fun w' he => hD.old ((((ex3.trans he4).trans he5).trans he6).trans he) hr) hDl (by omega) fun w7 h7 he7 hs7 => ?_
  have ex7 : Ext [r] w1 w7 := (((((he2.nil).trans he3).trans he4).trans he5).trans he6).trans he7
  have o7 := ex7.own o1 (by simp; omega)
  unfold SumAt at h7
  refine LdI.mk h7 rfl (LdI.mk h7 rfl (Sts.full (vs := [.int .u8 (sumS ([] ++ [src] ++ [dst] ++ H ++ D) % 256), .int .u8 (sumW ([] ++ [src] ++ [dst] ++ H ++ D) % 256)]) o7 rfl rfl fun w8 hs8 o8 he8 => LdI.mk o8 rfl (LdI.mk o8 rfl (hR w8 ?_))))
  exact (he1.trans' ex7 (fun x hx hlt => by simp at hx; omega)).trans' he8 (fun x hx hlt => by simp at hx; omega)
/-! ### the model's sums -/
theorem Bf.row {w : World} {k : Nat} {v : List Int} (h : Bf w k v) : Row w (some ⟨k, 0, none⟩) v.length v.length 1 T_uint8 (U8 v) :=
  ⟨by rw [U8_length]; omega, Nat.le_refl _, .inr ⟨k, _, rfl, h.1, by simp [U8], by rw [List.take_of_length_le (by simp [U8])]⟩⟩
theorem row_rd {w : World} {b : Option Addr} {l c : Nat} {v : List Int} (h : Row w b l c 1 T_uint8 (U8 v)) (hb : IsB v) : Rd w b v := by
  refine ⟨hb, ?_⟩
  have hl : v.length = l := by have := h.1; rw [U8_length] at this; omega
  rcases h.2.2 with ⟨_, hc⟩ | ⟨k, cs, rfl, ho, hs, ht⟩
  · exact .inl (List.eq_nil_of_length_eq_zero (by have := h.2.1; omega))
  · refine .inr ⟨k, 0, rfl, ho.lt, fun i x hx => ho.cell ?_⟩
    have hi := (List.getElem?_eq_some_iff.1 hx).1
    have h1 : (cs.toList.take (l * 1))[i]? = some (.int .u8 x) := by rw [ht, U8_get, hx]; rfl
    rw [List.getElem?_take, if_pos (by omega)] at h1
    simpa using h1
theorem u8app (a b : List Int) : U8 a ++ U8 b = U8 (a ++ b) := by simp [U8]
/-- An append of bytes. -/
theorem app8 {w : World} {b : Option Addr} {l c : Nat} {v : List Int} {xb : Option Addr} {n : Nat} {x : List Int} {K : Option Addr → Nat → World → Prop} (hr : Row w b l c 1 T_uint8 (U8 v)) (hx : Rd w xb x) (hn : x.length = n) (hl : l + n ≤ 100000)
    (hk : ∀ b' c' w', Row w' b' (l + n) c' 1 T_uint8 (U8 (v ++ x)) → Ext (rowBlk b) w w' → (∀ k ∈ rowBlk b', k ∈ rowBlk b ∨ w.heap.size ≤ k) → K b' c' w') : Append 5 (.int .u8 0) 1 1 b l c xb n w K :=
  Vc.Append.mk (e := T_uint8) hr hx.cells (by rw [U8_length]; omega) rfl (U8_all x) (by omega) (by omega) fun b' c' w' h1 h2 h3 => hk b' c' w' (by rw [← u8app]; exact h1) h2 fun k hk' => (h3 k hk').imp id fun q => q.1
theorem drop_cons {p : List Int} {i : Nat} {x : Int} (hx : p[i]? = some x) : p.drop i = x :: p.drop (i + 1) := by
  obtain ⟨h, e⟩ := List.getElem?_eq_some_iff.1 hx
  rw [← e, List.getElem_cons_drop]
theorem sumS_app (u v : List Int) : sumS (u ++ v) = sumS u + sumS v := by
  induction u with
  | nil => simp [sumS]
  | cons x r ih => simp only [List.cons_append, sumS, ih]; omega
theorem modSums_ok {w : World} {src dst : Int} {hb db : Option Addr} {hl hc dl dc : Nat} {H D : List Int} {R : Int → Int → World → Prop} (hs : 0 ≤ src ∧ src < 256) (hd : 0 ≤ dst ∧ dst < 256) (hH : Rd w hb H) (hHl : H.length = hl) (hD : Rd w db D) (hDl : D.length = dl) (bl : hl ≤ 1000 ∧ dl ≤ 1000)
    (hR : ∀ w', Ext [] w w' → R (sumS ([src, dst] ++ H ++ D) % 256) (sumW ([src, dst] ++ H ++ D) % 256) w') : segm_sums.Call src dst hb hl hc db dl dc w R := by
  apply segm_sums.sound
  unfold segm_sums.B0
  rw [wrap8_id hs.1 hs.2, wrap8_id hd.1 hd.2]
  refine New.mk fun r w1 e1 s1 o1 he1 => ?_
  have b1 : Bf w1 r [src, dst] := ⟨o1, fun x hx => by simp at hx; omega⟩
  refine app8 b1.row (hH.ext0 he1) hHl (by show 2 + hl ≤ _; omega) fun b2 c2 w2 hr2 he2 hb2 => app8 hr2 (hD.old ((he1.nil).trans he2) (fun k hk => by simp [rowBlk] at hk; omega)) hDl (by show 2 + hl + dl ≤ _; omega) fun b3 c3 w3 hr3 he3 hb3 => ?_
  have z1 := he1.size
  have ex2 : Ext [] w w2 := he1.trans' he2 (fun k hk hlt => by simp [rowBlk] at hk; omega)
  have ex3 : Ext [] w w3 := ex2.trans' he3 (fun k hk hlt => by
    rcases hb2 k hk with q | q
    · simp [rowBlk] at q; omega
    · omega)
  generalize hV : [src, dst] ++ H ++ D = V at hr3 hR
  have hVb : IsB V := by rw [← hV]; exact (b1.2.append hH.isB).append hD.isB
  have hVl : V.length = 2 + hl + dl := by rw [← hV]; simp; omega
  have rd3 := row_rd hr3 hVb
  unfold segm_sums.L1
  refine ⟨fun m b' l' c' a bb i w' => ∃ n : Nat, n ≤ V.length ∧ m = V.length - n ∧ b3 = b' ∧ 2 + hl + dl = l' ∧ i = (n : Int) ∧ w3 = w' ∧ 0 ≤ a ∧ a < 256 ∧ 0 ≤ bb ∧ bb < 256 ∧ (a + sumS (V.drop n)) % 256 = sumS V % 256 ∧ (bb + sumW (V.drop n)) % 256 = sumW V % 256, _,
    ⟨0, by omega, rfl, rfl, rfl, rfl, rfl, by omega, by omega, by omega, by omega, by simp, by simp⟩, ?_⟩
  rintro m b' l' c' a bb i w' ⟨n, hn, rfl, rfl, rfl, rfl, rfl, a0, a1, b0, b1', qa, qb⟩
  unfold segm_sums.L1b
  refine Bm.ite (fun hlt => ?_) fun hge => ?_
  · obtain ⟨x, hx⟩ := get_lt (L := V) (n := n) (by omega)
    have hxb := hVb.get hx
    refine rd3.ldn hx (by omega) ⟨by decide, rd3.ldn hx (by omega) ⟨by decide, ?_⟩⟩
    rw [w64b hxb, w64 (x := a + x) (by omega) (by omega), tmod_pos _ (by omega)]
    have hk : 0 ≤ ((2 + hl + dl : Nat) : Int) - (n : Int) := by omega
    have hk2 : ((2 + hl + dl : Nat) : Int) - (n : Int) ≤ 2002 := by omega
    rw [w64 (x := ((2 + hl + dl : Nat) : Int) - (n : Int)) (by omega) (by omega)]
    have m0 : 0 ≤ (((2 + hl + dl : Nat) : Int) - (n : Int)) * x := Int.mul_nonneg hk hxb.1
    have m1 : (((2 + hl + dl : Nat) : Int) - (n : Int)) * x ≤ 2002 * 256 := Int.mul_le_mul hk2 (by omega) hxb.1 (by omega)
    rw [w64 (x := (((2 + hl + dl : Nat) : Int) - (n : Int)) * x) (by omega) (by omega), w64 (x := bb + (((2 + hl + dl : Nat) : Int) - (n : Int)) * x) (by omega) (by omega), tmod_pos _ (by omega)]
    refine ⟨V.length - (n + 1), by omega, n + 1, by omega, rfl, rfl, rfl, by rw [w64 (by omega) (by omega)]; omega, rfl, by omega, by omega, by omega, by omega, ?_, ?_⟩
    · rw [drop_cons hx, sumS] at qa
      omega
    · rw [drop_cons hx, sumW, List.length_drop] at qb
      have e : (((V.length - (n + 1) : Nat) : Int) + 1) = ((2 + hl + dl : Nat) : Int) - (n : Int) := by omega
      rw [e] at qb
      omega
  · have en : n = V.length := by omega
    subst en
    rw [List.drop_of_length_le (Nat.le_refl _)] at qa qb
    simp only [sumS, sumW, Int.add_zero] at qa qb
    rw [show a = sumS V % 256 by omega, show bb = sumW V % 256 by omega]
    exact hR w3 ex3
end Go.Proofs.Qxb6500426a
