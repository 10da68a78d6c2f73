/-
  ip: the model's state and its small functions.
-/
import Derived.Test.Qxb6500425aIpR
import Derived.Test.Qxb6500425aVcF
set_option linter.unusedVariables false
set_option linter.unusedSimpArgs false
open Go.Vc
namespace Go.Proofs.Qxb6500425a

structure ME where
  src : Int
  proto : Int
  id : Int
  left : Int
  total : Int
  blk : Nat
  cell : List Int
def ME.vals (e : ME) : List Value := [.int .i64 e.src, .int .i64 e.proto, .int .i64 e.id, .int .i64 e.left, .int .i64 e.total, .slice (some ⟨e.blk, 0, none⟩) 40 40]
def ME.abs (e : ME) : AR := ⟨e.src * 65536 + e.proto * 256 + e.id, e.left, e.total, e.cell⟩
theorem ME.vals_len (e : ME) : e.vals.length = 6 := rfl
structure MeWf (w : World) (e : ME) : Prop where
  own : Own w e.blk (i64L e.cell).toArray 3
  len : e.cell.length = 40
  src : 0 ≤ e.src ∧ e.src < 256
  proto : 0 ≤ e.proto ∧ e.proto < 256
  id : 0 ≤ e.id ∧ e.id < 256
theorem MeWf.ext {w w' : World} {e : ME} {S : List Nat} (h : MeWf w e) (he : Ext S w w') (hs : e.blk ∉ S) : MeWf w' e := ⟨he.own h.own hs, h.len, h.src, h.proto, h.id⟩
def tabV (L : List ME) : List Value := L.flatMap ME.vals
structure MS where
  addr : Int
  next : Int
  credit : Int
  tb : Option Addr
  tc : Nat
  L : List ME
def MS.rows (M : MS) : List AR := M.L.map ME.abs
def MS.foot (M : MS) (q : Nat) : List Nat := q :: (rowBlk M.tb ++ M.L.map ME.blk)
structure ModAt (w : World) (q : Nat) (M : MS) : Prop where
  own : Own w q #[.int .i64 M.addr, .int .i64 M.next, .int .i64 M.credit, .slice M.tb M.L.length M.tc] 57
  row : Row w M.tb M.L.length M.tc 6 85 (tabV M.L)
  ent : ∀ e ∈ M.L, MeWf w e
  ne : M.L.Pairwise (fun a b => a.blk ≠ b.blk)
theorem rowTy {w : World} {b : Option Addr} {l c sz : Nat} {t : TypeId} {vs : List Value} {k : Nat} (hr : Row w b l c sz t vs) (hk : k ∈ rowBlk b) : ∃ cs, Own w k cs t := by
  rcases hr.2.2 with ⟨rfl, _⟩ | ⟨k', cs, rfl, ho, _⟩
  · simp [rowBlk] at hk
  · simp [rowBlk] at hk
    subst hk
    exact ⟨cs, ho⟩
theorem ModAt.footTy {w : World} {q : Nat} {M : MS} (h : ModAt w q M) {k : Nat} (hk : k ∈ M.foot q) : ∃ cs t, Own w k cs t ∧ (t = 57 ∨ t = 85 ∨ t = 3) := by
  rcases List.mem_cons.1 hk with e | hk
  · subst e; exact ⟨_, _, h.own, .inl rfl⟩
  rcases List.mem_append.1 hk with hk | hk
  · obtain ⟨cs, ho⟩ := rowTy h.row hk
    exact ⟨cs, 85, ho, .inr (.inl rfl)⟩
  · obtain ⟨e, he, rfl⟩ := List.mem_map.1 hk
    exact ⟨_, _, (h.ent e he).own, .inr (.inr rfl)⟩
theorem ModAt.lt {w : World} {q : Nat} {M : MS} (h : ModAt w q M) {k : Nat} (hk : k ∈ M.foot q) : k < w.heap.size := by
  obtain ⟨_, _, ho, _⟩ := h.footTy hk
  exact ho.lt
theorem ModAt.ext {w w' : World} {q : Nat} {M : MS} {S : List Nat} (h : ModAt w q M) (he : Ext S w w') (hs : ∀ k ∈ M.foot q, k ∉ S) : ModAt w' q M :=
  ⟨he.own h.own (hs q (by simp [MS.foot])), h.row.ext he (fun k hk => hs k (by simp [MS.foot, hk])), fun e hm => (h.ent e hm).ext he (hs _ (List.mem_cons_of_mem _ (List.mem_append.2 (.inr (List.mem_map.2 ⟨e, hm, rfl⟩))))), h.ne⟩
theorem ModAt.ext0 {w w' : World} {q : Nat} {M : MS} (h : ModAt w q M) (he : Ext [] w w') : ModAt w' q M := h.ext he (fun k _ hk => by cases hk)
theorem ModAt.drew {w : World} {q : Nat} {M : MS} (h : ModAt w q M) : ModAt w.drew q M := h.ext0 (Ext.drew [] w)
/-- Blocks of other types do no harm. -/
theorem ModAt.extT {w w' : World} {q : Nat} {M : MS} {S : List Nat} (h : ModAt w q M) (he : Ext S w w') (hs : ∀ k ∈ S, ∀ cs t, Own w k cs t → t ≠ 57 ∧ t ≠ 85 ∧ t ≠ 3) : ModAt w' q M :=
  h.ext he (fun k hk hS => by
    obtain ⟨cs, t, ho, ht⟩ := h.footTy hk
    obtain ⟨h1, h2, h3⟩ := hs k hS cs t ho
    rcases ht with e | e | e
    · exact h1 e
    · exact h2 e
    · exact h3 e)

section
variable {w : World} {q : Nat} {M : MS} {i : Int} {e : ME}
theorem ModAt.at (h : ModAt w q M) {j : Nat} (hi : M.L[j]? = some e) : ∃ k, M.tb = some ⟨k, 0, none⟩ ∧ (∀ f, f < 6 → w.cell? ⟨k, j * 6 + f, none⟩ = e.vals[f]?) ∧ k ≠ q ∧ (∀ x ∈ M.L, x.blk ≠ k) := by
  have hlt := (List.getElem?_eq_some_iff.1 hi).1
  obtain ⟨k, hk, cs, ho, hc⟩ := h.row.at hlt (by omega)
  refine ⟨k, hk, fun f hf => ?_, Own.ne_type ho h.own (by decide), fun x hx => Own.ne_type (h.ent x hx).own ho (by decide)⟩
  rw [ho.cell_eq, hc f hf]
  exact flat_get (n := 6) ME.vals_len hi hf
theorem ModAt.ldI {K : Addr → Option Addr → Nat → Nat → Addr → Int → Prop} {f : Nat} {x : Int} (h : ModAt w q M) (h0 : 0 ≤ i) (hi : M.L[i.toNat]? = some e) (hx : e.vals[f]? = some (.int .i64 x)) (hf : f < 6)
    (hK : ∀ k, M.tb = some ⟨k, 0, none⟩ → K ⟨q, 0, none⟩ M.tb M.L.length M.tc ⟨k, 0, none⟩ x) : Pn (some ⟨q, 0, none⟩) fun a => LdL (a.add 3) w fun b l c => Pn b fun a1 => (0 ≤ i ∧ i < ((l : Nat) : Int)) ∧ LdI .i64 ((Addr.add a1 (i.toNat * 6)).add f) w (K a b l c a1) := by
  obtain ⟨k, hk, hc, _⟩ := h.at hi
  have hlt := (List.getElem?_eq_some_iff.1 hi).1
  refine Pn.mk (LdL.cell (by rw [add_mk]; exact h.own.cell rfl) ?_)
  have hK' := hK k hk
  rw [hk] at hK' ⊢
  exact Pn.mk ⟨⟨h0, by omega⟩, LdI.cell (by rw [add_mk, add_mk, Nat.zero_add, hc f hf, hx]) hK'⟩
theorem ModAt.ldI0 {K : Addr → Option Addr → Nat → Nat → Addr → Int → Prop} (h : ModAt w q M) (h0 : 0 ≤ i) (hi : M.L[i.toNat]? = some e)
    (hK : ∀ k, M.tb = some ⟨k, 0, none⟩ → K ⟨q, 0, none⟩ M.tb M.L.length M.tc ⟨k, 0, none⟩ e.src) : Pn (some ⟨q, 0, none⟩) fun a => LdL (a.add 3) w fun b l c => Pn b fun a1 => (0 ≤ i ∧ i < ((l : Nat) : Int)) ∧ LdI .i64 (Addr.add a1 (i.toNat * 6)) w (K a b l c a1) := by
  obtain ⟨k, hk, hc, _⟩ := h.at hi
  have hlt := (List.getElem?_eq_some_iff.1 hi).1
  refine Pn.mk (LdL.cell (by rw [add_mk]; exact h.own.cell rfl) ?_)
  have hK' := hK k hk
  rw [hk] at hK' ⊢
  exact Pn.mk ⟨⟨h0, by omega⟩, LdI.cell (by rw [add_mk, Nat.zero_add]; exact hc 0 (by omega)) hK'⟩
theorem ModAt.ldL {K : Addr → Option Addr → Nat → Nat → Addr → Option Addr → Nat → Nat → Prop} (h : ModAt w q M) (h0 : 0 ≤ i) (hi : M.L[i.toNat]? = some e)
    (hK : ∀ k, M.tb = some ⟨k, 0, none⟩ → K ⟨q, 0, none⟩ M.tb M.L.length M.tc ⟨k, 0, none⟩ (some ⟨e.blk, 0, none⟩) 40 40) : Pn (some ⟨q, 0, none⟩) fun a => LdL (a.add 3) w fun b l c => Pn b fun a1 => (0 ≤ i ∧ i < ((l : Nat) : Int)) ∧ LdL ((Addr.add a1 (i.toNat * 6)).add 5) w (K a b l c a1) := by
  obtain ⟨k, hk, hc, _⟩ := h.at hi
  have hlt := (List.getElem?_eq_some_iff.1 hi).1
  refine Pn.mk (LdL.cell (by rw [add_mk]; exact h.own.cell rfl) ?_)
  have hK' := hK k hk
  rw [hk] at hK' ⊢
  exact Pn.mk ⟨⟨h0, by omega⟩, LdL.cell (by rw [add_mk, add_mk, Nat.zero_add]; exact hc 5 (by omega)) hK'⟩
theorem MeWf.ld {k : Int} {K : Addr → Int → Prop} (h : MeWf w e) (k0 : 0 ≤ k) (k1 : k < 40) (hK : K ⟨e.blk, 0, none⟩ (hd e.cell k.toNat)) : Pn (some ⟨e.blk, 0, none⟩) fun a => (0 ≤ k ∧ k < ((40 : Nat) : Int)) ∧ LdI .i64 (Addr.add a (k.toNat * 1)) w (K a) := by
  have hl := h.len
  refine Pn.mk ⟨⟨k0, by omega⟩, LdI.cell ?_ hK⟩
  rw [add_mk, Nat.zero_add, Nat.mul_one]
  refine h.own.cell ?_
  have : e.cell[k.toNat]? = some e.cell[k.toNat] := List.getElem?_eq_getElem (by omega)
  simp [i64L, hd, List.getD, this]
theorem ModAt.get (h : ModAt w q M) {j : Nat} (hi : M.L[j]? = some e) : MeWf w e := h.ent e (List.mem_of_getElem? hi)
/-- A cell of an entry stored. -/
theorem ModAt.st {k j f : Nat} {e' : ME} {v : Value} {K : World → Prop} (h : ModAt w q M) (hk : M.tb = some ⟨k, 0, none⟩) (hi : M.L[j]? = some e) (hf : f < 6) (hv : v.oneCell' = true) (he : e'.vals = e.vals.set f v) (hb : e'.blk = e.blk) (hc : e'.cell = e.cell) (hr : (0 ≤ e'.src ∧ e'.src < 256) ∧ (0 ≤ e'.proto ∧ e'.proto < 256) ∧ (0 ≤ e'.id ∧ e'.id < 256))
    (hK : ∀ w', w'.heap.size = w.heap.size → ModAt w' q { M with L := M.L.set j e' } → Ext [k] w w' → K w') : Sts [v] ⟨k, j * 6 + f, none⟩ 0 w K := by
  have hlt := (List.getElem?_eq_some_iff.1 hi).1
  obtain ⟨k', hk', _, hkq, hkb⟩ := h.at hi
  rw [hk] at hk'
  simp only [Option.some.injEq, Addr.mk.injEq, and_true] at hk'
  subst hk'
  have hrow := h.row
  rw [hk] at hrow
  have hle : (j + 1) * 6 ≤ M.L.length * 6 := Nat.mul_le_mul_right _ hlt
  refine hrow.put (by simp; omega) (by simp [hv]) fun w' hs hr' hE => hK w' hs ⟨?_, ?_, fun x hx => ?_, ?_⟩ hE
  · have := hE.own h.own (by simp; omega)
    simpa using this
  · have e1 := flat_set1 (n := 6) ME.vals_len hi hf he
    show Row w' M.tb (M.L.set j e').length M.tc 6 85 (tabV (M.L.set j e'))
    rw [List.length_set, hk]
    unfold tabV
    rw [← e1]
    exact hr'
  · rcases List.mem_or_eq_of_mem_set hx with hx | rfl
    · exact (h.ent x hx).ext hE (by have := hkb x hx; simpa using this)
    · have h0 := h.get hi
      have h1 := hkb e (List.mem_of_getElem? hi)
      exact ⟨by rw [hb, hc]; exact hE.own h0.own (by simpa using h1), by rw [hc]; exact h0.len, hr.1, hr.2.1, hr.2.2⟩
  · have hmap : (M.L.set j e').map ME.blk = M.L.map ME.blk := by
      apply List.ext_getElem?
      intro t
      rw [List.getElem?_map, List.getElem?_map, List.getElem?_set]
      by_cases et : j = t
      · subst et
        rw [if_pos rfl, if_pos hlt, hi]
        simp [hb]
      · rw [if_neg et]
    have h1 : (M.L.map ME.blk).Pairwise (· ≠ ·) := List.pairwise_map.2 h.ne
    rw [← hmap] at h1
    exact List.pairwise_map.1 h1
end

theorem modHave_ok {w : World} {q : Nat} {M : MS} {i : Int} {e : ME} {R : Int → World → Prop} (h : ModAt w q M) (h0 : 0 ≤ i) (hi : M.L[i.toNat]? = some e) (hR : R (cntH e.cell 40) w) : ipm_IP_have.Call (some ⟨q, 0, none⟩) i w R := by
  apply ipm_IP_have.sound
  unfold ipm_IP_have.B0 ipm_IP_have.L1
  refine ⟨fun m q' i' n k w' => some ⟨q, 0, none⟩ = q' ∧ i = i' ∧ w = w' ∧ 0 ≤ k ∧ k ≤ 40 ∧ m = (40 - k).toNat ∧ n = cntH e.cell k.toNat, 40, ⟨rfl, rfl, rfl, by omega, by omega, rfl, rfl⟩, ?_⟩
  rintro m q' i' n k w' ⟨rfl, rfl, rfl, k0, k4, rfl, rfl⟩
  unfold ipm_IP_have.L1b ipm_IP_have.B1
  refine Bm.ite (fun hk => ?_) (fun hk => ?_)
  · refine h.ldL h0 hi fun kb hkb => (h.get hi).ld k0 hk ?_
    have hc := cntH_le e.cell k.toNat
    have e1 : (k + 1).toNat = k.toNat + 1 := by omega
    rw [w64 (x := k + 1) (by omega) (by omega)]
    refine Bm.ite (fun hh => ?_) (fun hh => ?_)
    · rw [w64 (by omega) (by omega)]
      refine ⟨(40 - (k + 1)).toNat, by omega, rfl, rfl, rfl, by omega, by omega, rfl, ?_⟩
      rw [e1]
      simp only [cntH]
      rw [if_pos hh]
    · refine ⟨(40 - (k + 1)).toNat, by omega, rfl, rfl, rfl, by omega, by omega, rfl, ?_⟩
      rw [e1]
      simp only [cntH]
      rw [if_neg hh]
      omega
  · rw [show k.toNat = 40 by omega]
    exact hR
theorem modFind_ok {w : World} {q : Nat} {M : MS} {s p d : Int} {R : Int → World → Prop} (h : ModAt w q M) (hs : 0 ≤ s ∧ s < 256) (hp : 0 ≤ p ∧ p < 256) (hd : 0 ≤ d ∧ d < 256) (hlen : M.L.length ≤ 3)
    (hf : ∀ (j : Nat) e, M.L[j]? = some e → e.abs.key = s * 65536 + p * 256 + d → R (j : Int) w) (hn : (∀ e ∈ M.L, e.abs.key ≠ s * 65536 + p * 256 + d) → R (-1) w) : ipm_IP_find.Call (some ⟨q, 0, none⟩) s p d w R := by
  apply ipm_IP_find.sound
  unfold ipm_IP_find.B0 ipm_IP_find.L1
  refine ⟨fun m q' s' p' d' i w' => some ⟨q, 0, none⟩ = q' ∧ s = s' ∧ p = p' ∧ d = d' ∧ w = w' ∧ 0 ≤ i ∧ i ≤ M.L.length ∧ m = (M.L.length - i).toNat ∧ ∀ (j : Nat) e, (j : Int) < i → M.L[j]? = some e → e.abs.key ≠ s * 65536 + p * 256 + d, M.L.length, ⟨rfl, rfl, rfl, rfl, rfl, by omega, by omega, by omega, fun j e hj => by omega⟩, ?_⟩
  rintro m q' s' p' d' i w' ⟨rfl, rfl, rfl, rfl, rfl, i0, i1, rfl, hall⟩
  unfold ipm_IP_find.L1b
  refine Pn.mk (LdL.cell (by rw [add_mk]; exact h.own.cell rfl) (Bm.ite (fun hi => ?_) (fun hi => ?_)))
  · obtain ⟨e, he⟩ : ∃ e, M.L[i.toNat]? = some e := ⟨_, List.getElem?_eq_getElem (by omega)⟩
    have hw := h.get he
    have hws := hw.src
    have hwp := hw.proto
    have hwi := hw.id
    have go : e.abs.key ≠ s * 65536 + p * 256 + d → ipm_IP_find.B1 (some ⟨q, 0, none⟩) s p d i false w (fun q' s' p' d' i' w' => ∃ m', m' < (M.L.length - i).toNat ∧ some ⟨q, 0, none⟩ = q' ∧ s = s' ∧ p = p' ∧ d = d' ∧ w = w' ∧ 0 ≤ i' ∧ i' ≤ M.L.length ∧ m' = (M.L.length - i').toNat ∧ ∀ (j : Nat) e, (j : Int) < i' → M.L[j]? = some e → e.abs.key ≠ s * 65536 + p * 256 + d) R := fun hne => by
      unfold ipm_IP_find.B1
      refine Bm.neg rfl ?_
      rw [w64 (by omega) (by omega)]
      refine ⟨(M.L.length - (i + 1)).toNat, by omega, rfl, rfl, rfl, rfl, rfl, by omega, by omega, rfl, fun j e' hj he' => ?_⟩
      by_cases ej : j = i.toNat
      · subst ej
        rw [he] at he'
        simp at he'
        subst he'
        exact hne
      · exact hall j e' (by omega) he'
    refine h.ldI0 i0 he fun k hk => Bm.mk (fun e1 => ?_) (fun e1 => go ?_)
    · refine h.ldI i0 he (f := 1) rfl (by omega) fun k hk => Bm.mk (fun e2 => ?_) (fun e2 => go ?_)
      · refine h.ldI i0 he (f := 2) rfl (by omega) fun k hk => ?_
        have e1' : e.src = s := by simpa using e1
        have e2' : e.proto = p := by simpa using e2
        by_cases e3 : e.id = d
        · rw [show (e.id == d) = true by simpa using e3]
          unfold ipm_IP_find.B1
          refine Bm.pos rfl ?_
          have := hf i.toNat e he (by show e.src * 65536 + e.proto * 256 + e.id = _; rw [e1', e2', e3])
          rwa [show ((i.toNat : Nat) : Int) = i by omega] at this
        · rw [show (e.id == d) = false by simpa using e3]
          refine go ?_
          show e.src * 65536 + e.proto * 256 + e.id ≠ _
          omega
      · have e2' : e.proto ≠ p := by simpa using e2
        show e.src * 65536 + e.proto * 256 + e.id ≠ _
        omega
    · have e1' : e.src ≠ s := by simpa using e1
      show e.src * 65536 + e.proto * 256 + e.id ≠ _
      omega
  · refine hn fun e he => ?_
    obtain ⟨j, hj⟩ := List.getElem?_of_mem he
    have := (List.getElem?_eq_some_iff.1 hj).1
    exact hall j e (by omega) hj
theorem modLess_ok {w : World} {q : Nat} {M : MS} {i s p d : Int} {e : ME} {R : Bool → World → Prop} (h : ModAt w q M) (h0 : 0 ≤ i) (hi : M.L[i.toNat]? = some e) (hs : 0 ≤ s ∧ s < 256) (hp : 0 ≤ p ∧ p < 256) (hd : 0 ≤ d ∧ d < 256)
    (hR : R (decide (e.abs.key < s * 65536 + p * 256 + d)) w) : ipm_IP_less.Call (some ⟨q, 0, none⟩) i s p d w R := by
  apply ipm_IP_less.sound
  unfold ipm_IP_less.B0
  have hw := h.get hi
  have hws := hw.src
  have hwp := hw.proto
  have hwi := hw.id
  have hk : e.abs.key = e.src * 65536 + e.proto * 256 + e.id := rfl
  refine h.ldI0 h0 hi fun k hk' => Bm.mk (fun e1 => ?_) (fun e1 => ?_)
  · have e1' : e.src ≠ s := by simpa using e1
    refine h.ldI0 h0 hi fun k hk' => ?_
    have : decide (e.src < s) = decide (e.abs.key < s * 65536 + p * 256 + d) := by rw [hk]; congr 1; apply propext; omega
    rw [this]
    exact hR
  · have e1' : e.src = s := by simpa using e1
    refine h.ldI h0 hi (f := 1) rfl (by omega) fun k hk' => Bm.mk (fun e2 => ?_) (fun e2 => ?_)
    · have e2' : e.proto ≠ p := by simpa using e2
      refine h.ldI h0 hi (f := 1) rfl (by omega) fun k hk' => ?_
      have : decide (e.proto < p) = decide (e.abs.key < s * 65536 + p * 256 + d) := by rw [hk]; congr 1; apply propext; omega
      rw [this]
      exact hR
    · have e2' : e.proto = p := by simpa using e2
      refine h.ldI h0 hi (f := 2) rfl (by omega) fun k hk' => ?_
      have : decide (e.id < d) = decide (e.abs.key < s * 65536 + p * 256 + d) := by rw [hk]; congr 1; apply propext; omega
      rw [this]
      exact hR
/-- A row taken out. -/
theorem modRemove_ok {w : World} {q : Nat} {M : MS} {i : Int} {R : World → Prop} (h : ModAt w q M) (h0 : 0 ≤ i) (hi : i < M.L.length) (hlen : M.L.length ≤ 3)
    (hR : ∀ tb tc w', ModAt w' q { M with tb := tb, tc := tc, L := M.L.eraseIdx i.toNat } → Ext (q :: rowBlk M.tb) w w' → (∀ k ∈ rowBlk tb, k ∈ rowBlk M.tb ∨ w.heap.size ≤ k) → R w') : ipm_IP_remove.Call (some ⟨q, 0, none⟩) i w R := by
  apply ipm_IP_remove.sound
  unfold ipm_IP_remove.B0
  obtain ⟨n, rfl⟩ : ∃ n : Nat, i = n := ⟨i.toNat, by omega⟩
  have hcap := h.row.2.1
  have e1 : IntKind.i64.wrap ((n : Int) + 1) = ((n + 1 : Nat) : Int) := by rw [w64 (by omega) (by omega)]; omega
  simp only [e1, Int.toNat_natCast, Nat.sub_zero]
  have hd := h.drew
  refine Pn.mk (LdL.cell (by rw [add_mk]; exact hd.own.cell rfl) ⟨⟨h0, by omega⟩, ⟨h0, by omega⟩, Pn.mk (LdL.cell (by rw [add_mk]; exact hd.own.cell rfl) ⟨⟨by omega, by omega⟩, ?_⟩)⟩)
  rw [slBase0]
  have htl : (tabV M.L).length = M.L.length * 6 := flat_length ME.vals_len _
  refine Vc.Append.mk (hd.row.sub (i := n) (by omega)) (hd.row.tail (n + 1) (by omega)) (by rw [List.length_drop, htl]; omega) rfl ?_ (by omega) (by omega) fun tb tc w1 hrow hE hb => ?_
  · rw [List.all_eq_true]
    intro x hx
    have hx' := List.mem_of_mem_drop hx
    unfold tabV at hx'
    obtain ⟨e, _, he⟩ := List.mem_flatMap.1 hx'
    simp only [ME.vals, List.mem_cons, List.not_mem_nil, or_false] at he
    rcases he with rfl | rfl | rfl | rfl | rfl | rfl <;> rfl
  · have hqb : ∀ k ∈ rowBlk M.tb, k ≠ q := fun k hk => by
      obtain ⟨cs, ho⟩ := rowTy hd.row hk
      exact Own.ne_type ho hd.own (by decide)
    have hbq : ∀ x ∈ M.L, x.blk ∉ q :: rowBlk M.tb := fun x hx hk => by
      rcases List.mem_cons.1 hk with e | hk
      · exact Own.ne_type (hd.ent x hx).own hd.own (by decide) e
      · obtain ⟨cs, ho⟩ := rowTy hd.row hk
        exact Own.ne_type (hd.ent x hx).own ho (by decide) rfl
    have hown1 := hE.own hd.own (fun hk => hqb q hk rfl)
    refine Pn.mk ?_
    rw [add_mk, Nat.zero_add]
    refine Sts.mk hown1 (by simp) rfl fun w2 hs2 ho2 he2 => ?_
    have hdz : w.drew.heap.size = w.heap.size := rfl
    have hrq : ∀ k ∈ rowBlk tb, k ≠ q := fun k hk => by
      obtain ⟨cs, ho⟩ := rowTy hrow hk
      exact Own.ne_type ho hown1 (by decide)
    have hle : (M.L.eraseIdx n).length = n + (M.L.length - (n + 1)) := by
      rw [List.length_eraseIdx, if_pos (by omega)]
      omega
    have E2 : Ext (q :: rowBlk M.tb) w.drew w2 := (hE.mono (fun x hx _ => List.mem_cons_of_mem _ hx)).trans' he2 (fun x hx _ => by simp at hx; simp [hx])
    refine hR tb tc w2 ⟨?_, ?_, fun x hx => ?_, ?_⟩ ((Ext.drew _ w).trans E2) (fun k hk => ?_)
    · show Own w2 q #[_, _, _, .slice tb (M.L.eraseIdx n).length tc] 57
      rw [hle]
      exact ho2
    · show Row w2 tb (M.L.eraseIdx n).length tc 6 85 (tabV (M.L.eraseIdx n))
      rw [hle]
      have e2 : tabV (M.L.eraseIdx n) = (tabV M.L).take (n * 6) ++ (tabV M.L).drop ((n + 1) * 6) := by
        unfold tabV
        rw [List.eraseIdx_eq_take_drop_succ, List.flatMap_append, flat_take ME.vals_len, flat_drop ME.vals_len]
      rw [e2]
      exact hrow.ext he2 (fun k hk => by have := hrq k hk; simpa using this)
    · have hx' := List.mem_of_mem_eraseIdx hx
      exact (hd.ent x hx').ext E2 (hbq x hx')
    · exact List.Pairwise.sublist (List.eraseIdx_sublist ..) h.ne
    · rcases hb k hk with q1 | q1
      · exact .inl q1
      · exact .inr (by omega)
end Go.Proofs.Qxb6500425a
