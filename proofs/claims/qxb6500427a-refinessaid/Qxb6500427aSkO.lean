/-
  sock: the model's table on the heap; its loads; at, count, freeSlot, Lookup, Listener, Get, Next, New.
-/
import Derived.Test.Qxb6500427aSkN
import Derived.Test.Qxb6500427aVcG
set_option linter.unusedVariables false
set_option linter.unusedSimpArgs false
open Go.Vc
namespace Go.Proofs.Qxb6500427a

theorem slBase0 (b : Option Addr) (m : Int) (n : Nat) : slBase b ((0 : Nat) : Int) m n = b := by
  cases b with
  | none => simp [slBase]
  | some a =>
    unfold slBase
    split
    · rfl
    · simp [Addr.add]
def aeV (a : AE) : List Value := entVs a.1 ++ [.int .i64 (a.2 : Int)]
theorem aeV_len (a : AE) : (aeV a).length = 9 := rfl
def mArr (rb : Option Addr) (rl rc : Nat) (S : SkS) : Array Value := #[.slice rb rl rc, .int .i64 S.nsd, .int .i64 S.eph, .int .i64 (S.tick : Int)]
structure MC (w : World) (m : Nat) (rb : Option Addr) (rl rc : Nat) (S : SkS) : Prop where
  own : Own w m (mArr rb rl rc S) T_sockm_Table
  row : Vc.Row w rb rl rc 9 T_sockm_row (S.E.flatMap aeV)
section
variable {w : World} {m : Nat} {rb : Option Addr} {rl rc : Nat} {S : SkS}
theorem MC.len (h : MC w m rb rl rc S) : rl = S.E.length := by
  have := h.row.1
  rw [flat_length aeV_len] at this
  omega
theorem MC.lt (h : MC w m rb rl rc S) : m < w.heap.size := h.own.lt
theorem MC.out (h : MC w m rb rl rc S) : m ∉ rowBlk rb := fun hx => by
  obtain ⟨_, ho'⟩ := h.row.ty hx
  exact Own.ne_type h.own ho' (by decide) rfl
theorem MC.ext {w' : World} {X : List Nat} (h : MC w m rb rl rc S) (he : Ext X w w') (hx : ∀ k ∈ m :: rowBlk rb, k ∉ X) : MC w' m rb rl rc S :=
  ⟨he.own h.own (hx m (List.mem_cons_self ..)), h.row.ext he fun k hk => hx k (List.mem_cons_of_mem _ hk)⟩
theorem MC.ext0 {w' : World} (h : MC w m rb rl rc S) (he : Ext [] w w') : MC w' m rb rl rc S := h.ext he (fun k _ h => by cases h)
theorem MC.drew (h : MC w m rb rl rc S) : MC w.drew m rb rl rc S := h.ext0 (Ext.drew _ _)
theorem MC.ldR {K : Option Addr → Nat → Nat → Prop} (h : MC w m rb rl rc S) (hk : K rb rl rc) : LdL ⟨m, 0, none⟩ w K := LdL.mk h.own rfl hk
theorem MC.ldNsd {K : Int → Prop} (h : MC w m rb rl rc S) (hk : K S.nsd) : LdI .i64 (Addr.add ⟨m, 0, none⟩ 1) w K := by
  rw [add_mk]
  exact LdI.mk h.own rfl hk
theorem MC.ldEph {K : Int → Prop} (h : MC w m rb rl rc S) (hk : K S.eph) : LdI .i64 (Addr.add ⟨m, 0, none⟩ 2) w K := by
  rw [add_mk]
  exact LdI.mk h.own rfl hk
theorem MC.ldTick {K : Int → Prop} (h : MC w m rb rl rc S) (hk : K (S.tick : Int)) : LdI .i64 (Addr.add ⟨m, 0, none⟩ 3) w K := by
  rw [add_mk]
  exact LdI.mk h.own rfl hk
theorem MC.cell {i j : Nat} {a : AE} {v : Value} (h : MC w m rb rl rc S) (ha : S.E[i]? = some a) (hv : (aeV a)[j]? = some v) : ∃ k, rb = some ⟨k, 0, none⟩ ∧ w.cell? ⟨k, i * 9 + j, none⟩ = some v := by
  have hi := (List.getElem?_eq_some_iff.1 ha).1
  have hj := (List.getElem?_eq_some_iff.1 hv).1
  rw [aeV_len] at hj
  have := h.len
  obtain ⟨k, e, cs, ho, hc⟩ := h.row.at (i := i) (by omega) (by omega)
  refine ⟨k, e, ?_⟩
  rw [ho.cell_eq, hc j hj, flat_get aeV_len ha hj, hv]
theorem MC.fI {i : Nat} (j : Nat) {a : AE} {v : Int} {K : Int → Prop} (h : MC w m rb rl rc S) (ha : S.E[i]? = some a) (hv : (aeV a)[j]? = some (.int .i64 v)) (hk : K v) : Pn rb fun x => (0 ≤ (i : Int) ∧ (i : Int) < (rl : Int)) ∧ LdI .i64 ((Addr.add x ((i : Int).toNat * 9)).add j) w K := by
  have hi := (List.getElem?_eq_some_iff.1 ha).1
  have := h.len
  obtain ⟨k, e, hc⟩ := h.cell ha hv
  rw [e]
  refine Pn.mk ⟨⟨by omega, by omega⟩, LdI.cell ?_ hk⟩
  rw [add_mk, add_mk, Int.toNat_natCast, Nat.zero_add]
  exact hc
theorem MC.fI0 {i : Nat} {a : AE} {K : Int → Prop} (h : MC w m rb rl rc S) (ha : S.E[i]? = some a) (hk : K a.1.sd) : Pn rb fun x => (0 ≤ (i : Int) ∧ (i : Int) < (rl : Int)) ∧ LdI .i64 (Addr.add x ((i : Int).toNat * 9)) w K := by
  have hi := (List.getElem?_eq_some_iff.1 ha).1
  have := h.len
  obtain ⟨k, e, hc⟩ := h.cell (j := 0) ha rfl
  rw [e]
  refine Pn.mk ⟨⟨by omega, by omega⟩, LdI.cell ?_ hk⟩
  rw [add_mk, Int.toNat_natCast, Nat.zero_add]
  exact hc
theorem MC.fB {i : Nat} {a : AE} {K : Bool → Prop} (h : MC w m rb rl rc S) (ha : S.E[i]? = some a) (hk : K a.1.rdy) : Pn rb fun x => (0 ≤ (i : Int) ∧ (i : Int) < (rl : Int)) ∧ LdB ((Addr.add x ((i : Int).toNat * 9)).add 7) w K := by
  have hi := (List.getElem?_eq_some_iff.1 ha).1
  have := h.len
  obtain ⟨k, e, hc⟩ := h.cell (j := 7) ha rfl
  rw [e]
  refine Pn.mk ⟨⟨by omega, by omega⟩, LdB.cell ?_ hk⟩
  rw [add_mk, add_mk, Int.toNat_natCast, Nat.zero_add]
  exact hc
/-- All eight fields at once. -/
theorem MC.fE {i : Nat} {a : AE} {K : Int → Int → Int → Int → Int → Int → Int → Bool → Prop} (h : MC w m rb rl rc S) (ha : S.E[i]? = some a) (hk : K a.1.sd a.1.kind a.1.lp a.1.rh a.1.rp a.1.slot a.1.par a.1.rdy) : Pn rb fun x => (0 ≤ (i : Int) ∧ (i : Int) < (rl : Int)) ∧
    LdI .i64 (Addr.add x ((i : Int).toNat * 9)) w fun x0 => LdI .i64 ((Addr.add x ((i : Int).toNat * 9)).add 1) w fun x1 => LdI .i64 ((Addr.add x ((i : Int).toNat * 9)).add 2) w fun x2 => LdI .i64 ((Addr.add x ((i : Int).toNat * 9)).add 3) w fun x3 => LdI .i64 ((Addr.add x ((i : Int).toNat * 9)).add 4) w fun x4 => LdI .i64 ((Addr.add x ((i : Int).toNat * 9)).add 5) w fun x5 => LdI .i64 ((Addr.add x ((i : Int).toNat * 9)).add 6) w fun x6 => LdB ((Addr.add x ((i : Int).toNat * 9)).add 7) w fun x7 => K x0 x1 x2 x3 x4 x5 x6 x7 := by
  have hi := (List.getElem?_eq_some_iff.1 ha).1
  have hln := h.len
  obtain ⟨k, e, hc0⟩ := h.cell (j := 0) ha rfl
  subst e
  have g : ∀ {j : Nat} {v : Value}, (aeV a)[j]? = some v → w.cell? ((Addr.add ⟨k, 0, none⟩ ((i : Int).toNat * 9)).add j) = some v := fun {j v} hv => by
    obtain ⟨k', e, hc⟩ := h.cell ha hv
    simp only [Option.some.injEq, Addr.mk.injEq, and_true] at e
    subst e
    rw [add_mk, add_mk, Int.toNat_natCast, Nat.zero_add]
    exact hc
  refine Pn.mk ⟨⟨by omega, by omega⟩, LdI.cell (n := a.1.sd) ?_ (LdI.cell (g rfl) (LdI.cell (g rfl) (LdI.cell (g rfl) (LdI.cell (g rfl) (LdI.cell (g rfl) (LdI.cell (g rfl) (LdB.cell (g rfl) hk)))))))⟩
  rw [add_mk, Int.toNat_natCast, Nat.zero_add]
  exact hc0
theorem get_lt {α : Type} {L : List α} {n : Nat} (h : n < L.length) : ∃ a, L[n]? = some a := ⟨L[n], List.getElem?_eq_getElem h⟩
theorem take1 {α : Type} {L : List α} {n : Nat} {a : α} (h : L[n]? = some a) : L.take (n + 1) = L.take n ++ [a] := by
  rw [List.take_add_one, h]; rfl
theorem modAt_ok {sd : Int} {R : Int → World → Prop} (h : MC w m rb rl rc S)
    (hR : (∀ (i : Nat) (a : AE), S.E[i]? = some a → a.1.sd = sd → R (i : Int) w) ∧ ((∀ a ∈ S.E, a.1.sd ≠ sd) → R (-1) w)) (hl : S.E.length ≤ 100) : sockm_Table_at.Call (some ⟨m, 0, none⟩) sd w R := by
  apply sockm_Table_at.sound
  unfold sockm_Table_at.B0 sockm_Table_at.L1
  have hln := h.len
  refine ⟨fun mm t s i w' => ∃ n : Nat, n ≤ rl ∧ mm = rl - n ∧ some ⟨m, 0, none⟩ = t ∧ sd = s ∧ i = (n : Int) ∧ w = w' ∧ ∀ a ∈ S.E.take n, a.1.sd ≠ sd, _, ⟨0, by omega, rfl, rfl, rfl, rfl, rfl, fun a ha => by simp at ha⟩, ?_⟩
  rintro mm t s i w' ⟨n, hn, rfl, rfl, rfl, rfl, rfl, hb⟩
  unfold sockm_Table_at.L1b
  refine Pn.mk (h.ldR (Bm.ite (fun hlt => ?_) fun hge => ?_))
  · obtain ⟨a, ha⟩ := get_lt (L := S.E) (n := n) (by omega)
    refine Pn.mk (h.ldR (h.fI0 ha (Bm.mk (fun e => hR.1 n a ha (by simpa using e)) fun e => ⟨rl - (n + 1), by omega, n + 1, by omega, rfl, rfl, rfl, by rw [w64 (by omega) (by omega)]; omega, rfl, fun c hc => ?_⟩)))
    rw [take1 ha] at hc
    rcases List.mem_append.1 hc with hc | hc
    · exact hb c hc
    · rw [List.mem_singleton] at hc
      subst hc
      simpa using e
  · refine hR.2 ?_
    rw [List.take_of_length_le (by omega)] at hb
    exact hb
theorem modCount_ok {R : Int → World → Prop} (h : MC w m rb rl rc S) (hl : S.E.length ≤ 100) (hR : R ((S.E.filter isL).length : Int) w) : sockm_Table_count.Call (some ⟨m, 0, none⟩) 1 w R := by
  apply sockm_Table_count.sound
  unfold sockm_Table_count.B0 sockm_Table_count.L1
  have hln := h.len
  refine ⟨fun mm t k c i w' => ∃ n : Nat, n ≤ rl ∧ mm = rl - n ∧ some ⟨m, 0, none⟩ = t ∧ 1 = k ∧ c = (((S.E.take n).filter isL).length : Int) ∧ i = (n : Int) ∧ w = w', _, ⟨0, by omega, rfl, rfl, rfl, rfl, rfl, rfl⟩, ?_⟩
  rintro mm t k c i w' ⟨n, hn, rfl, rfl, rfl, rfl, rfl, rfl⟩
  have hcl := List.length_filter_le isL (S.E.take n)
  have htl : (S.E.take n).length ≤ n := by simp; omega
  unfold sockm_Table_count.L1b
  refine Pn.mk (h.ldR (Bm.ite (fun hlt => ?_) fun hge => ?_))
  · obtain ⟨a, ha⟩ := get_lt (L := S.E) (n := n) (by omega)
    refine Pn.mk (h.ldR (h.fI 1 ha rfl (Bm.mk (fun e => ?_) fun e => ?_)))
    · refine ⟨rl - (n + 1), by omega, n + 1, by omega, rfl, rfl, rfl, ?_, by rw [w64 (by omega) (by omega)]; omega, rfl⟩
      rw [w64 (by omega) (by omega), take1 ha, List.filter_append, List.length_append, List.filter_cons_of_pos (by simpa [isL] using e)]
      simp
    · refine ⟨rl - (n + 1), by omega, n + 1, by omega, rfl, rfl, rfl, ?_, by rw [w64 (by omega) (by omega)]; omega, rfl⟩
      rw [take1 ha, List.filter_append, List.length_append, List.filter_cons_of_neg (by simpa [isL] using e)]
      simp
  · rw [List.take_of_length_le (by omega)]
    exact hR
theorem occE_snoc (E : List AE) (a : AE) (s : Nat) : occE (E ++ [a]) s = (occE E s || (decide (a.1.kind = 2) && decide (a.1.slot = (s : Int)))) := by
  unfold occE
  rw [List.any_append]
  simp
theorem modFree_ok {R : Int → World → Prop} (h : MC w m rb rl rc S) (hl : S.E.length ≤ 100) (hR : R (lowE S.E) w) : sockm_Table_freeSlot.Call (some ⟨m, 0, none⟩) w R := by
  apply sockm_Table_freeSlot.sound
  unfold sockm_Table_freeSlot.B0 sockm_Table_freeSlot.L1
  have hln := h.len
  refine ⟨fun mm t s w' => ∃ n : Nat, n ≤ 4 ∧ mm = 4 - n ∧ some ⟨m, 0, none⟩ = t ∧ s = (n : Int) ∧ w = w' ∧ ∀ j, j < n → occE S.E j = true, _, ⟨0, by omega, rfl, rfl, rfl, rfl, fun j hj => by omega⟩, ?_⟩
  rintro mm t s w' ⟨n, hn, rfl, rfl, rfl, rfl, hb⟩
  unfold sockm_Table_freeSlot.L1b
  refine Bm.ite (fun hlt => ?_) fun hge => ?_
  · unfold sockm_Table_freeSlot.L2
    refine ⟨fun mm t s u i w' => ∃ q : Nat, q ≤ rl ∧ mm = rl - q ∧ some ⟨m, 0, none⟩ = t ∧ (n : Int) = s ∧ u = occE (S.E.take q) n ∧ i = (q : Int) ∧ w = w', _, ⟨0, by omega, rfl, rfl, rfl, rfl, rfl, rfl⟩, ?_⟩
    rintro mm t s u i w' ⟨q, hq, rfl, rfl, rfl, rfl, rfl, rfl⟩
    unfold sockm_Table_freeSlot.L2b
    refine Pn.mk (h.ldR (Bm.ite (fun hlt2 => ?_) fun hge2 => ?_))
    · obtain ⟨a, ha⟩ := get_lt (L := S.E) (n := q) (by omega)
      have no : ¬ (a.1.kind = 2 ∧ a.1.slot = (n : Int)) → occE (S.E.take (q + 1)) n = occE (S.E.take q) n := fun hc => by
        rw [take1 ha, occE_snoc]
        have : (decide (a.1.kind = 2) && decide (a.1.slot = (n : Int))) = false := by simpa using hc
        rw [this, Bool.or_false]
      refine Pn.mk (h.ldR (h.fI 1 ha rfl (Bm.mk (fun e => Pn.mk (h.ldR (h.fI 5 ha rfl ?_))) fun e => ?_)))
      · unfold sockm_Table_freeSlot.B1 sockm_Table_freeSlot.B2
        refine Bm.mk (fun e2 => ⟨rl - (q + 1), by omega, q + 1, by omega, rfl, rfl, rfl, ?_, by rw [w64 (by omega) (by omega)]; omega, rfl⟩) fun e2 => ⟨rl - (q + 1), by omega, q + 1, by omega, rfl, rfl, rfl, ?_, by rw [w64 (by omega) (by omega)]; omega, rfl⟩
        · rw [take1 ha, occE_snoc]
          have h1 : a.1.kind = 2 := by simpa using e
          have h2 : a.1.slot = (n : Int) := by simpa using e2
          simp [h1, h2]
        · rw [no fun hc => by simp at e2; exact e2 hc.2]
      · unfold sockm_Table_freeSlot.B1 sockm_Table_freeSlot.B2
        refine Bm.neg rfl ⟨rl - (q + 1), by omega, q + 1, by omega, rfl, rfl, rfl, ?_, by rw [w64 (by omega) (by omega)]; omega, rfl⟩
        rw [no fun hc => by simp at e; exact e hc.1]
    · rw [List.take_of_length_le (by omega)]
      refine Bm.mk (fun e => ?_) fun e => ⟨4 - (n + 1), by omega, n + 1, by omega, rfl, rfl, by rw [w64 (by omega) (by omega)]; omega, rfl, fun j hj => ?_⟩
      · have := lowF_at (f := occE S.E) (s := n) (by omega) hb (by simpa using e)
        unfold lowE at hR
        rw [this] at hR
        exact hR
      · by_cases ej : j = n
        · subst ej; simpa using e
        · exact hb j (by omega)
  · unfold lowE at hR
    rw [lowF_all fun j hj => hb j (by omega)] at hR
    exact hR
theorem find_take {p : AE → Bool} {E : List AE} {n : Nat} {a : AE} (ha : E[n]? = some a) (hb : ∀ c ∈ E.take n, ¬ p c = true) (hp : p a = true) : E.find? p = some a := by
  obtain ⟨hlt, e⟩ := List.getElem?_eq_some_iff.1 ha
  have : E = E.take n ++ a :: E.drop (n + 1) := by
    rw [← e, List.getElem_cons_drop]
    exact (List.take_append_drop n E).symm
  rw [this, List.find?_append, List.find?_eq_none.2 hb, List.find?_cons_of_pos hp]
  rfl
theorem modLookup_ok {lp rh rp : Int} {R : Int → World → Prop} (h : MC w m rb rl rc S) (hl : S.E.length ≤ 100) (hR : ∀ w', Ext [] w w' → R (lookE S.E lp rh rp) w') : sockm_Table_Lookup.Call (some ⟨m, 0, none⟩) lp rh rp w R := by
  apply sockm_Table_Lookup.sound
  unfold sockm_Table_Lookup.B0 sockm_Table_Lookup.L1
  have hln := h.len
  refine ⟨fun mm t a b c i w' => ∃ n : Nat, n ≤ rl ∧ mm = rl - n ∧ some ⟨m, 0, none⟩ = t ∧ lp = a ∧ rh = b ∧ rp = c ∧ i = (n : Int) ∧ Ext [] w w' ∧ ∀ a ∈ S.E.take n, ¬ lookP lp rh rp a = true, _, ⟨0, by omega, rfl, rfl, rfl, rfl, rfl, rfl, Ext.refl _ _, fun a ha => by simp at ha⟩, ?_⟩
  rintro mm t a b c i w' ⟨n, hn, rfl, rfl, rfl, rfl, rfl, rfl, he, hb⟩
  have h' := h.ext0 he
  unfold sockm_Table_Lookup.L1b
  refine Pn.mk (h'.ldR (Bm.ite (fun hlt => ?_) fun hge => ?_))
  · obtain ⟨a, ha⟩ := get_lt (L := S.E) (n := n) (by omega)
    refine Pn.mk (h'.ldR (h'.fE ha (New.mk fun e w1 e1 s1 o1 he1 => Sts.full (vs := entVs a.1) o1 rfl rfl fun w2 hs2 o2 he2 => ?_)))
    have hx : Ext [] w w2 := (he.trans he1).trans' he2 (fun x hx hlt => by simp at hx; have := he.size; omega)
    have no : ¬ lookP lp rh rp a = true → sockm_Table_Lookup.B1 (some ⟨m, 0, none⟩) lp rh rp (n : Int) e false w2 (fun t' a' b' c' i' w' => ∃ m', m' < rl - n ∧ ∃ n : Nat, n ≤ rl ∧ m' = rl - n ∧ some ⟨m, 0, none⟩ = t' ∧ lp = a' ∧ rh = b' ∧ rp = c' ∧ i' = (n : Int) ∧ Ext [] w w' ∧ ∀ a ∈ S.E.take n, ¬ lookP lp rh rp a = true) R := fun hno => by
      unfold sockm_Table_Lookup.B1
      refine Bm.neg rfl ⟨rl - (n + 1), by omega, n + 1, by omega, rfl, rfl, rfl, rfl, rfl, by rw [w64 (by omega) (by omega)]; omega, hx, fun c hc => ?_⟩
      rw [take1 ha] at hc
      rcases List.mem_append.1 hc with hc | hc
      · exact hb c hc
      · rw [List.mem_singleton] at hc
        subst hc
        exact hno
    refine LdI.mk o2 rfl (Bm.mk (fun k => LdI.mk o2 rfl (Bm.mk (fun k2 => LdI.mk o2 rfl (Bm.mk (fun k3 => LdI.mk o2 rfl ?_) fun k3 => no ?_)) fun k2 => no ?_)) fun k => no ?_)
    · by_cases k4 : a.1.rp = rp
      · rw [show (a.1.rp == rp) = true by simp [k4]]
        unfold sockm_Table_Lookup.B1
        have hp : lookP lp rh rp a = true := lookP_iff.2 ⟨by simpa using k, by simpa using k2, by simpa using k3, k4⟩
        have hf := find_take ha hb hp
        have := hR w2 hx
        unfold lookE at this
        rw [hf] at this
        exact Bm.pos rfl (LdI.mk o2 rfl this)
      · rw [show (a.1.rp == rp) = false by simp [k4]]
        exact no fun hp => k4 (lookP_iff.1 hp).2.2.2
    · intro hp
      have := (lookP_iff.1 hp).2.2.1
      simp at k3
      exact k3 this
    · intro hp
      have := (lookP_iff.1 hp).2.1
      simp at k2
      exact k2 this
    · intro hp
      have := (lookP_iff.1 hp).1
      simp at k
      exact k this
  · rw [List.take_of_length_le (by omega)] at hb
    have := hR w' he
    rw [lookE_none hb] at this
    exact this
theorem modListener_ok {p : Int} {R : Int → World → Prop} (h : MC w m rb rl rc S) (hl : S.E.length ≤ 100) (hR : R (lisE S.E p) w) : sockm_Table_Listener.Call (some ⟨m, 0, none⟩) p w R := by
  apply sockm_Table_Listener.sound
  unfold sockm_Table_Listener.B0 sockm_Table_Listener.L1
  have hln := h.len
  refine ⟨fun mm t a i w' => ∃ n : Nat, n ≤ rl ∧ mm = rl - n ∧ some ⟨m, 0, none⟩ = t ∧ p = a ∧ i = (n : Int) ∧ w = w' ∧ ∀ a ∈ S.E.take n, ¬ lisP p a = true, _, ⟨0, by omega, rfl, rfl, rfl, rfl, rfl, fun a ha => by simp at ha⟩, ?_⟩
  rintro mm t a i w' ⟨n, hn, rfl, rfl, rfl, rfl, rfl, hb⟩
  unfold sockm_Table_Listener.L1b
  refine Pn.mk (h.ldR (Bm.ite (fun hlt => ?_) fun hge => ?_))
  · obtain ⟨a, ha⟩ := get_lt (L := S.E) (n := n) (by omega)
    have no : ¬ lisP p a = true → sockm_Table_Listener.B1 (some ⟨m, 0, none⟩) p (n : Int) false w (fun t' a' i' w' => ∃ m', m' < rl - n ∧ ∃ n : Nat, n ≤ rl ∧ m' = rl - n ∧ some ⟨m, 0, none⟩ = t' ∧ p = a' ∧ i' = (n : Int) ∧ w = w' ∧ ∀ a ∈ S.E.take n, ¬ lisP p a = true) R := fun hno => by
      unfold sockm_Table_Listener.B1
      refine Bm.neg rfl ⟨rl - (n + 1), by omega, n + 1, by omega, rfl, rfl, rfl, by rw [w64 (by omega) (by omega)]; omega, rfl, fun c hc => ?_⟩
      rw [take1 ha] at hc
      rcases List.mem_append.1 hc with hc | hc
      · exact hb c hc
      · rw [List.mem_singleton] at hc
        subst hc
        exact hno
    refine Pn.mk (h.ldR (h.fI 1 ha rfl (Bm.mk (fun k => Pn.mk (h.ldR (h.fI 2 ha rfl ?_))) fun k => no ?_)))
    · by_cases k4 : a.1.lp = p
      · rw [show (a.1.lp == p) = true by simp [k4]]
        unfold sockm_Table_Listener.B1
        have hp : lisP p a = true := lisP_iff.2 ⟨by simpa using k, k4⟩
        have hf := find_take ha hb hp
        unfold lisE at hR
        rw [hf] at hR
        exact Bm.pos rfl (Pn.mk (h.ldR (h.fI0 ha hR)))
      · rw [show (a.1.lp == p) = false by simp [k4]]
        exact no fun hp => k4 (lisP_iff.1 hp).2
    · intro hp
      have := (lisP_iff.1 hp).1
      simp at k
      exact k this
  · rw [List.take_of_length_le (by omega)] at hb
    rw [lisE_none hb] at hR
    exact hR
theorem modGet_ok {sd : Int} {R : Int → Int → Int → Int → Int → Int → Int → Bool → Int → World → Prop} (h : MC w m rb rl rc S) (hS : SkOk S) (hl : S.E.length ≤ 100)
    (hR : ∀ w', Ext [] w w' → R (getV S.E sd).1.sd (getV S.E sd).1.kind (getV S.E sd).1.lp (getV S.E sd).1.rh (getV S.E sd).1.rp (getV S.E sd).1.slot (getV S.E sd).1.par (getV S.E sd).1.rdy (getV S.E sd).2 w') : sockm_Table_Get.Call (some ⟨m, 0, none⟩) sd w R := by
  apply sockm_Table_Get.sound
  unfold sockm_Table_Get.B0
  refine New.mk fun r w1 e1 s1 o1 he1 => ?_
  have fin : ∀ w2, Ext [r] w1 w2 → Ext [] w w2 := fun w2 h2 => he1.trans' h2 (fun x hx hlt => by simp at hx; omega)
  have h1 := h.ext0 he1
  refine modAt_ok h1 ⟨fun i a ha esd => ?_, fun hn => ?_⟩ hl
  · have eg : getV S.E sd = (a.1, 0) := by unfold getV; rw [← esd, getE_some hS.ei (List.mem_of_getElem? ha)]
    refine Bm.ite (fun hc => by omega) fun _ => Pn.mk (h1.ldR (h1.fE ha (Sts.full (vs := entVs a.1) o1 rfl rfl fun w2 hs2 o2 he2 => ldEntB o2 ?_)))
    have := hR w2 (fin w2 he2)
    rw [eg] at this
    exact this
  · have eg : getV S.E sd = (zE, 21) := by unfold getV; rw [getE_none hn]
    refine Bm.pos rfl (Sts.full (vs := entVs zE) o1 rfl rfl fun w2 hs2 o2 he2 => ldEntB o2 ?_)
    have := hR w2 (fin w2 he2)
    rw [eg] at this
    exact this
theorem modNext_ok {R : Int → Int → World → Prop} (h : MC w m rb rl rc S) (hR : R S.nsd S.eph w.drew) : sockm_Table_Next.Call (some ⟨m, 0, none⟩) w R := by
  apply sockm_Table_Next.sound
  unfold sockm_Table_Next.B0
  exact Pn.mk (h.drew.ldNsd (Pn.mk (h.drew.ldEph hR)))
end
theorem modNew_ok {w : World} {R : Option Addr → World → Prop} (hR : ∀ m w', w.heap.size ≤ m → MC w' m none 0 0 S0 → Ext [] w w' → R (some ⟨m, 0, none⟩) w') : sockm_New.Call w R := by
  apply sockm_New.sound
  unfold sockm_New.B0
  exact New.mk fun m w1 e1 s1 o1 he1 => hR m w1 (by omega) ⟨o1, Vc.Row.nil _ _ _⟩ he1
end Go.Proofs.Qxb6500427a
