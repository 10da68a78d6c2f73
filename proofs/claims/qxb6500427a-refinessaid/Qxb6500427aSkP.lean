/-
  sock: the model's lists and its changing calls.
-/
import Derived.Test.Qxb6500427aSkO
set_option linter.unusedVariables false
set_option linter.unusedSimpArgs false
open Go.Vc
namespace Go.Proofs.Qxb6500427a

theorem SkOk.len6 {S : SkS} (h : SkOk S) : S.E.length ≤ 6 := by
  have h1 := slots_len h [] List.nodup_nil (fun x hx => (by cases hx)) (fun x hx => (by cases hx))
  have h2 := h.ei.lis
  have h3 := part_len isL S.E
  simp only [List.length_nil] at h1
  omega
/-- A list of numbers behind a slice. -/
abbrev IRow (w : World) (b : Option Addr) (l c : Nat) (L : List Int) : Prop := Vc.Row w b l c 1 T_int (L.map iv)
section
variable {w : World} {m : Nat} {rb : Option Addr} {rl rc : Nat} {S : SkS}
theorem IRow.push {b : Option Addr} {l c : Nat} {L : List Int} {x : Int} {K : Option Addr → Nat → World → Prop} (h : IRow w b l c L) (hl : l ≤ 1000)
    (hk : ∀ b' c' w', IRow w' b' (l + 1) c' (L ++ [x]) → Ext (rowBlk b) w w' → (∀ k ∈ rowBlk b', k ∈ rowBlk b ∨ w.heap.size ≤ k) → K b' c' w') :
    New (.cells #[.int .i64 x] 3) w fun n w1 => Append 3 (.int .i64 0) 1 8 b l c (some ⟨n, 0, none⟩) 1 w1 K := by
  refine New.mk fun n w1 e1 s1 o1 he1 => ?_
  refine Vc.Append.mk (news := [iv x]) (h.ext he1 (fun _ _ h => by cases h)) (CellsAt.own o1 (fun j v hj => by simpa [iv] using hj)) rfl rfl rfl (by omega) (by omega) fun b' c' w2 hr he hb => ?_
  refine hk b' c' w2 ?_ ((he1.nil).trans he) fun k hk => ?_
  · show Vc.Row _ _ _ _ _ _ ((L ++ [x]).map iv)
    rw [List.map_append]
    exact hr
  · rcases hb k hk with q | q
    · exact .inl q
    · exact .inr (by have := he1.size; omega)
theorem modList_ok {R : Option Addr → Nat → Nat → World → Prop} (h : MC w m rb rl rc S) (hl : S.E.length ≤ 100)
    (hR : ∀ b c w', IRow w' b S.E.length c (S.E.map fun a => a.1.sd) → (∀ k ∈ rowBlk b, w.heap.size ≤ k) → Ext [] w w' → R b S.E.length c w') : sockm_Table_List.Call (some ⟨m, 0, none⟩) w R := by
  apply sockm_Table_List.sound
  unfold sockm_Table_List.B0
  have hln := h.len
  refine Pn.mk (h.ldR (Make.mk (by omega) (by omega) (by omega) (by omega) fun r w1 e1 s1 o1 he1 => ?_))
  unfold sockm_Table_List.L1
  refine ⟨fun mm t ob ol oc i w' => ∃ n : Nat, n ≤ rl ∧ mm = rl - n ∧ some ⟨m, 0, none⟩ = t ∧ ol = n ∧ i = (n : Int) ∧ IRow w' ob n oc ((S.E.take n).map fun a => a.1.sd) ∧ (∀ k ∈ rowBlk ob, w.heap.size ≤ k) ∧ Ext [] w w', _,
    ⟨0, by omega, rfl, rfl, rfl, rfl, ⟨by simp, by omega, .inr ⟨r, _, rfl, o1, by simp [madeCells], by simp⟩⟩, fun k hk => by simp [rowBlk] at hk; omega, he1⟩, ?_⟩
  rintro mm t ob ol oc i w' ⟨n, hn, rfl, rfl, rfl, rfl, hrow, hge, he⟩
  have h' := h.ext0 he
  unfold sockm_Table_List.L1b
  refine Pn.mk (h'.ldR (Bm.ite (fun hlt => ?_) fun hgt => ?_))
  · obtain ⟨a, ha⟩ := get_lt (L := S.E) (n := ol) (by omega)
    refine Pn.mk (h'.ldR (h'.fI0 ha (hrow.push (by omega) fun b' c' w2 hr2 he2 hb2 => ?_)))
    refine ⟨rl - (ol + 1), by omega, ol + 1, by omega, rfl, rfl, rfl, by rw [w64 (by omega) (by omega)]; omega, ?_, fun k hk => ?_, he.trans' he2 fun x hx hlt => by have := hge x hx; omega⟩
    · rw [take1 ha, List.map_append]
      exact hr2
    · rcases hb2 k hk with q | q
      · exact hge k q
      · have := he.size; omega
  · have e : ol = S.E.length := by omega
    subst e
    rw [List.take_of_length_le (Nat.le_refl _)] at hrow
    exact hR ob oc w' hrow hge he
/-- The rows that the model's Queue still looks for. -/
def cand (l : Int) (last : Int) (a : AE) : Prop := l ≠ 0 ∧ a.1.par = l ∧ a.1.rdy = true ∧ (a.2 : Int) > last
theorem modQueue_ok {lsd : Int} {R : Option Addr → Nat → Nat → World → Prop} (h : MC w m rb rl rc S) (hS : SkOk S)
    (hR : ∀ b c w', IRow w' b (qE S.E lsd).length c ((qE S.E lsd).map fun a => a.1.sd) → (∀ k ∈ rowBlk b, w.heap.size ≤ k) → Ext [] w w' → R b (qE S.E lsd).length c w') : sockm_Table_Queue.Call (some ⟨m, 0, none⟩) lsd w R := by
  apply sockm_Table_Queue.sound
  unfold sockm_Table_Queue.B0
  have hln := h.len
  have hl6 := hS.len6
  obtain ⟨qa, qp⟩ := qE_spec hS.ei lsd
  have ql : (qE S.E lsd).length ≤ 6 := by
    have h1 := qp.length_eq
    have h2 := List.length_filter_le (rdyOf lsd) S.E
    omega
  have qmem : ∀ a, a ∈ qE S.E lsd ↔ a ∈ S.E ∧ lsd ≠ 0 ∧ a.1.par = lsd ∧ a.1.rdy = true := fun a => by
    rw [qp.mem_iff, List.mem_filter, rdyOf_iff]
    constructor
    · rintro ⟨h1, h2, h3⟩
      refine ⟨h1, fun h0 => ?_, h2, h3⟩
      rcases hS.ei.ok a h1 with q | q
      · rw [q.2.2.2.2.2.2.2] at h3; cases h3
      · rw [q.2.2.2.2.2.2.2.2.2 (by rw [h2, h0])] at h3; cases h3
    · rintro ⟨h1, _, h2, h3⟩
      exact ⟨h1, h2, h3⟩
  refine New.mk fun r w1 e1 s1 o1 he1 => ?_
  unfold sockm_Table_Queue.L1
  refine ⟨fun mm t l ob ol oc last w' => ∃ P Q : List AE, qE S.E lsd = P ++ Q ∧ mm = Q.length ∧ some ⟨m, 0, none⟩ = t ∧ lsd = l ∧ ol = P.length ∧ (∀ a ∈ P, (a.2 : Int) ≤ last) ∧ (∀ a ∈ Q, last < (a.2 : Int)) ∧ IRow w' ob P.length oc (P.map fun a => a.1.sd) ∧ (∀ k ∈ rowBlk ob, w.heap.size ≤ k) ∧ Ext [] w w', _,
    ⟨[], qE S.E lsd, rfl, rfl, rfl, rfl, rfl, fun a ha => (by cases ha), fun a _ => by omega, ⟨by simp, Nat.le_refl _, .inr ⟨r, _, rfl, o1, by simp, by simp⟩⟩, fun k hk => by simp [rowBlk] at hk; omega, he1⟩, ?_⟩
  rintro mm t l ob ol oc last w' ⟨P, Q, eq, rfl, rfl, rfl, rfl, hP, hQ, hrow, hge, he⟩
  have ql' : P.length + Q.length ≤ 6 := by rw [eq, List.length_append] at ql; exact ql
  have cq : ∀ a, a ∈ S.E → (cand lsd last a ↔ a ∈ Q) := fun a ha => by
    constructor
    · rintro ⟨h0, h1, h2, h3⟩
      have := (qmem a).2 ⟨ha, h0, h1, h2⟩
      rw [eq, List.mem_append] at this
      rcases this with q | q
      · have := hP a q; omega
      · exact q
    · intro hq
      have := (qmem a).1 (by rw [eq]; exact List.mem_append.2 (.inr hq))
      exact ⟨this.2.1, this.2.2.1, this.2.2.2, hQ a hq⟩
  unfold sockm_Table_Queue.L1b sockm_Table_Queue.L2
  refine ⟨fun mm t l ob' ol oc' last' best i w2 => ∃ n : Nat, n ≤ rl ∧ mm = rl - n ∧ some ⟨m, 0, none⟩ = t ∧ lsd = l ∧ ob = ob' ∧ P.length = ol ∧ oc = oc' ∧ last = last' ∧ i = (n : Int) ∧ Ext [] w' w2 ∧ ((best = -1 ∧ ∀ a ∈ S.E.take n, ¬ cand lsd last a) ∨ ∃ (k : Nat) (c : AE), best = (k : Int) ∧ S.E[k]? = some c ∧ cand lsd last c ∧ ∀ a ∈ S.E.take n, cand lsd last a → c.2 ≤ a.2), _,
    ⟨0, by omega, rfl, rfl, rfl, rfl, rfl, rfl, rfl, rfl, Ext.refl _ _, .inl ⟨rfl, fun a ha => by simp at ha⟩⟩, ?_⟩
  rintro mm t l ob' ol oc' last' best i w2 ⟨n, hn, rfl, rfl, rfl, rfl, rfl, rfl, rfl, rfl, he2, hbest⟩
  have h2 := h.ext0 (he.trans he2)
  unfold sockm_Table_Queue.L2b
  refine Pn.mk (h2.ldR (Bm.ite (fun hlt => ?_) fun hgt => ?_))
  · obtain ⟨a, ha⟩ := get_lt (L := S.E) (n := n) (by omega)
    -- the row copied
    have cells : Pn rb fun x => (0 ≤ (n : Int) ∧ (n : Int) < (rl : Int)) ∧ LdI .i64 (Addr.add x ((n : Int).toNat * 9)) w2 fun x0 => LdI .i64 ((Addr.add x ((n : Int).toNat * 9)).add 1) w2 fun x1 => LdI .i64 ((Addr.add x ((n : Int).toNat * 9)).add 2) w2 fun x2 => LdI .i64 ((Addr.add x ((n : Int).toNat * 9)).add 3) w2 fun x3 => LdI .i64 ((Addr.add x ((n : Int).toNat * 9)).add 4) w2 fun x4 => LdI .i64 ((Addr.add x ((n : Int).toNat * 9)).add 5) w2 fun x5 => LdI .i64 ((Addr.add x ((n : Int).toNat * 9)).add 6) w2 fun x6 => LdB ((Addr.add x ((n : Int).toNat * 9)).add 7) w2 fun x7 => LdI .i64 ((Addr.add x ((n : Int).toNat * 9)).add 8) w2 fun x8 => x0 = a.1.sd ∧ x1 = a.1.kind ∧ x2 = a.1.lp ∧ x3 = a.1.rh ∧ x4 = a.1.rp ∧ x5 = a.1.slot ∧ x6 = a.1.par ∧ x7 = a.1.rdy ∧ x8 = (a.2 : Int) := by
      obtain ⟨k, ek, hc8⟩ := h2.cell (j := 8) ha rfl
      have hfE := h2.fE ha (K := fun x0 x1 x2 x3 x4 x5 x6 x7 => LdI .i64 ((Addr.add ⟨k, 0, none⟩ ((n : Int).toNat * 9)).add 8) w2 fun x8 => x0 = a.1.sd ∧ x1 = a.1.kind ∧ x2 = a.1.lp ∧ x3 = a.1.rh ∧ x4 = a.1.rp ∧ x5 = a.1.slot ∧ x6 = a.1.par ∧ x7 = a.1.rdy ∧ x8 = (a.2 : Int)) (LdI.cell (by rw [add_mk, add_mk, Int.toNat_natCast, Nat.zero_add]; exact hc8) ⟨rfl, rfl, rfl, rfl, rfl, rfl, rfl, rfl, rfl⟩)
      rw [ek] at hfE ⊢
      exact hfE
    obtain ⟨k, ek, hc8⟩ := h2.cell (j := 8) ha rfl
    refine Pn.mk (h2.ldR ?_)
    rw [ek] at cells ⊢
    obtain ⟨hb0, x0, g0, x1, g1, x2, g2, x3, g3, x4, g4, x5, g5, x6, g6, x7, g7, x8, g8, rfl, rfl, rfl, rfl, rfl, rfl, rfl, rfl, rfl⟩ := cells
    refine Pn.mk ⟨hb0, LdI.cell g0 (LdI.cell g1 (LdI.cell g2 (LdI.cell g3 (LdI.cell g4 (LdI.cell g5 (LdI.cell g6 (LdB.cell g7 (LdI.cell g8 (New.mk fun r2 w3 e3 s3 o3 he3 => Sts.full (vs := aeV a) o3 rfl rfl fun w4 hs4 o4 he4 => ?_)))))))))⟩
    rw [ek] at h2
    have hx4 : Ext [] w2 w4 := he3.trans' he4 (fun x hx hlt => by simp at hx; omega)
    have h4 := (h2.ext0 hx4).drew
    have hx4d : Ext [] w' w4.drew := (he2.trans hx4).trans (Ext.drew _ _)
    have o4d : Own w4.drew r2 (aeV a).toArray 63 := o4
    have step : ∀ (bb : Bool), (bb = true → cand lsd last a ∧ ∀ c ∈ S.E.take n, cand lsd last c → a.2 < c.2) → (cand lsd last a → bb = false → ∃ (q : Nat) (c : AE), best = (q : Int) ∧ S.E[q]? = some c ∧ c.2 ≤ a.2) →
        sockm_Table_Queue.B1 (some ⟨m, 0, none⟩) lsd ob P.length oc last best (n : Int) bb w4.drew (fun t' l' ob' ol' oc' last' w' => ∃ m', m' < Q.length ∧ ∃ P Q : List AE, qE S.E lsd = P ++ Q ∧ m' = Q.length ∧ some ⟨m, 0, none⟩ = t' ∧ lsd = l' ∧ ol' = P.length ∧ (∀ a ∈ P, (a.2 : Int) ≤ last') ∧ (∀ a ∈ Q, last' < (a.2 : Int)) ∧ IRow w' ob' P.length oc' (P.map fun a => a.1.sd) ∧ (∀ k ∈ rowBlk ob', w.heap.size ≤ k) ∧ Ext [] w w')
          (fun t' l' ob'' ol' oc'' last' best' i' w2 => ∃ m', m' < rl - n ∧ ∃ n : Nat, n ≤ rl ∧ m' = rl - n ∧ some ⟨m, 0, none⟩ = t' ∧ lsd = l' ∧ ob = ob'' ∧ P.length = ol' ∧ oc = oc'' ∧ last = last' ∧ i' = (n : Int) ∧ Ext [] w' w2 ∧ ((best' = -1 ∧ ∀ a ∈ S.E.take n, ¬ cand lsd last a) ∨ ∃ (k : Nat) (c : AE), best' = (k : Int) ∧ S.E[k]? = some c ∧ cand lsd last c ∧ ∀ a ∈ S.E.take n, cand lsd last a → c.2 ≤ a.2)) R := by
      intro bb hbb h3
      unfold sockm_Table_Queue.B1 sockm_Table_Queue.B2
      refine Bm.mk (fun e => ⟨rl - (n + 1), by omega, n + 1, by omega, rfl, rfl, rfl, rfl, rfl, rfl, rfl, by rw [w64 (by omega) (by omega)]; omega, hx4d, .inr ⟨n, a, rfl, ha, (hbb e).1, fun c hc hcc => ?_⟩⟩) fun e => ⟨rl - (n + 1), by omega, n + 1, by omega, rfl, rfl, rfl, rfl, rfl, rfl, rfl, by rw [w64 (by omega) (by omega)]; omega, hx4d, ?_⟩
      · rw [take1 ha] at hc
        rcases List.mem_append.1 hc with hc | hc
        · exact Nat.le_of_lt ((hbb e).2 c hc hcc)
        · rw [List.mem_singleton] at hc; subst hc; exact Nat.le_refl _
      · rcases hbest with ⟨q1, q2⟩ | ⟨q, c, q1, q2, q3, q4⟩
        · refine .inl ⟨q1, fun c hc hcc => ?_⟩
          rw [take1 ha] at hc
          rcases List.mem_append.1 hc with hc | hc
          · exact q2 c hc hcc
          · rw [List.mem_singleton] at hc
            subst hc
            obtain ⟨q, _, e1, _⟩ := h3 hcc e
            omega
        · refine .inr ⟨q, c, q1, q2, q3, fun d hd hdd => ?_⟩
          rw [take1 ha] at hd
          rcases List.mem_append.1 hd with hd | hd
          · exact q4 d hd hdd
          · rw [List.mem_singleton] at hd
            subst hd
            obtain ⟨q', c', e1, e2, e3⟩ := h3 hdd e
            have : q = q' := by omega
            subst this
            rw [q2] at e2
            cases e2
            exact e3
    have no : ¬ cand lsd last a → sockm_Table_Queue.B1 (some ⟨m, 0, none⟩) lsd ob P.length oc last best (n : Int) false w4.drew (fun t' l' ob' ol' oc' last' w' => ∃ m', m' < Q.length ∧ ∃ P Q : List AE, qE S.E lsd = P ++ Q ∧ m' = Q.length ∧ some ⟨m, 0, none⟩ = t' ∧ lsd = l' ∧ ol' = P.length ∧ (∀ a ∈ P, (a.2 : Int) ≤ last') ∧ (∀ a ∈ Q, last' < (a.2 : Int)) ∧ IRow w' ob' P.length oc' (P.map fun a => a.1.sd) ∧ (∀ k ∈ rowBlk ob', w.heap.size ≤ k) ∧ Ext [] w w')
          (fun t' l' ob'' ol' oc'' last' best' i' w2 => ∃ m', m' < rl - n ∧ ∃ n : Nat, n ≤ rl ∧ m' = rl - n ∧ some ⟨m, 0, none⟩ = t' ∧ lsd = l' ∧ ob = ob'' ∧ P.length = ol' ∧ oc = oc'' ∧ last = last' ∧ i' = (n : Int) ∧ Ext [] w' w2 ∧ ((best' = -1 ∧ ∀ a ∈ S.E.take n, ¬ cand lsd last a) ∨ ∃ (k : Nat) (c : AE), best' = (k : Int) ∧ S.E[k]? = some c ∧ cand lsd last c ∧ ∀ a ∈ S.E.take n, cand lsd last a → c.2 ≤ a.2)) R := fun hno => by
      unfold sockm_Table_Queue.B1 sockm_Table_Queue.B2
      refine Bm.neg rfl ⟨rl - (n + 1), by omega, n + 1, by omega, rfl, rfl, rfl, rfl, rfl, rfl, rfl, by rw [w64 (by omega) (by omega)]; omega, hx4d, ?_⟩
      rcases hbest with ⟨q1, q2⟩ | ⟨q, c, q1, q2, q3, q4⟩
      · refine .inl ⟨q1, fun c hc hcc => ?_⟩
        rw [take1 ha] at hc
        rcases List.mem_append.1 hc with hc | hc
        · exact q2 c hc hcc
        · rw [List.mem_singleton] at hc; subst hc; exact hno hcc
      · refine .inr ⟨q, c, q1, q2, q3, fun d hd hdd => ?_⟩
        rw [take1 ha] at hd
        rcases List.mem_append.1 hd with hd | hd
        · exact q4 d hd hdd
        · rw [List.mem_singleton] at hd; subst hd; exact absurd hdd hno
    refine Bm.mk (fun k0 => LdI.mk o4d rfl (Bm.mk (fun k1 => LdB.mk o4d rfl (Bm.mk (fun k2 => LdI.mk o4d rfl (Bm.ite (fun k3 => ?_) fun k3 => no fun hc => k3 hc.2.2.2)) fun k2 => no fun hc => by rw [hc.2.2.1] at k2; cases k2)) fun k1 => no fun hc => by simp at k1; exact k1 hc.2.1)) fun k0 => no fun hc => by simp at k0; exact hc.1 k0
    have hca : cand lsd last a := ⟨by simpa using k0, by simpa using k1, k2, k3⟩
    rcases hbest with ⟨rfl, q2⟩ | ⟨q, c, rfl, q2, q3, q4⟩
    · refine Bm.pos rfl (step true (fun _ => ⟨hca, fun c hc hcc => absurd hcc (q2 c hc)⟩) fun _ e => (by cases e))
    · refine Bm.ite (fun hc => absurd hc (by omega)) fun _ => LdI.mk o4d rfl (Pn.mk (h4.ldR (h4.fI 8 q2 rfl ?_)))
      refine step _ (fun e => ⟨hca, fun d hd hdd => ?_⟩) fun _ e => ⟨q, c, rfl, q2, ?_⟩
      · have := of_decide_eq_true e
        have := q4 d hd hdd
        omega
      · have := of_decide_eq_false e
        omega
  · rw [List.take_of_length_le (by omega)] at hbest
    rcases hbest with ⟨rfl, q2⟩ | ⟨q, c, rfl, q2, q3, q4⟩
    · have eQ : Q = [] := by
        rw [List.eq_nil_iff_forall_not_mem]
        intro a ha
        have hm := (qmem a).1 (by rw [eq]; exact List.mem_append.2 (.inr ha))
        exact q2 a hm.1 ((cq a hm.1).2 ha)
      subst eQ
      rw [List.append_nil] at eq
      subst eq
      exact Bm.pos rfl (hR ob oc w2 (hrow.ext he2 (fun _ _ h => by cases h)) hge (he.trans he2))
    · have hcQ := (cq c (List.mem_of_getElem? q2)).1 q3
      obtain ⟨d, Q', rfl⟩ : ∃ d Q', Q = d :: Q' := by
        cases Q with
        | nil => cases hcQ
        | cons d Q' => exact ⟨d, Q', rfl⟩
      have hdm := (qmem d).1 (by rw [eq]; simp)
      have hd := q4 d hdm.1 ((cq d hdm.1).2 (List.mem_cons_self ..))
      rw [eq] at qa
      have qa2 := List.pairwise_cons.1 (asc_right qa)
      have ecd : c = d := by
        rcases List.mem_cons.1 hcQ with e | e
        · exact e
        · have h5 : d.2 < c.2 := qa2.1 c e
          omega
      subst ecd
      refine Bm.ite (fun hc => absurd hc (by omega)) fun _ => Pn.mk (h2.ldR (h2.fI0 q2 (IRow.push (L := P.map fun a => a.1.sd) (hrow.ext he2 (fun _ _ h => by cases h)) (by omega) fun b' c' w3 hr3 he3 hb3 => ?_)))
      have hx3 : Ext [] w w3 := (he.trans he2).trans' he3 fun x hx hlt => by have := hge x hx; omega
      have h3 := h.ext0 hx3
      refine Pn.mk (h3.ldR (h3.fI 8 q2 rfl ⟨Q'.length, by simp, P ++ [c], Q', by rw [eq]; simp, rfl, rfl, rfl, by simp, fun a ha => ?_, fun a ha => ?_, ?_, fun k hk => ?_, hx3⟩))
      · rcases List.mem_append.1 ha with ha | ha
        · have h5 : a.2 < c.2 := asc_mid qa ha (List.mem_cons_self ..)
          omega
        · rw [List.mem_singleton] at ha; subst ha; exact Int.le_refl _
      · have h5 : c.2 < a.2 := qa2.1 a ha
        omega
      · rw [List.map_append, List.length_append]
        exact hr3
      · rcases hb3 k hk with q | q
        · exact hge k q
        · have := (he.trans he2).size; omega
end
end Go.Proofs.Qxb6500427a
