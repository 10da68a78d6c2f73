/-
  sock: Check of the real table.
-/
import Derived.Test.Qxb6500427aSkJ
set_option linter.unusedVariables false
open Go.Vc
namespace Go.Proofs.Qxb6500427a

theorem nodup_sub {α : Type} : ∀ {L M : List α}, L.Nodup → (∀ x ∈ L, x ∈ M) → L.length ≤ M.length
  | [], M, _, _ => by simp
  | a :: L, M, hn, h => by
    have hn' := List.nodup_cons.1 hn
    obtain ⟨s, u, rfl⟩ := List.append_of_mem (h a (List.mem_cons_self ..))
    have ih := nodup_sub (M := s ++ u) hn'.2 fun x hx => by
      have := h x (List.mem_cons_of_mem _ hx)
      rcases List.mem_append.1 this with q | q
      · exact List.mem_append.2 (.inl q)
      · rcases List.mem_cons.1 q with q | q
        · exact absurd (q ▸ hx) hn'.1
        · exact List.mem_append.2 (.inr q)
    simp only [List.length_append, List.length_cons] at ih ⊢
    omega
def SeenAt (w : World) (a : Nat) (f : Nat → Bool) : Prop := Own w a (fnArr 6 fun j => Value.bool (f j)) 77
section
variable {w : World} {b : Nat} {S : SkS} {T : Tbl} {F : List Nat} {C : Nat → List Nat} {occ : Nat → Bool}
theorem SeenAt.ld {a j : Nat} {f : Nat → Bool} {K : Bool → Prop} (h : SeenAt w a f) (hj : j < 6) (hk : K (f j)) : LdB (Addr.add ⟨a, 0, none⟩ ((j : Int).toNat * 1)) w K := by
  rw [add_mk, Int.toNat_natCast, Nat.mul_one, Nat.zero_add]
  exact LdB.fn h hj rfl hk
theorem SeenAt.st {a j : Nat} {f : Nat → Bool} {K : World → Prop} (h : SeenAt w a f) (hj : j < 6) (hk : ∀ w', w'.heap.size = w.heap.size → SeenAt w' a (updB f j true) → Ext [a] w w' → K w') : Sts [.bool true] (Addr.add ⟨a, 0, none⟩ ((j : Int).toNat * 1)) 0 w K := by
  rw [add_mk, Int.toNat_natCast, Nat.mul_one, Nat.zero_add]
  refine Sts.fn (g := fun q => Value.bool (updB f j true q)) h (by simp; omega) rfl (fun q hq => ?_) hk
  unfold fnPut
  by_cases e : q = j
  · subst e
    rw [if_pos (by simp), updB_eq]
    simp
  · rw [if_neg (by simp; omega), updB_ne e]
theorem index_ok {i : Int} (h : -1 ≤ i ∧ i < 6) {R : Bool → World → Prop} (hR : R true w) : sock_index.Call i w R := by
  apply sock_index.sound
  unfold sock_index.B0
  refine Bm.pos (decide_eq_true (by omega)) ?_
  rw [decide_eq_true (by omega)]
  exact hR
theorem Lk.head_bd {f : Nat → Int} {h : Int} {L : List Nat} (hl : Lk f h L) (h6 : ∀ x ∈ L, x < 6) : -1 ≤ h ∧ h < 6 := by
  cases L with
  | nil => have : h = -1 := hl; omega
  | cons a L => have := hl.1; have := h6 a (List.mem_cons_self ..); omega
theorem Lk.next_bd {f : Nat → Int} : ∀ {L : List Nat} {h : Int}, Lk f h L → (∀ x ∈ L, x < 6) → ∀ x ∈ L, -1 ≤ f x ∧ f x < 6
  | [], _, _, _, x, hx => by cases hx
  | a :: L, h, hl, h6, x, hx => by
    have h6' : ∀ x ∈ L, x < 6 := fun x hx => h6 x (List.mem_cons_of_mem _ hx)
    rcases List.mem_cons.1 hx with rfl | hx
    · exact hl.2.head_bd h6'
    · exact Lk.next_bd hl.2 h6' x hx
theorem Rel.next_bd (h : Rel T S F C occ) (hS : SkOk S) {i : Nat} (hi : i < 6) : -1 ≤ (T.rows i).next ∧ (T.rows i).next < 6 := by
  cases hu : (T.rows i).used with
  | false => exact h.rs.fr.next_bd (fun x hx => ((h.rs.fmem x).1 hx).1) i ((h.rs.fmem i).2 ⟨hi, hu⟩)
  | true =>
    rcases (h.ok hS hi hu).kind with hk | hk
    · have := (h.ring i hi hu hk).1
      omega
    · have hlt : hE (T.rows i).e < 4 := hsh_lt _ _ _
      exact (h.rs.ch _ hlt).next_bd (fun x hx => ((h.rs.cmem _ hlt x).1 hx).1) i ((h.rs.cmem _ hlt i).2 ⟨hi, hu, hk, rfl⟩)
theorem rangesFine_ok {R : Bool → World → Prop} (ht : TAt w b T) (h : Rel T S F C occ) (hS : SkOk S) (hR : R true w) : sock_Table_rangesFine.Call (some ⟨b, 0, none⟩) w R := by
  apply sock_Table_rangesFine.sound
  unfold sock_Table_rangesFine.B0
  have he := h.eph
  have hn := h.nsd
  have h1 := hS.eph
  have h2 := hS.nsd
  refine Pn.mk (ht.ldFree (index_ok (h.rs.fr.head_bd fun x hx => ((h.rs.fmem x).1 hx).1) (Bm.neg rfl (Pn.mk (ht.ldEph (Bm.neg (decide_eq_false (by omega)) (Pn.mk (ht.ldEph (Bm.neg (decide_eq_false (by omega)) (Pn.mk (ht.ldNsd ?_)))))))))))
  rw [decide_eq_false (by omega)]
  unfold sock_Table_rangesFine.B1
  refine Bm.neg rfl ⟨fun m t' i w' => ∃ n : Nat, n ≤ 6 ∧ m = 6 - n ∧ some ⟨b, 0, none⟩ = t' ∧ i = (n : Int) ∧ w = w', _, ⟨0, by omega, rfl, rfl, rfl, rfl⟩, ?_⟩
  rintro m t' i w' ⟨n, hn6, rfl, rfl, rfl, rfl⟩
  unfold sock_Table_rangesFine.L1b
  refine Bm.ite (fun hlt => Pn.mk ⟨⟨by omega, by omega⟩, ht.ldNext (by omega) (index_ok (h.next_bd hS (by omega)) (Bm.neg rfl ⟨6 - (n + 1), by omega, n + 1, by omega, rfl, rfl, by rw [w64 (by omega) (by omega)]; omega, rfl⟩))⟩) fun hge => ?_
  refine ⟨fun m t' i w' => ∃ n : Nat, n ≤ 4 ∧ m = 4 - n ∧ some ⟨b, 0, none⟩ = t' ∧ i = (n : Int) ∧ w = w', _, ⟨0, by omega, rfl, rfl, rfl, rfl⟩, ?_⟩
  rintro m t' i w' ⟨n, hn6, rfl, rfl, rfl, rfl⟩
  unfold sock_Table_rangesFine.L2b
  refine Bm.ite (fun hlt => Pn.mk ⟨⟨by omega, by omega⟩, ht.ldBkt (by omega) (index_ok ((h.rs.ch n (by omega)).head_bd fun x hx => ((h.rs.cmem n (by omega) x).1 hx).1) (Bm.neg rfl ⟨4 - (n + 1), by omega, n + 1, by omega, rfl, rfl, by rw [w64 (by omega) (by omega)]; omega, rfl⟩))⟩) fun hge => ?_
  refine ⟨fun m t' i w' => ∃ n : Nat, n ≤ 8 ∧ m = 8 - n ∧ some ⟨b, 0, none⟩ = t' ∧ i = (n : Int) ∧ w = w', _, ⟨0, by omega, rfl, rfl, rfl, rfl⟩, ?_⟩
  rintro m t' i w' ⟨n, hn6, rfl, rfl, rfl, rfl⟩
  unfold sock_Table_rangesFine.L3b
  refine Bm.ite (fun hlt => Pn.mk ⟨⟨by omega, by omega⟩, ht.ldPort (by omega) (index_ok ?_ (Bm.neg rfl ⟨8 - (n + 1), by omega, n + 1, by omega, rfl, rfl, by rw [w64 (by omega) (by omega)]; omega, rfl⟩))⟩) fun hge => hR
  by_cases h0 : n = 0
  · subst h0
    rw [h.rs.p0]
    omega
  · rcases h.rs.prt n (by omega) (by omega) with ⟨q, _⟩ | ⟨j, hj, _, _, _, q⟩
    · omega
    · omega
theorem freeFine_ok {R : Bool → World → Prop} (ht : TAt w b T) (h : Rel T S F C occ) (hR : ∀ w', Ext [] w w' → R true w') : sock_Table_freeFine.Call (some ⟨b, 0, none⟩) w R := by
  apply sock_Table_freeFine.sound
  unfold sock_Table_freeFine.B0
  refine New.mk fun a w1 ha hs1 ho1 he1 => Pn.mk ((ht.ext0 he1).ldFree ?_)
  have hs0 : SeenAt w1 a (fun _ => false) := ho1
  have hlen : F.length ≤ 6 := nodup_len 6 h.rs.fnd fun x hx => ((h.rs.fmem x).1 hx).1
  have hlt := ht.lt
  refine ⟨fun m t' a' j n w' => ∃ (P Q : List Nat) (f : Nat → Bool), m = Q.length ∧ some ⟨b, 0, none⟩ = t' ∧ a = a' ∧ F = P ++ Q ∧ Lk (nx T) j Q ∧ n = (P.length : Int) ∧ SeenAt w' a f ∧ (∀ x, f x = true ↔ x ∈ P) ∧ Ext [] w w', _, ⟨[], F, fun _ => false, rfl, rfl, rfl, rfl, h.rs.fr, rfl, hs0, (fun x => by simp), he1⟩, ?_⟩
  rintro m t' a' j n w' ⟨P, Q, f, rfl, rfl, rfl, hPQ, hlk, rfl, hsn, hf, he⟩
  have hl2 : P.length + Q.length ≤ 6 := by rw [hPQ, List.length_append] at hlen; exact hlen
  have ht' := ht.ext0 he
  unfold sock_Table_freeFine.L1b
  cases Q with
  | nil =>
    rw [hlk]
    refine Bm.neg (by decide) ?_
    unfold sock_Table_freeFine.B1
    refine Bm.neg rfl (Bm.neg (by decide) ⟨fun m t' a' i w' => ∃ n : Nat, n ≤ 6 ∧ m = 6 - n ∧ some ⟨b, 0, none⟩ = t' ∧ a = a' ∧ i = (n : Int) ∧ SeenAt w' a f ∧ Ext [] w w', _, ⟨0, by omega, rfl, rfl, rfl, rfl, hsn, he⟩, ?_⟩)
    clear he ht' hsn
    rintro m t' a' i w' ⟨n, hn, rfl, rfl, rfl, rfl, hsn, he⟩
    unfold sock_Table_freeFine.L2b
    refine Bm.ite (fun hlt6 => Pn.mk ⟨⟨by omega, by omega⟩, (ht.ext0 he).drew.ldUsed (by omega) ⟨⟨by omega, by omega⟩, SeenAt.ld (show SeenAt w'.drew a f from Own.drew hsn) (by omega) ?_⟩⟩) fun hge => hR w' he
    refine Bm.neg ?_ ⟨6 - (n + 1), by omega, n + 1, by omega, rfl, rfl, rfl, by rw [w64 (by omega) (by omega)]; omega, Own.drew hsn, he.trans (Ext.drew _ _)⟩
    rw [List.append_nil] at hPQ
    cases hu : (T.rows n).used with
    | true =>
      have : f n = false := by
        cases hfn : f n with
        | false => rfl
        | true =>
          have := (h.rs.fmem n).1 (by rw [hPQ]; exact (hf n).1 hfn)
          rw [hu] at this
          cases this.2
      rw [this]
      rfl
    | false =>
      have : f n = true := (hf n).2 (by rw [← hPQ]; exact (h.rs.fmem n).2 ⟨by omega, hu⟩)
      rw [this]
      rfl
  | cons q Q =>
    have hq := (h.rs.fmem q).1 (by rw [hPQ]; simp)
    have hnd := h.rs.fnd
    rw [hPQ] at hnd
    have hqP : q ∉ P := fun z => (List.nodup_append.1 hnd).2.2 q z q (List.mem_cons_self ..) rfl
    simp only [List.length_cons] at hl2
    rw [hlk.1]
    refine Bm.pos (by simp) ?_
    rw [decide_eq_true (by omega)]
    unfold sock_Table_freeFine.B1
    refine Bm.pos rfl (Pn.mk ⟨⟨by omega, by omega⟩, ht'.ldUsed hq.1 (Bm.neg hq.2 ⟨⟨by omega, by omega⟩, hsn.ld hq.1 ?_⟩)⟩)
    have hfq : f q = false := by
      cases hfn : f q with
      | false => rfl
      | true => exact absurd ((hf q).1 hfn) hqP
    rw [hfq]
    unfold sock_Table_freeFine.B2
    refine Bm.neg rfl ⟨⟨by omega, by omega⟩, hsn.st hq.1 fun w2 hs2 hsn2 he2 => Pn.mk ⟨⟨by omega, by omega⟩, (ht'.ext he2 (by simp; omega)).ldNext hq.1 ⟨Q.length, by simp, P ++ [q], Q, updB f q true, rfl, rfl, rfl, by rw [hPQ]; simp, hlk.2, by rw [w64 (by omega) (by omega)]; simp, hsn2, fun x => ?_, he.trans' he2 (fun y hy hl => by simp at hy; omega)⟩⟩⟩
    by_cases e : x = q
    · subst e; rw [updB_eq]; simp
    · rw [updB_ne e, hf x]; simp [e]
theorem chainsFine_ok {R : Bool → World → Prop} (ht : TAt w b T) (h : Rel T S F C occ) (hS : SkOk S) (hR : ∀ w', Ext [] w w' → R true w') : sock_Table_chainsFine.Call (some ⟨b, 0, none⟩) w R := by
  apply sock_Table_chainsFine.sound
  unfold sock_Table_chainsFine.B0
  refine New.mk fun a w1 ha hs1 ho1 he1 => ?_
  have hs0 : SeenAt w1 a (fun _ => false) := ho1
  have hlt := ht.lt
  -- done: the rows that have been met
  have slotOf : ∀ x, x < 6 → (T.rows x).used = true → (T.rows x).e.kind = 2 → 0 ≤ (T.rows x).e.slot ∧ (T.rows x).e.slot < 4 := fun x hx u k => by
    have := (h.ok hS hx u).con k
    omega
  refine ⟨fun m t' a' bl bb w' => ∃ (n : Nat) (f g : Nat → Bool), n ≤ 4 ∧ m = 4 - n ∧ some ⟨b, 0, none⟩ = t' ∧ a = a' ∧ bl = blkOf g ∧ bb = (n : Int) ∧ SeenAt w' a f ∧ (∀ x, f x = true ↔ ∃ c, c < n ∧ x ∈ C c) ∧ (∀ s, s < 4 → (g s = true ↔ ∃ x, f x = true ∧ (T.rows x).e.slot = (s : Int))) ∧ Ext [] w w', _,
    ⟨0, fun _ => false, fun _ => false, by omega, rfl, rfl, rfl, rfl, rfl, hs0, fun x => ⟨fun z => (by cases z), fun ⟨c, hc, _⟩ => (by omega)⟩, fun s hs => ⟨fun z => (by cases z), fun ⟨x, hx, _⟩ => (by cases hx)⟩, he1⟩, ?_⟩
  rintro m t' a' bl bb w' ⟨n, f, g, hn, rfl, rfl, rfl, rfl, rfl, hsn, hf, hg, he⟩
  unfold sock_Table_chainsFine.L1b
  refine Bm.ite (fun hlt4 => Pn.mk ⟨⟨by omega, by omega⟩, (ht.ext0 he).ldBkt (by omega) ?_⟩) fun hge => ?_
  · have hn4 : n < 4 := by omega
    have hclen := h.rs.clen hn4
    refine ⟨fun m t' a' bl bb j k w' => ∃ (P Q : List Nat) (f g : Nat → Bool), m = Q.length ∧ some ⟨b, 0, none⟩ = t' ∧ a = a' ∧ bl = blkOf g ∧ bb = (n : Int) ∧ C n = P ++ Q ∧ Lk (nx T) j Q ∧ k = (P.length : Int) ∧ SeenAt w' a f ∧ (∀ x, f x = true ↔ (∃ c, c < n ∧ x ∈ C c) ∨ x ∈ P) ∧ (∀ s, s < 4 → (g s = true ↔ ∃ x, f x = true ∧ (T.rows x).e.slot = (s : Int))) ∧ Ext [] w w', _,
      ⟨[], C n, f, g, rfl, rfl, rfl, rfl, rfl, rfl, h.rs.ch n hn4, rfl, hsn, fun x => by rw [hf x]; simp, hg, he⟩, ?_⟩
    clear hf hg hsn he f g
    rintro m t' a' bl bb j k w' ⟨P, Q, f, g, rfl, rfl, rfl, rfl, rfl, hPQ, hlk, rfl, hsn, hf, hg, he⟩
    have hl2 : P.length + Q.length ≤ 6 := by rw [hPQ, List.length_append] at hclen; exact hclen
    have ht' := ht.ext0 he
    unfold sock_Table_chainsFine.L2b
    cases Q with
    | nil =>
      rw [hlk]
      refine Bm.neg (by decide) ?_
      unfold sock_Table_chainsFine.B1
      rw [List.append_nil] at hPQ
      refine Bm.neg rfl (Bm.neg (by decide) ⟨4 - (n + 1), by omega, n + 1, f, g, by omega, rfl, rfl, rfl, rfl, by rw [w64 (by omega) (by omega)]; omega, hsn, fun x => ?_, hg, he⟩)
      rw [hf x, ← hPQ]
      constructor
      · rintro (⟨c, hc, hx⟩ | hx)
        · exact ⟨c, by omega, hx⟩
        · exact ⟨n, by omega, hx⟩
      · rintro ⟨c, hc, hx⟩
        by_cases e : c = n
        · subst e; exact .inr hx
        · exact .inl ⟨c, by omega, hx⟩
    | cons q Q =>
      have hq := (h.rs.cmem n hn4 q).1 (by rw [hPQ]; simp)
      have hnd := h.rs.cnd n hn4
      rw [hPQ] at hnd
      have hqP : q ∉ P := fun z => (List.nodup_append.1 hnd).2.2 q z q (List.mem_cons_self ..) rfl
      have hfq : f q = false := by
        cases hfn : f q with
        | false => rfl
        | true =>
          rcases (hf q).1 hfn with ⟨c, hc, hx⟩ | hx
          · have := ((h.rs.cmem c (by omega) q).1 hx).2.2.2
            rw [hq.2.2.2] at this
            omega
          · exact absurd hx hqP
      simp only [List.length_cons] at hl2
      rw [hlk.1]
      refine Bm.pos (by simp) ?_
      rw [decide_eq_true (by omega)]
      unfold sock_Table_chainsFine.B1
      refine Bm.pos rfl (Pn.mk ⟨⟨by omega, by omega⟩, ht'.ldEnt hq.1 (NewSet.mk rfl rfl fun e w2 hee hs2 ho2 he2 => Pn.mk ⟨⟨by omega, by omega⟩, (ht'.ext0 he2).ldUsed hq.1 (Bm.neg (by rw [hq.2.1]; rfl) ⟨⟨by omega, by omega⟩, SeenAt.ld (show SeenAt w2 a f from he2.own hsn (by simp)) hq.1 ?_⟩)⟩)⟩)
      rw [hfq]
      have ho : Own w2 e (entVs (T.rows q).e).toArray 40 := ho2
      obtain ⟨s, hs⟩ : ∃ s : Nat, (T.rows q).e.slot = s := ⟨(T.rows q).e.slot.toNat, by have := slotOf q hq.1 hq.2.1 hq.2.2.1; omega⟩
      have hsl := slotOf q hq.1 hq.2.1 hq.2.2.1
      refine Bm.neg rfl (LdI.mk ho rfl (Bm.neg (by rw [hq.2.2.1]; rfl) (LdI.mk ho rfl (Bm.neg (decide_eq_false (by omega)) (LdI.mk ho rfl ?_)))))
      rw [decide_eq_false (by omega)]
      unfold sock_Table_chainsFine.B3
      refine Bm.neg rfl (LdI.mk ho rfl (LdI.mk ho rfl (LdI.mk ho rfl (hash_ok ?_))))
      have hhe : hsh (T.rows q).e.lp (T.rows q).e.rh (T.rows q).e.rp = n := hq.2.2.2
      rw [hhe]
      refine Bm.neg (by simp) (LdI.mk ho rfl ?_)
      rw [hs]
      refine bitOf_ok (by omega) ?_
      show Bm (and8 (blkOf g) (bitI s) != 0) _ _
      have hgs : g s = false := by
        cases hgn : g s with
        | false => rfl
        | true =>
          obtain ⟨x, hx, hxs⟩ := (hg s (by omega)).1 hgn
          have hxm : ∃ c, c < 4 ∧ x ∈ C c := by
            rcases (hf x).1 hx with ⟨c, hc, hxc⟩ | hxP
            · exact ⟨c, by omega, hxc⟩
            · exact ⟨n, hn4, by rw [hPQ]; simp [hxP]⟩
          obtain ⟨c, hc4, hxc⟩ := hxm
          have hxr := (h.rs.cmem c hc4 x).1 hxc
          obtain ⟨a1, m1, e1⟩ := h.toE hxr.1 hxr.2.1
          obtain ⟨a2, m2, e2⟩ := h.toE hq.1 hq.2.1
          have := hS.ei.slt a1 m1 a2 m2 (by rw [e1]; exact hxr.2.2.1) (by rw [e2]; exact hq.2.2.1) (by rw [e1, e2, hxs, hs])
          have hxq := h.uniq hS x q hxr.1 hq.1 hxr.2.1 hq.2.1 (by rw [← e1, ← e2]; exact this)
          rw [hxq, hfq] at hx
          cases hx
      have hand : (and8 (blkOf g) (bitI s) != 0) = false := by
        have := blk_and g (s := s) (by omega)
        rw [hgs] at this
        simpa using this
      rw [hand]
      refine Bm.neg rfl ⟨⟨by omega, by omega⟩, SeenAt.st (show SeenAt w2 a f from he2.own hsn (by simp)) hq.1 fun w3 hs3 hsn3 he3 => Pn.mk ⟨⟨by omega, by omega⟩, ((ht'.ext0 he2).ext he3 (by simp; omega)).ldNext hq.1 ⟨Q.length, by simp, P ++ [q], Q, updB f q true, updB g s true, rfl, rfl, rfl, ?_, rfl, by rw [hPQ]; simp, hlk.2, by rw [w64 (by omega) (by omega)]; simp, hsn3, fun x => ?_, fun z hz => ?_, (he.trans he2).trans' he3 (fun y hy hl => by simp at hy; omega)⟩⟩⟩
      · show or8 (blkOf g) (bitI s) = _
        exact blk_or g (by omega)
      · by_cases ex : x = q
        · subst ex; rw [updB_eq]; simp
        · rw [updB_ne ex, hf x]; simp [ex]
      · by_cases ez : z = s
        · subst ez
          rw [updB_eq]
          exact ⟨fun _ => ⟨q, updB_eq .., hs⟩, fun _ => rfl⟩
        · rw [updB_ne ez, hg z hz]
          constructor
          · rintro ⟨x, hx, hxs⟩
            have ex : x ≠ q := fun y => by rw [y, hfq] at hx; cases hx
            exact ⟨x, by rw [updB_ne ex]; exact hx, hxs⟩
          · rintro ⟨x, hx, hxs⟩
            have ex : x ≠ q := fun y => by rw [y, hs] at hxs; omega
            exact ⟨x, by rw [updB_ne ex] at hx; exact hx, hxs⟩
  · have hn4 : n = 4 := by omega
    subst hn4
    have hfx : ∀ x, x < 6 → (f x = true ↔ (T.rows x).used = true ∧ (T.rows x).e.kind = 2) := fun x hx => by
      rw [hf x]
      constructor
      · rintro ⟨c, hc, hxc⟩
        have := (h.rs.cmem c hc x).1 hxc
        exact ⟨this.2.1, this.2.2.1⟩
      · rintro ⟨u, k⟩
        exact ⟨hE (T.rows x).e, hsh_lt _ _ _, (h.rs.cmem _ (hsh_lt _ _ _) x).2 ⟨hx, u, k, rfl⟩⟩
    have hgo : blkOf g = T.blk := by
      rw [h.rs.blk]
      refine blkOf_congr fun s hs => Bool.eq_iff_iff.2 ?_
      rw [hg s hs, h.rs.occ s hs]
      constructor
      · rintro ⟨x, hx, hxs⟩
        obtain ⟨c, hc, hxc⟩ := (hf x).1 hx
        have := (h.rs.cmem c hc x).1 hxc
        exact ⟨x, this.1, this.2.1, this.2.2.1, hxs⟩
      · rintro ⟨x, hx, u, k, hxs⟩
        exact ⟨x, (hfx x hx).2 ⟨u, k⟩, hxs⟩
    refine ⟨fun m t' a' bl i w' => ∃ n : Nat, n ≤ 6 ∧ m = 6 - n ∧ some ⟨b, 0, none⟩ = t' ∧ a = a' ∧ bl = blkOf g ∧ i = (n : Int) ∧ SeenAt w' a f ∧ Ext [] w w', _, ⟨0, by omega, rfl, rfl, rfl, rfl, rfl, hsn, he⟩, ?_⟩
    clear he hsn hge
    rintro m t' a' bl i w' ⟨n, hn, rfl, rfl, rfl, rfl, rfl, hsn, he⟩
    have ht' := ht.ext0 he
    unfold sock_Table_chainsFine.L3b
    refine Bm.ite (fun hlt6 => ⟨⟨by omega, by omega⟩, SeenAt.ld (show SeenAt w'.drew a f from Own.drew hsn) (by omega) (Pn.mk ⟨⟨by omega, by omega⟩, ht'.drew.ldUsed (by omega) ?_⟩)⟩) fun hge => ?_
    · have go : sock_Table_chainsFine.B2 (some ⟨b, 0, none⟩) a (blkOf g) (n : Int) false w'.drew (fun t' a' bl i w' => ∃ m', m' < 6 - n ∧ ∃ n : Nat, n ≤ 6 ∧ m' = 6 - n ∧ some ⟨b, 0, none⟩ = t' ∧ a = a' ∧ bl = blkOf g ∧ i = (n : Int) ∧ SeenAt w' a f ∧ Ext [] w w') R := by
        unfold sock_Table_chainsFine.B2
        exact Bm.neg rfl ⟨6 - (n + 1), by omega, n + 1, by omega, rfl, rfl, rfl, rfl, by rw [w64 (by omega) (by omega)]; omega, Own.drew hsn, he.trans (Ext.drew _ _)⟩
      have hfn := hfx n (by omega)
      refine Bm.mk (fun u => Pn.mk ⟨⟨by omega, by omega⟩, ht'.drew.ldKind (by omega) ?_⟩) fun u => ?_
      · have : (!(f n == ((T.rows n).e.kind == 2))) = false := by
          by_cases k : (T.rows n).e.kind = 2
          · rw [hfn.2 ⟨u, k⟩]; simp [k]
          · have : f n = false := by
              cases q : f n with
              | false => rfl
              | true => exact absurd (hfn.1 q).2 k
            rw [this]; simp [k]
        rw [this]
        exact go
      · have : f n = false := by
          cases q : f n with
          | false => rfl
          | true => have := (hfn.1 q).1; rw [u] at this; cases this
        rw [this]
        exact go
    · refine Pn.mk (ht'.ldBlk ?_)
      rw [hgo, show (T.blk == T.blk) = true by simp]
      exact hR w' he
def lisR (T : Tbl) (n : Nat) : List Nat := (List.range n).filter fun i => (T.rows i).used && decide ((T.rows i).e.kind = 1)
def prtR (T : Tbl) (n : Nat) : List Nat := (List.range n).filter fun p => !decide (T.port p = -1)
theorem lisR_len (h : Rel T S F C occ) : (lisR T 6).length = (S.E.filter isL).length := by
  have h1 : ∀ n, (lisR T n).length = ((Lri T n).filter fun e => decide (e.kind = 1)).length := fun n => by
    induction n with
    | zero => rfl
    | succ n ih =>
      unfold lisR Lri at ih ⊢
      rw [List.range_succ, List.filter_append, List.flatMap_append, List.filter_append, List.length_append, List.length_append, ih]
      congr 1
      simp only [List.flatMap_cons, List.flatMap_nil, List.append_nil, lvr]
      cases hu : (T.rows n).used with
      | false => simp [hu]
      | true =>
        by_cases hk : (T.rows n).e.kind = 1 <;> simp [hu, hk]
  rw [h1 6]
  have h2 := (h.perm.filter fun e => decide (e.kind = 1)).length_eq
  have h3 : ∀ E : List AE, ((E.map fun a : AE => a.1).filter fun e => decide (e.kind = 1)).length = (E.filter isL).length := fun E => by
    rw [List.filter_map, List.length_map]
    rfl
  rw [← h3]
  exact h2
theorem prtR_len (h : Rel T S F C occ) (hS : SkOk S) : (prtR T 8).length = (lisR T 6).length := by
  have m1 : ∀ {p}, p ∈ prtR T 8 → p < 8 ∧ ∃ i, i < 6 ∧ (T.rows i).used = true ∧ (T.rows i).e.kind = 1 ∧ (T.rows i).e.lp = (p : Int) ∧ T.port p = (i : Int) := fun {p} hp => by
    have := List.mem_filter.1 hp
    have hp8 := List.mem_range.1 this.1
    have hne : T.port p ≠ -1 := by simpa using this.2
    have hp1 : 1 ≤ p := by
      cases p with
      | zero => exact absurd h.rs.p0 hne
      | succ p => omega
    rcases h.rs.prt p hp1 hp8 with ⟨q, _⟩ | q
    · exact absurd q hne
    · exact ⟨hp8, q⟩
  have m2 : ∀ {i}, i ∈ lisR T 6 ↔ i < 6 ∧ (T.rows i).used = true ∧ (T.rows i).e.kind = 1 := fun {i} => by
    unfold lisR
    rw [List.mem_filter, List.mem_range]
    simp
  apply Nat.le_antisymm
  · have hn : ((prtR T 8).map fun p => (T.port p).toNat).Nodup := by
      unfold List.Nodup
      rw [List.pairwise_map]
      refine List.Pairwise.imp_of_mem (fun {x y} hx hy hne e => hne ?_) (List.Pairwise.filter _ (List.nodup_range (n := 8)))
      obtain ⟨_, i, hi, _, _, l1, p1⟩ := m1 hx
      obtain ⟨_, j, hj, _, _, l2, p2⟩ := m1 hy
      rw [p1, p2] at e
      have : i = j := by omega
      subst this
      omega
    have := nodup_sub hn (M := lisR T 6) fun x hx => by
      obtain ⟨p, hp, rfl⟩ := List.mem_map.1 hx
      obtain ⟨_, i, hi, u, k, _, p1⟩ := m1 hp
      rw [p1, Int.toNat_natCast]
      exact m2.2 ⟨hi, u, k⟩
    rwa [List.length_map] at this
  · have hn : ((lisR T 6).map fun i => (T.rows i).e.lp.toNat).Nodup := by
      unfold List.Nodup
      rw [List.pairwise_map]
      refine List.Pairwise.imp_of_mem (fun {x y} hx hy hne e => hne ?_) (List.Pairwise.filter _ (List.nodup_range (n := 6)))
      have q1 := m2.1 hx
      have q2 := m2.1 hy
      obtain ⟨a1, h1, e1⟩ := h.toE q1.1 q1.2.1
      obtain ⟨a2, h2, e2⟩ := h.toE q2.1 q2.2.1
      have l1 := (hS.ei.ok a1 h1).lis (by rw [e1]; exact q1.2.2)
      have l2 := (hS.ei.ok a2 h2).lis (by rw [e2]; exact q2.2.2)
      rw [e1] at l1
      rw [e2] at l2
      have := hS.ei.prt a1 h1 a2 h2 (by rw [e1]; exact q1.2.2) (by rw [e2]; exact q2.2.2) (by rw [e1, e2]; omega)
      exact h.uniq hS x y q1.1 q2.1 q1.2.1 q2.2.1 (by rw [← e1, ← e2]; exact this)
    have := nodup_sub hn (M := prtR T 8) fun x hx => by
      obtain ⟨i, hi, rfl⟩ := List.mem_map.1 hx
      have q := m2.1 hi
      have hok := (h.ok hS q.1 q.2.1).lis q.2.2
      unfold prtR
      rw [List.mem_filter, List.mem_range]
      refine ⟨by omega, ?_⟩
      rcases h.rs.prt (T.rows i).e.lp.toNat (by omega) (by omega) with ⟨_, z⟩ | ⟨j, _, _, _, _, z⟩
      · exact absurd (by omega) (z i q.1 q.2.1 q.2.2)
      · rw [z]
        simp
    rwa [List.length_map] at this
theorem portsFine_ok {R : Bool → World → Prop} (ht : TAt w b T) (h : Rel T S F C occ) (hS : SkOk S) (hR : R true w) : sock_Table_portsFine.Call (some ⟨b, 0, none⟩) w R := by
  apply sock_Table_portsFine.sound
  unfold sock_Table_portsFine.B0
  have succP : ∀ n, prtR T (n + 1) = prtR T n ++ (if T.port n = -1 then [] else [n]) := fun n => by
    unfold prtR
    rw [List.range_succ, List.filter_append]
    congr 1
    by_cases q : T.port n = -1 <;> simp [q]
  have succL : ∀ n, lisR T (n + 1) = lisR T n ++ (if (T.rows n).used = true ∧ (T.rows n).e.kind = 1 then [n] else []) := fun n => by
    unfold lisR
    rw [List.range_succ, List.filter_append]
    congr 1
    by_cases q : (T.rows n).used = true ∧ (T.rows n).e.kind = 1
    · simp [q.1, q.2]
    · rw [if_neg q]
      cases hu : (T.rows n).used with
      | false => simp [hu]
      | true =>
        have : (T.rows n).e.kind ≠ 1 := fun z => q ⟨hu, z⟩
        simp [this]
  have lenP : ∀ n, (prtR T n).length ≤ n := fun n => by unfold prtR; have := List.length_filter_le (fun p => !decide (T.port p = -1)) (List.range n); simpa using this
  have lenL : ∀ n, (lisR T n).length ≤ n := fun n => by unfold lisR; have := List.length_filter_le (fun i => (T.rows i).used && decide ((T.rows i).e.kind = 1)) (List.range n); simpa using this
  refine ⟨fun m t' n p w' => ∃ q : Nat, q ≤ 8 ∧ m = 8 - q ∧ some ⟨b, 0, none⟩ = t' ∧ n = ((prtR T q).length : Int) ∧ p = (q : Int) ∧ w = w', _, ⟨0, by omega, rfl, rfl, rfl, rfl, rfl⟩, ?_⟩
  rintro m t' n p w' ⟨q, hq, rfl, rfl, rfl, rfl, rfl⟩
  have hlq := lenP q
  unfold sock_Table_portsFine.L1b
  refine Bm.ite (fun hlt => Pn.mk ⟨⟨by omega, by omega⟩, ht.ldPort (by omega) ?_⟩) fun hge => ?_
  · by_cases hp : T.port q = -1
    · rw [hp]
      refine Bm.neg (by decide) ⟨8 - (q + 1), by omega, q + 1, by omega, rfl, rfl, ?_, by rw [w64 (by omega) (by omega)]; omega, rfl⟩
      rw [succP, if_pos hp, List.append_nil]
    · have hq1 : 1 ≤ q := by
        cases q with
        | zero => exact absurd h.rs.p0 hp
        | succ q => omega
      rcases h.rs.prt q hq1 (by omega) with ⟨z, _⟩ | ⟨i, hi, u, k, lp, e⟩
      · exact absurd z hp
      · rw [e]
        refine Bm.pos (by simp) (Bm.neg (by simp; omega) (Pn.mk ⟨⟨by omega, by omega⟩, ht.ldUsed hi (Bm.neg (by rw [u]; rfl) (Pn.mk ⟨⟨by omega, by omega⟩, ht.ldKind hi (Bm.neg (by rw [k]; rfl) (Pn.mk ⟨⟨by omega, by omega⟩, ht.ldLp hi ?_⟩))⟩))⟩))
        rw [lp, show ((q : Int) != (q : Int)) = false by simp]
        unfold sock_Table_portsFine.B1
        refine Bm.neg rfl ⟨8 - (q + 1), by omega, q + 1, by omega, rfl, rfl, ?_, by rw [w64 (by omega) (by omega)]; omega, rfl⟩
        rw [succP, if_neg hp, List.length_append, w64 (by omega) (by omega)]
        simp
  · have hq8 : q = 8 := by omega
    subst hq8
    refine ⟨fun m t' n al i w' => ∃ q : Nat, q ≤ 6 ∧ m = 6 - q ∧ some ⟨b, 0, none⟩ = t' ∧ n = ((prtR T 8).length : Int) ∧ al = ((lisR T q).length : Int) ∧ i = (q : Int) ∧ w = w', _, ⟨0, by omega, rfl, rfl, rfl, rfl, rfl, rfl⟩, ?_⟩
    rintro m t' n al i w' ⟨q, hq, rfl, rfl, rfl, rfl, rfl, rfl⟩
    have hlq := lenL q
    unfold sock_Table_portsFine.L2b
    refine Bm.ite (fun hlt => Pn.mk ⟨⟨by omega, by omega⟩, ht.ldUsed (by omega) ?_⟩) fun hge => ?_
    · have no : ¬ ((T.rows q).used = true ∧ (T.rows q).e.kind = 1) → sock_Table_portsFine.B2 (some ⟨b, 0, none⟩) ((prtR T 8).length : Int) ((lisR T q).length : Int) (q : Int) false w (fun t' n al i w' => ∃ m', m' < 6 - q ∧ ∃ q : Nat, q ≤ 6 ∧ m' = 6 - q ∧ some ⟨b, 0, none⟩ = t' ∧ n = ((prtR T 8).length : Int) ∧ al = ((lisR T q).length : Int) ∧ i = (q : Int) ∧ w = w') R := fun hno => by
        unfold sock_Table_portsFine.B2 sock_Table_portsFine.B3
        refine Bm.neg rfl ⟨6 - (q + 1), by omega, q + 1, by omega, rfl, rfl, rfl, ?_, by rw [w64 (by omega) (by omega)]; omega, rfl⟩
        rw [succL, if_neg hno, List.append_nil]
      refine Bm.mk (fun u => Pn.mk ⟨⟨by omega, by omega⟩, ht.ldKind (by omega) ?_⟩) fun u => no fun z => by rw [u] at z; cases z.1
      by_cases k : (T.rows q).e.kind = 1
      · rw [show ((T.rows q).e.kind == 1) = true by simp [k]]
        unfold sock_Table_portsFine.B2 sock_Table_portsFine.B3
        refine Bm.pos rfl ⟨6 - (q + 1), by omega, q + 1, by omega, rfl, rfl, rfl, ?_, by rw [w64 (by omega) (by omega)]; omega, rfl⟩
        rw [succL, if_pos ⟨u, k⟩, List.length_append, w64 (by omega) (by omega)]
        simp
      · rw [show ((T.rows q).e.kind == 1) = false by simp [k]]
        exact no fun z => k z.2
    · have hq6 : q = 6 := by omega
      subst hq6
      have e1 := prtR_len h hS
      have e2 := lisR_len h
      have e3 := h.lis
      have e4 := hS.ei.lis
      refine Bm.pos (by rw [e1]; simp) (Pn.mk (ht.ldLis (Bm.pos (by rw [e3, e1, e2]; simp) ?_)))
      rw [decide_eq_true (by omega)]
      exact hR
end
end Go.Proofs.Qxb6500427a
