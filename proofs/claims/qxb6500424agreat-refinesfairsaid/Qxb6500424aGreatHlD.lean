/-
  hostlaw: Untouched; the start.
-/
import Derived.Test.Qxb6500424aGreatHlC
set_option linter.unusedVariables false
set_option linter.unusedSimpArgs false
open Go.Vc
namespace Go.Proofs.Qxb6500424aGreat
section
variable {w0 w w' : World} {a : Nat} {m : LH} {r : LR} {k : LC} {n : Int}
theorem klCell {x : KL} {T t : TypeId} {G : Nat → Nat → Array Value → Prop} {j : Nat} {v : Value} (h : Ls w T t G x) (hv : x.vs[j]? = some v) : ∃ kr, x.b = some ⟨kr, 0, none⟩ ∧ w.cell? ⟨kr, j, none⟩ = some v := by
  have hl := h.len
  have hj := (List.getElem?_eq_some_iff.1 hv).1
  obtain ⟨kr, ekr, cs, ho, hc⟩ := h.row.at (i := j) (by omega) (by omega)
  refine ⟨kr, ekr, ho.cell ?_⟩
  have := hc 0 (by omega)
  simp only [Nat.mul_one, Nat.add_zero] at this
  rw [this]
  exact hv
theorem LawAt.kl {x : KL} {o j : Nat} {T t : TypeId} {G : Nat → Nat → Array Value → Prop} {b : Option Addr} {l c : Nat} {Q : Option Addr → Nat → Nat → Prop} (hL : LawAt w0 w a m r k) (ho : o < 50) (hv : lawF m r k o = x.val) (h : Ls w T t G x) (hj : x.vs[j]? = some (.slice b l c)) (hQ : Q b l c) : Pn (some (⟨a, 0, none⟩ : Addr)) fun y => LdL (y.add o) w fun xb xl xc => Pn xb fun a1 => (0 ≤ (j : Int) ∧ (j : Int) < ((xl : Nat) : Int)) ∧ LdL (Addr.add a1 ((j : Int).toNat * 1)) w Q := by
  have hl := h.len
  have hjl := (List.getElem?_eq_some_iff.1 hj).1
  obtain ⟨kr, ekr, hc⟩ := klCell h hj
  refine Pn.mk (hL.ldL (b := x.b) (l := x.n) (cc := x.c) ho hv ?_)
  rw [ekr]
  exact Pn.mk ⟨⟨by omega, by omega⟩, LdL.cell (by rw [addr_i]; exact hc) hQ⟩
theorem untouched_ok {R : Bool → World → Prop} (hL : LawAt w0 w a m r k) (hM : r.M.n ≤ 1152921504606846976) (hI : r.I.n ≤ 1152921504606846976) (hO : r.O.n ≤ 1152921504606846976) (hR : ∀ w', Ext [] w w' → R true w') : hostlaw_World_Untouched.Call (some ⟨a, 0, none⟩) w R := by
  apply hostlaw_World_Untouched.sound
  unfold hostlaw_World_Untouched.B0
  have ml := hL.r.M.len
  have il := hL.r.I.len
  have ol := hL.r.O.len
  have l5 : ∀ {w1 : World}, Ext [] w w1 → hostlaw_World_Untouched.L5 (some ⟨a, 0, none⟩) 0 w1 R := fun {w1} e1 => by
    unfold hostlaw_World_Untouched.L5
    refine ⟨fun mm d' j w' => ∃ n : Nat, n ≤ r.M.n ∧ mm = r.M.n - n ∧ some ⟨a, 0, none⟩ = d' ∧ j = (n : Int) ∧ Ext [] w w', _, ⟨0, by omega, rfl, rfl, rfl, e1⟩, ?_⟩
    rintro mm d' j w' ⟨n, hn, rfl, rfl, rfl, he'⟩
    have h' := hL.ext0 he'
    unfold hostlaw_World_Untouched.L5b
    refine Pn.mk (h'.ldL (b := r.M.b) (l := r.M.n) (cc := r.M.c) (by omega) rfl (Bm.ite (fun hlt => ?_) fun hge => hR w' he'))
    obtain ⟨v, hv⟩ := get_lt (L := r.M.vs) (n := n) (by omega)
    obtain ⟨kk, q, cs, e, hq, ho, hg⟩ := h'.r.M.kep n v hv
    unfold GB at hg
    subst hg
    subst e
    unfold hostlaw_World_Untouched.L6
    refine ⟨fun mm d' j i w2 => ∃ p : Nat, p ≤ q ∧ mm = q - p ∧ some ⟨a, 0, none⟩ = d' ∧ (n : Int) = j ∧ i = (p : Int) ∧ Ext [] w' w2, _, ⟨0, by omega, rfl, rfl, rfl, rfl, Ext.refl _ _⟩, ?_⟩
    rintro mm d' j i w2 ⟨p, hp, rfl, rfl, rfl, rfl, he2⟩
    have hx2 := he'.trans he2
    have h2 := hL.ext0 hx2
    have h2d := h2.drew
    unfold hostlaw_World_Untouched.L6b
    refine h2.kl (x := r.M) (by omega) rfl h2.r.M hv (Bm.ite (fun hlt2 => ?_) fun hge2 => ?_)
    · obtain ⟨kr, ekr, hcell⟩ := klCell h2d.r.M hv
      refine Pn.mk (h2d.ldL (b := r.M.b) (l := r.M.n) (cc := r.M.c) (by omega) rfl ?_)
      rw [ekr]
      have hpq : p < q := by omega
      have hc8 : w2.drew.cell? ⟨kk, p, none⟩ = some (.int .u8 (stampV n p)) := ((he2.trans (Ext.drew [] _)).own ho (by simp)).cell (by rw [fnArr_get _ hpq])
      refine Pn.mk ⟨⟨by omega, by omega⟩, LdL.cell (by rw [addr_i]; exact hcell) (Pn.mk ⟨⟨by omega, by omega⟩, LdI.cell (n := stampV n p) (by rw [addr_i]; exact hc8) ?_⟩)⟩
      refine stamp_ok (by omega) ⟨by rw [addr_i]; exact hc8, by rw [addr_i]; exact hcell, ?_, Bm.neg (by simp) ⟨q - (p + 1), by omega, p + 1, by omega, rfl, rfl, rfl, by rw [w64 (by omega) (by omega)]; omega, he2.trans (Ext.drew _ _)⟩⟩
      rw [addA, ← ekr]
      exact h2d.own.cell (by rw [fnArr_get _ (by omega)]; rfl)
    · exact ⟨r.M.n - (n + 1), by omega, n + 1, by omega, rfl, rfl, by rw [w64 (by omega) (by omega)]; omega, hx2⟩
  have l3 : ∀ {w1 : World}, Ext [] w w1 → hostlaw_World_Untouched.L3 (some ⟨a, 0, none⟩) 0 w1 R := fun {w1} e1 => by
    have h1 := hL.ext0 e1
    unfold hostlaw_World_Untouched.L3
    refine ⟨fun mm d' j w' => ∃ n : Nat, n ≤ r.I.n ∧ mm = r.I.n - n ∧ some ⟨a, 0, none⟩ = d' ∧ j = (n : Int) ∧ w1 = w', _, ⟨0, by omega, rfl, rfl, rfl, rfl⟩, ?_⟩
    rintro mm d' j w' ⟨n, hn, rfl, rfl, rfl, rfl⟩
    unfold hostlaw_World_Untouched.L3b
    refine Pn.mk (h1.ldL (b := r.I.b) (l := r.I.n) (cc := r.I.c) (by omega) rfl (Bm.ite (fun hlt => ?_) fun hge => l5 e1))
    obtain ⟨v, hv⟩ := get_lt (L := r.I.vs) (n := n) (by omega)
    obtain ⟨kk, q, cs, e, hq, ho, hg⟩ := h1.r.I.kep n v hv
    unfold GI at hg
    subst hg
    subst e
    have hi : Sk.IAt w1 kk (List.replicate q (-1 - (n : Int))) := ho
    unfold hostlaw_World_Untouched.L4
    refine ⟨fun mm d' j i w' => ∃ p : Nat, p ≤ q ∧ mm = q - p ∧ some ⟨a, 0, none⟩ = d' ∧ (n : Int) = j ∧ i = (p : Int) ∧ w1 = w', _, ⟨0, by omega, rfl, rfl, rfl, rfl, rfl⟩, ?_⟩
    rintro mm d' j i w' ⟨p, hp, rfl, rfl, rfl, rfl, rfl⟩
    unfold hostlaw_World_Untouched.L4b
    refine h1.kl (x := r.I) (by omega) rfl h1.r.I hv (Bm.ite (fun hlt2 => h1.kl (x := r.I) (by omega) rfl h1.r.I hv (Pn.mk ⟨⟨by omega, by omega⟩, hi.ld (addr_i kk p) (x := -1 - (n : Int)) ?_ ?_⟩)) fun hge2 => ?_)
    · rw [List.getElem?_replicate, if_pos (by omega)]
    · rw [w64 (by omega) (by omega)]
      exact Bm.neg (by simp) ⟨q - (p + 1), by omega, p + 1, by omega, rfl, rfl, rfl, by rw [w64 (by omega) (by omega)]; omega, rfl⟩
    · exact ⟨r.I.n - (n + 1), by omega, n + 1, by omega, rfl, rfl, by rw [w64 (by omega) (by omega)]; omega, rfl⟩
  unfold hostlaw_World_Untouched.L1
  refine ⟨fun mm d' j w' => ∃ n : Nat, n ≤ r.O.n ∧ mm = r.O.n - n ∧ some ⟨a, 0, none⟩ = d' ∧ j = (n : Int) ∧ Ext [] w w', _, ⟨0, by omega, rfl, rfl, rfl, Ext.refl _ _⟩, ?_⟩
  rintro mm d' j w' ⟨n, hn, rfl, rfl, rfl, he'⟩
  unfold hostlaw_World_Untouched.L1b
  have h' := hL.ext0 he'
  refine Pn.mk (h'.ldL (b := r.O.b) (l := r.O.n) (cc := r.O.c) (by omega) rfl (Bm.ite (fun hlt => ?_) fun hge => l3 he'))
  obtain ⟨v, hv⟩ := get_lt (L := r.O.vs) (n := n) (by omega)
  obtain ⟨kk, q, cs, e, hq, ho, hg⟩ := h'.r.O.kep n v hv
  subst e
  have htl : r.tok.length = r.O.n := h'.r.tl
  obtain ⟨tb, htb⟩ := get_lt (L := r.tok) (n := n) (by omega)
  have etb : r.tok.getD n 0 = tb := by rw [List.getD_eq_getElem?_getD, htb]; rfl
  refine token_ok (by omega) fun tk w1 htk hft e1 => ?_
  have E1 := he'.trans e1
  unfold hostlaw_World_Untouched.L2
  refine ⟨fun mm d' j tb' tl' tc' i w2 => ∃ p : Nat, p ≤ q ∧ mm = q - p ∧ some ⟨a, 0, none⟩ = d' ∧ (n : Int) = j ∧ some ⟨tk, 0, none⟩ = tb' ∧ 4 = tl' ∧ 4 = tc' ∧ i = (p : Int) ∧ Ext [] w1 w2, _, ⟨0, by omega, rfl, rfl, rfl, rfl, rfl, rfl, rfl, Ext.refl _ _⟩, ?_⟩
  rintro mm d' j tb' tl' tc' i w2 ⟨p, hp, rfl, rfl, rfl, rfl, rfl, rfl, rfl, e2⟩
  have E2 := E1.trans e2
  have h2 := hL.ext0 E2
  unfold hostlaw_World_Untouched.L2b
  refine h2.kl (x := r.O) (by omega) rfl h2.r.O hv (Bm.ite (fun hlt2 => h2.kl (x := r.O) (by omega) rfl h2.r.O hv (Pn.mk ⟨⟨by omega, by omega⟩, ?_⟩)) fun hge2 => ?_)
  · rw [addr_i]
    have ho2 := (e1.trans e2).own ho (by simp)
    refine LdL.mk ho2 (hg p (by omega)) ?_
    rw [etb]
    have hb2 := h2.r.tok n tb htb
    refine sameBytes_ok (u := tokV n) (v := tokV n) hb2.rd0 (hft.ext0 e2).rd0 rfl rfl (by omega) fun w3 e3 _ => ?_
    rw [decide_eq_true rfl]
    exact Bm.neg rfl ⟨q - (p + 1), by omega, p + 1, by omega, rfl, rfl, rfl, rfl, rfl, rfl, by rw [w64 (by omega) (by omega)]; omega, e2.trans e3⟩
  · exact ⟨r.O.n - (n + 1), by omega, n + 1, by omega, rfl, rfl, by rw [w64 (by omega) (by omega)]; omega, E2⟩
end
/-! ### the start -/
theorem sys00 : Sys 0 (fun c => (H00 c).t) [] (fun _ => C0) [] := by
  refine ⟨Int.le_refl _, ⟨⟨fun i g h => (by cases h), fun i g h => (by cases h), fun i g h => (by cases h), fun i g h => (by cases h), fun i g h => (by cases h), fun i k x y _ h => (by cases h), fun i g h => (by cases h)⟩, fun i g h => (by cases h), fun i g h => (by cases h), fun e he => (by cases he)⟩, fun c hc => ?_, fun i g h => (by cases h)⟩
  exact ⟨Sk.S0_ok, fun a ha => (by cases ha), fun i g h => (by cases h), fun i k g g' h => (by cases h), fun i g h => (by cases h), fun s hs _ => rfl, fun a ha => (by cases ha)⟩
theorem pw00 : PW 0 H00 [] [] (fun _ => C0) [] (fun _ => []) := by
  refine ⟨sys00, fun c hc => ?_, fun c hc r hr => (by cases hr), fun f hf => (by cases hf)⟩
  exact ⟨hc, rfl, rfl, rfl, ⟨by show (0 : Int) ≤ 24; omega, by show (24 : Int) ≤ 24; omega⟩, ⟨0, rfl, fun n g h => (by cases h)⟩, fun n m g g' h => (by cases h), fun g hg => (by cases hg)⟩
theorem hs00 (c : Nat) (hc : c < 3) : HsOk 0 (H00 c) := by
  have ha : Fm.lowByte ((c : Int) + 1) = (c : Int) + 1 := by rcases (show c = 0 ∨ c = 1 ∨ c = 2 by omega) with rfl | rfl | rfl <;> decide
  exact ⟨⟨by show 1 ≤ (c : Int) + 1; omega, by show (c : Int) + 1 ≤ 3; omega⟩, ha, Fm.freshLink_wf _, ⟨Int.le_refl _, by show (0 : Int) < 256; omega⟩, ⟨by show (0 : Int) ≤ 24; omega, by show (24 : Int) ≤ 24; omega⟩, Sk.S0_ok, fun s hs => C0_ok, ⟨Int.le_refl _, Int.le_refl _⟩, ⟨Int.le_refl _, Int.le_refl _⟩, fun j hj => ⟨Int.le_refl _, Int.le_refl _⟩, by show (1 : Int) ≤ 0 + 1; omega⟩
theorem good00 (BH BQ : Nat → HB) (qu : Bool) (wp np : Nat) : Good 0 (m00 BH BQ qu) (r00 wp np) k00 := by
  refine ⟨⟨[], fun _ => C0, [], fun _ => [], pw00, ⟨rfl, fun i E g h => (by cases h)⟩, ⟨Int.le_refl _, fun i g h => (by cases h)⟩⟩, ⟨hs00, fun c hc s => (by show (0 : Int) ≠ 16; decide)⟩, fun _ c hc => rfl, fun c hc => rfl, fun c hc => (by show (0 : Int) < 1; omega), fun c hc => rfl, fun c hc => rfl, rfl, fun c hc => ⟨fun x hx => (by cases hx), fun x hx => (by cases hx), List.Pairwise.nil⟩, fun x hx => (by cases hx), ?_⟩
  exact ⟨Int.le_refl _, Int.le_refl _, Int.le_refl _, Int.le_refl _, ⟨Int.le_refl _, Int.le_refl _⟩, ⟨Int.le_refl _, Int.le_refl _⟩, fun c hc => ⟨Int.le_refl _, Int.le_refl _⟩, fun e he => (by cases he)⟩
end Go.Proofs.Qxb6500424aGreat
