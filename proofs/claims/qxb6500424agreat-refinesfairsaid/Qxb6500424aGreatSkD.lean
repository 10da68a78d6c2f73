/-
  sock: the real table and the plain rows tied together; the plain steps.
-/
import Derived.Test.Qxb6500424aGreatSkC
set_option linter.unusedVariables false
open Go.Vc
namespace Go.Proofs.Qxb6500424aGreat.Sk

def lvr (r : Row) : List Ent := if r.used then [r.e] else []
def Lri (T : Tbl) (n : Nat) : List Ent := (List.range n).flatMap fun i => lvr (T.rows i)
def Lr (T : Tbl) : List Ent := Lri T 6
theorem mem_Lr {T : Tbl} {e : Ent} : e ∈ Lr T ↔ ∃ i, i < 6 ∧ (T.rows i).used = true ∧ (T.rows i).e = e := by
  unfold Lr Lri
  rw [List.mem_flatMap]
  constructor
  · rintro ⟨i, hi, he⟩
    unfold lvr at he
    split at he
    · rename_i hu
      exact ⟨i, List.mem_range.1 hi, hu, (List.mem_singleton.1 he).symm⟩
    · cases he
  · rintro ⟨i, hi, hu, rfl⟩
    exact ⟨i, List.mem_range.2 hi, by unfold lvr; rw [if_pos hu]; simp⟩
theorem Lr_upd {T T' : Tbl} {i : Nat} (hi : i < 6) (h : ∀ j, j ≠ i → T'.rows j = T.rows j) : (lvr (T.rows i) ++ Lr T').Perm (lvr (T'.rows i) ++ Lr T) :=
  flat_upd (f := fun j => lvr (T.rows j)) (g := fun j => lvr (T'.rows j)) (fun j hj => by rw [h j hj]) (List.range 6) List.nodup_range (List.mem_range.2 hi)
theorem Lr_congr {T T' : Tbl} (h : ∀ i, i < 6 → (T'.rows i).used = (T.rows i).used ∧ (T'.rows i).e = (T.rows i).e) : Lr T' = Lr T := by
  unfold Lr Lri
  refine flat_congr' fun i hi => ?_
  have := h i (List.mem_range.1 hi)
  unfold lvr
  rw [this.1, this.2]
structure RS (T : Tbl) (F : List Nat) (C : Nat → List Nat) (occ : Nat → Bool) : Prop where
  fr : Lk (nx T) T.free F
  fnd : F.Nodup
  fmem : ∀ i, i ∈ F ↔ i < 6 ∧ (T.rows i).used = false
  ch : ∀ b, b < 4 → Lk (nx T) (T.bkt b) (C b)
  cnd : ∀ b, b < 4 → (C b).Nodup
  cmem : ∀ b, b < 4 → ∀ i, i ∈ C b ↔ i < 6 ∧ (T.rows i).used = true ∧ (T.rows i).e.kind = 2 ∧ hE (T.rows i).e = b
  p0 : T.port 0 = -1
  prt : ∀ p, 1 ≤ p → p < 8 → (T.port p = -1 ∧ ∀ i, i < 6 → (T.rows i).used = true → (T.rows i).e.kind = 1 → (T.rows i).e.lp ≠ (p : Int)) ∨ ∃ i, i < 6 ∧ (T.rows i).used = true ∧ (T.rows i).e.kind = 1 ∧ (T.rows i).e.lp = (p : Int) ∧ T.port p = (i : Int)
  blk : T.blk = blkOf occ
  occ : ∀ s, s < 4 → (occ s = true ↔ ∃ i, i < 6 ∧ (T.rows i).used = true ∧ (T.rows i).e.kind = 2 ∧ (T.rows i).e.slot = (s : Int))
/-- Rows alike in all that the structures look at. -/
structure SameR (r r' : Row) : Prop where
  used : r'.used = r.used
  next : r'.next = r.next
  kind : r'.e.kind = r.e.kind
  lp : r'.e.lp = r.e.lp
  rh : r'.e.rh = r.e.rh
  rp : r'.e.rp = r.e.rp
  slot : r'.e.slot = r.e.slot
theorem RS.congr {T T' : Tbl} {F : List Nat} {C : Nat → List Nat} {occ : Nat → Bool} (h : RS T F C occ) (hr : ∀ i, i < 6 → SameR (T.rows i) (T'.rows i)) (h1 : T'.free = T.free) (h2 : T'.bkt = T.bkt) (h3 : T'.port = T.port) (h4 : T'.blk = T.blk) : RS T' F C occ := by
  have hh : ∀ i, i < 6 → hE (T'.rows i).e = hE (T.rows i).e := fun i hi => by
    unfold hE
    rw [(hr i hi).lp, (hr i hi).rh, (hr i hi).rp]
  refine ⟨?_, h.fnd, fun i => ?_, fun b hb => ?_, h.cnd, fun b hb i => ?_, by rw [h3]; exact h.p0, fun p p1 p2 => ?_, by rw [h4]; exact h.blk, fun s hs => ?_⟩
  · rw [h1]
    exact Lk.congr (fun i hi => ((hr i ((h.fmem i).1 hi).1).next).symm) h.fr
  · rw [h.fmem]
    constructor
    · rintro ⟨a, b⟩; exact ⟨a, by rw [(hr i a).used]; exact b⟩
    · rintro ⟨a, b⟩; exact ⟨a, by rw [← (hr i a).used]; exact b⟩
  · rw [h2]
    exact Lk.congr (fun i hi => ((hr i ((h.cmem b hb i).1 hi).1).next).symm) (h.ch b hb)
  · rw [h.cmem b hb]
    constructor
    · rintro ⟨a, u, k, q⟩; exact ⟨a, by rw [(hr i a).used]; exact u, by rw [(hr i a).kind]; exact k, by rw [hh i a]; exact q⟩
    · rintro ⟨a, u, k, q⟩; exact ⟨a, by rw [← (hr i a).used]; exact u, by rw [← (hr i a).kind]; exact k, by rw [← hh i a]; exact q⟩
  · rw [h3]
    rcases h.prt p p1 p2 with ⟨q1, q2⟩ | ⟨i, hi, q1, q2, q3, q4⟩
    · exact .inl ⟨q1, fun i hi u k => by rw [(hr i hi).lp]; exact q2 i hi (by rw [← (hr i hi).used]; exact u) (by rw [← (hr i hi).kind]; exact k)⟩
    · exact .inr ⟨i, hi, by rw [(hr i hi).used]; exact q1, by rw [(hr i hi).kind]; exact q2, by rw [(hr i hi).lp]; exact q3, q4⟩
  · rw [h.occ s hs]
    constructor
    · rintro ⟨i, a, u, k, q⟩; exact ⟨i, a, by rw [(hr i a).used]; exact u, by rw [(hr i a).kind]; exact k, by rw [(hr i a).slot]; exact q⟩
    · rintro ⟨i, a, u, k, q⟩; exact ⟨i, a, by rw [← (hr i a).used]; exact u, by rw [← (hr i a).kind]; exact k, by rw [← (hr i a).slot]; exact q⟩
def RingOk (r : Row) (E : List AE) : Prop := r.next = -1 ∧ r.kids = ((E.filter (kidOf r.e.sd)).length : Int) ∧ ∃ (hd : Nat) (L : List AE), hd < 2 ∧ r.head = (hd : Int) ∧ Asc (fun a : AE => a.2) L ∧ L.Perm (E.filter (rdyOf r.e.sd)) ∧ r.n = (L.length : Int) ∧ ∀ (k : Nat) (a : AE), L[k]? = some a → rg r ((hd + k) % 2) = a.1.sd
theorem RingOk.perm {r : Row} {E E' : List AE} (h : RingOk r E) (h1 : (E'.filter (kidOf r.e.sd)).length = (E.filter (kidOf r.e.sd)).length) (h2 : (E.filter (rdyOf r.e.sd)).Perm (E'.filter (rdyOf r.e.sd))) : RingOk r E' := by
  obtain ⟨a, b, hd, L, q1, q2, q3, q4, q5⟩ := h
  exact ⟨a, by rw [h1]; exact b, hd, L, q1, q2, q3, q4.trans h2, q5⟩
structure SkS where
  E : List AE
  nsd : Int
  eph : Int
  tick : Nat
structure SkOk (S : SkS) : Prop where
  asc : Asc (fun a : AE => a.1.sd.toNat) S.E
  ei : EI S.E S.nsd S.tick
  nsd : 1 ≤ S.nsd
  eph : 8 ≤ S.eph ∧ S.eph ≤ 15
structure Rel (T : Tbl) (S : SkS) (F : List Nat) (C : Nat → List Nat) (occ : Nat → Bool) : Prop where
  perm : (Lr T).Perm (S.E.map (·.1))
  rs : RS T F C occ
  ring : ∀ i, i < 6 → (T.rows i).used = true → (T.rows i).e.kind = 1 → RingOk (T.rows i) S.E
  lis : T.lis = ((S.E.filter isL).length : Int)
  nsd : T.nsd = S.nsd
  eph : T.eph = S.eph
section
variable {T : Tbl} {S : SkS} {F : List Nat} {C : Nat → List Nat} {occ : Nat → Bool}
theorem Rel.toE (h : Rel T S F C occ) {i : Nat} (hi : i < 6) (hu : (T.rows i).used = true) : ∃ a ∈ S.E, a.1 = (T.rows i).e := by
  have := h.perm.subset (mem_Lr.2 ⟨i, hi, hu, rfl⟩)
  rw [List.mem_map] at this
  obtain ⟨a, ha, e⟩ := this
  exact ⟨a, ha, e⟩
theorem Rel.toT (h : Rel T S F C occ) {a : AE} (ha : a ∈ S.E) : ∃ i, i < 6 ∧ (T.rows i).used = true ∧ (T.rows i).e = a.1 :=
  mem_Lr.1 (h.perm.symm.subset (List.mem_map.2 ⟨a, ha, rfl⟩))
theorem Rel.ok (h : Rel T S F C occ) (hS : SkOk S) {i : Nat} (hi : i < 6) (hu : (T.rows i).used = true) : EntOk (T.rows i).e := by
  obtain ⟨a, ha, e⟩ := h.toE hi hu
  rw [← e]
  exact hS.ei.ok a ha
theorem Rel.uniq (h : Rel T S F C occ) (hS : SkOk S) : ∀ i j, i < 6 → j < 6 → (T.rows i).used = true → (T.rows j).used = true → (T.rows i).e.sd = (T.rows j).e.sd → i = j := by
  intro i j hi hj hu hu' he
  apply Classical.byContradiction
  intro hne
  -- row i wiped
  have hp := Lr_upd (T := T) (T' := updR T i { T.rows i with used := false }) hi (fun q hq => updR_ne hq)
  rw [updR_eq] at hp
  have e1 : lvr (T.rows i) = [(T.rows i).e] := by unfold lvr; rw [if_pos hu]
  have e2 : lvr { T.rows i with used := false } = [] := rfl
  rw [e1, e2, List.nil_append] at hp
  have hmem : (T.rows j).e ∈ Lr (updR T i { T.rows i with used := false }) := mem_Lr.2 ⟨j, hj, by rw [updR_ne (fun e => hne e.symm)]; exact hu', by rw [updR_ne (fun e => hne e.symm)]⟩
  have hnd : (S.E.map (·.1)).Pairwise (fun a b : Ent => a.sd ≠ b.sd) := by
    rw [List.pairwise_map]
    exact hS.ei.nd
  have hnd2 := (hp.trans h.perm).symm.pairwise hnd (fun hab e => hab e.symm)
  exact (List.pairwise_cons.1 hnd2).1 _ hmem he
theorem Rel.find (h : Rel T S F C occ) (hS : SkOk S) {w : World} {b : Nat} {sd : Int} {R : Int → World → Prop} (ht : TAt w b T)
    (hR : (∀ i a, i < 6 → (T.rows i).used = true → a ∈ S.E → a.1 = (T.rows i).e → a.1.sd = sd → R (i : Int) w) ∧ ((∀ a ∈ S.E, a.1.sd ≠ sd) → R (-1) w)) : sock_Table_find.Call (some ⟨b, 0, none⟩) sd w R := by
  refine find_ok ht (h.uniq hS) ⟨fun i hi hu he => ?_, fun hn => hR.2 fun a ha e => ?_⟩
  · obtain ⟨a, ha, ea⟩ := h.toE hi hu
    exact hR.1 i a hi hu ha ea (by rw [ea]; exact he)
  · obtain ⟨i, hi, hu, ei⟩ := h.toT ha
    exact hn i hi hu (by rw [ei]; exact e)
/-- How many rows. -/
theorem Lri_le (T : Tbl) : ∀ n, (Lri T n).length ≤ n
  | 0 => by simp [Lri]
  | n + 1 => by
    have := Lri_le T n
    unfold Lri at this ⊢
    rw [List.range_succ, List.flatMap_append, List.length_append]
    have : (List.flatMap (fun i => lvr (T.rows i)) [n]).length ≤ 1 := by
      simp only [List.flatMap_cons, List.flatMap_nil, List.append_nil, lvr]
      split <;> simp
    omega
theorem Lri_full {T : Tbl} : ∀ n, (∀ i, i < n → (T.rows i).used = true) → (Lri T n).length = n
  | 0, _ => rfl
  | n + 1, h => by
    have ih := Lri_full n fun i hi => h i (by omega)
    unfold Lri at ih ⊢
    rw [List.range_succ, List.flatMap_append, List.length_append, ih]
    simp [lvr, h n (by omega)]
end
/-! ### the plain steps -/
def occE (E : List AE) (s : Nat) : Bool := E.any fun a => decide (a.1.kind = 2) && decide (a.1.slot = (s : Int))
theorem occE_iff {E : List AE} {s : Nat} : occE E s = true ↔ ∃ a ∈ E, a.1.kind = 2 ∧ a.1.slot = (s : Int) := by
  unfold occE
  rw [List.any_eq_true]
  simp
def lowE (E : List AE) : Int := lowF (occE E)
def lookP (lp rh rp : Int) (a : AE) : Bool := decide (a.1.kind = 2) && decide (a.1.lp = lp) && decide (a.1.rh = rh) && decide (a.1.rp = rp)
def lookE (E : List AE) (lp rh rp : Int) : Int := ((E.find? (lookP lp rh rp)).map (·.1.sd)).getD 0
def lisP (p : Int) (a : AE) : Bool := decide (a.1.kind = 1) && decide (a.1.lp = p)
def lisE (E : List AE) (p : Int) : Int := ((E.find? (lisP p)).map (·.1.sd)).getD 0
theorem lookP_iff {lp rh rp : Int} {a : AE} : lookP lp rh rp a = true ↔ a.1.kind = 2 ∧ a.1.lp = lp ∧ a.1.rh = rh ∧ a.1.rp = rp := by
  unfold lookP; simp [and_assoc]
theorem lisP_iff {p : Int} {a : AE} : lisP p a = true ↔ a.1.kind = 1 ∧ a.1.lp = p := by
  unfold lisP; simp
theorem lookE_some {E : List AE} {nsd : Int} {t : Nat} (h : EI E nsd t) {a : AE} (ha : a ∈ E) {lp rh rp : Int} (hp : lookP lp rh rp a = true) : lookE E lp rh rp = a.1.sd := by
  unfold lookE
  cases hf : E.find? (lookP lp rh rp) with
  | none => exact absurd hp (by simpa using List.find?_eq_none.1 hf a ha)
  | some c =>
    have h1 := lookP_iff.1 (List.find?_some hf)
    have h2 := List.mem_of_find?_eq_some hf
    have h3 := lookP_iff.1 hp
    exact h.tup c h2 a ha h1.1 h3.1 (by rw [h1.2.1, h3.2.1]) (by rw [h1.2.2.1, h3.2.2.1]) (by rw [h1.2.2.2, h3.2.2.2])
theorem lookE_none {E : List AE} {lp rh rp : Int} (h : ∀ a ∈ E, ¬ lookP lp rh rp a = true) : lookE E lp rh rp = 0 := by
  unfold lookE
  rw [List.find?_eq_none.2 h]
  rfl
theorem lookE_zero {E : List AE} {nsd : Int} {t : Nat} (h : EI E nsd t) {lp rh rp : Int} (h0 : lookE E lp rh rp = 0) : ∀ a ∈ E, ¬ lookP lp rh rp a = true := fun a ha hp => by
  rw [lookE_some h ha hp] at h0
  have := h.sd a ha
  omega
theorem lisE_some {E : List AE} {nsd : Int} {t : Nat} (h : EI E nsd t) {a : AE} (ha : a ∈ E) {p : Int} (hp : lisP p a = true) : lisE E p = a.1.sd := by
  unfold lisE
  cases hf : E.find? (lisP p) with
  | none => exact absurd hp (by simpa using List.find?_eq_none.1 hf a ha)
  | some c =>
    have h1 := lisP_iff.1 (List.find?_some hf)
    have h2 := List.mem_of_find?_eq_some hf
    have h3 := lisP_iff.1 hp
    exact h.prt c h2 a ha h1.1 h3.1 (by rw [h1.2, h3.2])
theorem lisE_none {E : List AE} {p : Int} (h : ∀ a ∈ E, ¬ lisP p a = true) : lisE E p = 0 := by
  unfold lisE
  rw [List.find?_eq_none.2 h]
  rfl
theorem lisE_ne {E : List AE} {p : Int} (h : lisE E p ≠ 0) : ∃ a ∈ E, lisP p a = true ∧ a.1.sd = lisE E p := by
  unfold lisE at h ⊢
  cases hf : E.find? (lisP p) with
  | none => rw [hf] at h; exact absurd rfl h
  | some c => exact ⟨c, List.mem_of_find?_eq_some hf, List.find?_some hf, rfl⟩
theorem lisE_zero {E : List AE} {nsd : Int} {t : Nat} (h : EI E nsd t) {p : Int} (h0 : lisE E p = 0) : ∀ a ∈ E, ¬ lisP p a = true := fun a ha hp => by
  rw [lisE_some h ha hp] at h0
  have := h.sd a ha
  omega
def qE (E : List AE) (l : Int) : List AE := (E.filter (rdyOf l)).foldr (insK fun a : AE => a.2) []
theorem foldr_insK {κ : AE → Nat} : ∀ {L : List AE}, (L.Pairwise fun a b => κ a ≠ κ b) → Asc κ (L.foldr (insK κ) []) ∧ (L.foldr (insK κ) []).Perm L
  | [], _ => ⟨List.Pairwise.nil, List.Perm.refl _⟩
  | a :: L, h => by
    have h' := List.pairwise_cons.1 h
    obtain ⟨h1, h2⟩ := foldr_insK h'.2
    rw [List.foldr_cons]
    exact ⟨insK_asc h1 fun x hx e => h'.1 x (h2.subset hx) e.symm, (insK_perm a _).trans (h2.cons a)⟩
theorem rdyOf_iff {l : Int} {a : AE} : rdyOf l a = true ↔ a.1.par = l ∧ a.1.rdy = true := by
  unfold rdyOf; simp
theorem qE_spec {E : List AE} {nsd : Int} {t : Nat} (h : EI E nsd t) (l : Int) : Asc (fun a : AE => a.2) (qE E l) ∧ (qE E l).Perm (E.filter (rdyOf l)) := by
  refine foldr_insK ?_
  have hp : (E.filter (rdyOf l)).Pairwise fun a b => a.1.sd ≠ b.1.sd := List.Pairwise.filter _ h.nd
  refine List.Pairwise.imp_of_mem (fun {a b} ha hb hab e => hab ?_) hp
  have ha' := List.mem_filter.1 ha
  have hb' := List.mem_filter.1 hb
  have r1 := rdyOf_iff.1 ha'.2
  have r2 := rdyOf_iff.1 hb'.2
  exact h.stm a ha'.1 b hb'.1 r1.2 r2.2 (by rw [r1.1, r2.1]) e
theorem qE_uniq {E : List AE} {nsd : Int} {t : Nat} (h : EI E nsd t) {l : Int} {L : List AE} (h1 : Asc (fun a : AE => a.2) L) (h2 : L.Perm (E.filter (rdyOf l))) : L = qE E l :=
  asc_unique h1 (qE_spec h l).1 (h2.trans (qE_spec h l).2.symm)
theorem qE_nil {E : List AE} {nsd : Int} {t : Nat} (h : EI E nsd t) {l : Int} (hl : ∀ a ∈ E, a.1.kind = 1 → a.1.sd ≠ l) : qE E l = [] := by
  have : E.filter (rdyOf l) = [] := by
    rw [List.filter_eq_nil_iff]
    intro a ha hr
    have r := rdyOf_iff.1 hr
    by_cases h0 : a.1.par = 0
    · rcases h.ok a ha with q | q
      · rw [q.2.2.2.2.2.2.2] at r; cases r.2
      · rw [q.2.2.2.2.2.2.2.2.2 h0] at r; cases r.2
    · obtain ⟨q, hq, k1, k2, _⟩ := h.par a ha h0
      exact hl q hq k1 (by rw [k2, r.1])
  unfold qE
  rw [this]
  rfl
def addS (S : SkS) (e : Ent) : SkS := { S with E := S.E ++ [({ e with sd := S.nsd }, 0)], nsd := S.nsd + 1 }
def listenA (p : Int) (S : SkS) : (Int × Int) × SkS := if p < 1 ∨ 8 ≤ p then ((0, 22), S) else if lisE S.E p ≠ 0 then ((0, 23), S) else if (S.E.filter isL).length = 2 then ((0, 11), S) else ((S.nsd, 0), addS S ⟨0, 1, p, 0, 0, -1, 0, false⟩)
def pickE (E : List AE) (rh rp : Int) : Nat → Int → Int
  | 0, p => p
  | n + 1, p => if lookE E p rh rp = 0 then p else pickE E rh rp n (nextP p)
def connectA (rh rp : Int) (S : SkS) : (Int × Int) × SkS := if rh < 1 ∨ 255 < rh then ((0, 5), S) else if rp < 1 ∨ 15 < rp then ((0, 22), S) else if lowE S.E = -1 then ((0, 11), S) else
  ((S.nsd, 0), { addS S ⟨0, 2, pickE S.E rh rp 4 S.eph, rh, rp, lowE S.E, 0, false⟩ with eph := nextP (pickE S.E rh rp 4 S.eph) })
def childA (lp rh rp : Int) (S : SkS) : (Int × Int) × SkS := if lisE S.E lp = 0 then ((0, 21), S) else if rh < 1 ∨ 255 < rh then ((0, 5), S) else if rp < 1 ∨ 15 < rp then ((0, 22), S) else if lookE S.E lp rh rp ≠ 0 then ((0, 23), S) else
  if 2 ≤ (S.E.filter (kidOf (lisE S.E lp))).length ∨ lowE S.E = -1 then ((0, 11), S) else ((S.nsd, 0), addS S ⟨0, 2, lp, rh, rp, lowE S.E, lisE S.E lp, false⟩)
def getE (E : List AE) (sd : Int) : Option AE := E.find? fun a => decide (a.1.sd = sd)
def turnE (sd : Int) (g : AE → AE) (E : List AE) : List AE := E.map fun a => if a.1.sd = sd then g a else a
def delE (sd : Int) (E : List AE) : List AE := E.filter fun a => !decide (a.1.sd = sd)
def rdyG (t : Nat) (a : AE) : AE := ({ a.1 with rdy := true }, t)
def accG (a : AE) : AE := ({ a.1 with par := 0, rdy := false }, a.2)
def readyA (sd : Int) (S : SkS) : Int × SkS := match getE S.E sd with
  | none => (21, S)
  | some a => if a.1.par = 0 then (21, S) else if a.1.rdy then (13, S) else (0, { S with E := turnE sd (rdyG (S.tick + 1)) S.E, tick := S.tick + 1 })
def acceptA (l : Int) (S : SkS) : (Int × Int) × SkS := match getE S.E l with
  | none => ((0, 21), S)
  | some a => if a.1.kind ≠ 1 then ((0, 21), S) else match qE S.E l with
    | [] => ((0, 14), S)
    | q :: _ => ((q.1.sd, 0), { S with E := turnE q.1.sd accG S.E })
def freeA (sd : Int) (S : SkS) : Int × SkS := match getE S.E sd with
  | none => (21, S)
  | some a => (0, { S with E := (delE sd S.E).map (orp sd) })
theorem getE_some {E : List AE} {nsd : Int} {t : Nat} (h : EI E nsd t) {a : AE} (ha : a ∈ E) : getE E a.1.sd = some a := by
  unfold getE
  cases hf : E.find? fun c => decide (c.1.sd = a.1.sd) with
  | none =>
    have := List.find?_eq_none.1 hf a ha
    simp at this
  | some c =>
    have h1 := List.find?_some hf
    simp only [decide_eq_true_eq] at h1
    rw [h.uniq (List.mem_of_find?_eq_some hf) ha h1]
theorem getE_none {E : List AE} {sd : Int} (h : ∀ a ∈ E, a.1.sd ≠ sd) : getE E sd = none := by
  unfold getE
  rw [List.find?_eq_none]
  intro a ha
  simp [h a ha]
theorem split_E {E : List AE} {nsd : Int} {t : Nat} (h : EI E nsd t) {a : AE} (ha : a ∈ E) : ∃ s u, E = s ++ a :: u ∧ ∀ x, x ∈ s ∨ x ∈ u → x.1.sd ≠ a.1.sd := by
  obtain ⟨s, u, e⟩ := List.append_of_mem ha
  refine ⟨s, u, e, fun x hx => ?_⟩
  have hn := h.nd
  rw [e] at hn
  rcases hx with hx | hx
  · exact (List.pairwise_append.1 hn).2.2 x hx a (List.mem_cons_self ..)
  · exact fun q => (List.pairwise_cons.1 (List.pairwise_append.1 hn).2.1).1 x hx q.symm
theorem turn_same {sd : Int} {g : AE → AE} : ∀ {s : List AE}, (∀ x ∈ s, x.1.sd ≠ sd) → turnE sd g s = s
  | [], _ => rfl
  | a :: s, h => by
    have ih := turn_same (g := g) (s := s) fun x hx => h x (List.mem_cons_of_mem _ hx)
    unfold turnE at ih ⊢
    rw [List.map_cons, if_neg (h a (List.mem_cons_self ..)), ih]
theorem del_same {sd : Int} : ∀ {s : List AE}, (∀ x ∈ s, x.1.sd ≠ sd) → delE sd s = s
  | [], _ => rfl
  | a :: s, h => by
    have ih := del_same (s := s) fun x hx => h x (List.mem_cons_of_mem _ hx)
    unfold delE at ih ⊢
    rw [List.filter_cons_of_pos (by simp [h a (List.mem_cons_self ..)]), ih]
theorem turn_perm {E : List AE} {nsd : Int} {t : Nat} (h : EI E nsd t) {a : AE} (ha : a ∈ E) (g : AE → AE) : E.Perm (a :: delE a.1.sd E) ∧ (turnE a.1.sd g E).Perm (g a :: delE a.1.sd E) := by
  obtain ⟨s, u, e, hx⟩ := split_E h ha
  have hd : delE a.1.sd E = s ++ u := by
    have h1 := del_same (sd := a.1.sd) fun x h => hx x (.inl h)
    have h2 := del_same (sd := a.1.sd) fun x h => hx x (.inr h)
    unfold delE at h1 h2 ⊢
    rw [e, List.filter_append, List.filter_cons_of_neg (by simp), h1, h2]
  have ht : turnE a.1.sd g E = s ++ g a :: u := by
    have h1 := turn_same (sd := a.1.sd) (g := g) fun x h => hx x (.inl h)
    have h2 := turn_same (sd := a.1.sd) (g := g) fun x h => hx x (.inr h)
    unfold turnE at h1 h2 ⊢
    rw [e, List.map_append, List.map_cons, if_pos rfl, h1, h2]
  rw [hd, ht]
  exact ⟨by rw [e]; exact List.perm_middle, List.perm_middle⟩
end Go.Proofs.Qxb6500424aGreat.Sk
