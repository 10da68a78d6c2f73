/-
  sock: the small steps on the table, walked.
-/
import Derived.Test.Qxb6500424aGreatSkA
set_option linter.unusedVariables false
open Go.Vc
namespace Go.Proofs.Qxb6500424aGreat.Sk

/-! ### numbers -/
def hshI (a b c : Int) : Int := IntKind.i64.wrap (BitVec.ofInt IntKind.i64.bits (IntKind.i64.wrap (BitVec.ofInt IntKind.i64.bits (IntKind.i64.wrap (BitVec.ofInt IntKind.i64.bits a ^^^ BitVec.ofInt IntKind.i64.bits b).toNat) ^^^ BitVec.ofInt IntKind.i64.bits c).toNat) &&& BitVec.ofInt IntKind.i64.bits 3).toNat
theorem and3_bd (x : Int) : 0 ≤ IntKind.i64.wrap (BitVec.ofInt IntKind.i64.bits x &&& BitVec.ofInt IntKind.i64.bits (3 : Int)).toNat ∧ IntKind.i64.wrap (BitVec.ofInt IntKind.i64.bits x &&& BitVec.ofInt IntKind.i64.bits (3 : Int)).toNat < 4 := by
  have h : (BitVec.ofInt IntKind.i64.bits x &&& BitVec.ofInt IntKind.i64.bits (3 : Int)).toNat ≤ 3 := by
    rw [BitVec.toNat_and]
    exact Nat.and_le_right
  rw [w64 (by omega) (by omega)]
  omega
theorem hshI_bd (a b c : Int) : 0 ≤ hshI a b c ∧ hshI a b c < 4 := and3_bd _
def hsh (a b c : Int) : Nat := (hshI a b c).toNat
theorem hsh_lt (a b c : Int) : hsh a b c < 4 := by have := hshI_bd a b c; unfold hsh; omega
def bitI (s : Nat) : Int := if s = 0 then 1 else if s = 1 then 2 else if s = 2 then 4 else 8
def blkOf (f : Nat → Bool) : Int := (if f 0 then 1 else 0) + (if f 1 then 2 else 0) + (if f 2 then 4 else 0) + (if f 3 then 8 else 0)
def and8 (x y : Int) : Int := IntKind.u8.wrap (BitVec.ofInt IntKind.u8.bits x &&& BitVec.ofInt IntKind.u8.bits y).toNat
def or8 (x y : Int) : Int := IntKind.u8.wrap (BitVec.ofInt IntKind.u8.bits x ||| BitVec.ofInt IntKind.u8.bits y).toNat
def not8 (y : Int) : Int := IntKind.u8.wrap (BitVec.ofInt IntKind.u8.bits (if IntKind.u8.signed then -1 else IntKind.u8.max) ^^^ BitVec.ofInt IntKind.u8.bits y).toNat
def b4 (a b c d : Bool) : Int := (if a then 1 else 0) + (if b then 2 else 0) + (if c then 4 else 0) + (if d then 8 else 0)
theorem bits_all : ∀ a b c d : Bool, ((and8 (b4 a b c d) 1 == 0) = !a ∧ (and8 (b4 a b c d) 2 == 0) = !b ∧ (and8 (b4 a b c d) 4 == 0) = !c ∧ (and8 (b4 a b c d) 8 == 0) = !d)
    ∧ (or8 (b4 a b c d) 1 = b4 true b c d ∧ or8 (b4 a b c d) 2 = b4 a true c d ∧ or8 (b4 a b c d) 4 = b4 a b true d ∧ or8 (b4 a b c d) 8 = b4 a b c true)
    ∧ (and8 (b4 a b c d) (not8 1) = b4 false b c d ∧ and8 (b4 a b c d) (not8 2) = b4 a false c d ∧ and8 (b4 a b c d) (not8 4) = b4 a b false d ∧ and8 (b4 a b c d) (not8 8) = b4 a b c false) := by decide +kernel
def updB (f : Nat → Bool) (i : Nat) (v : Bool) : Nat → Bool := fun j => if j = i then v else f j
theorem updB_eq (f : Nat → Bool) (i : Nat) (v : Bool) : updB f i v i = v := by simp [updB]
theorem updB_ne {f : Nat → Bool} {i j : Nat} {v : Bool} (h : j ≠ i) : updB f i v j = f j := by simp [updB, h]
theorem blk_and (f : Nat → Bool) {s : Nat} (hs : s < 4) : (and8 (blkOf f) (bitI s) == 0) = !f s := by
  have h := (bits_all (f 0) (f 1) (f 2) (f 3)).1
  have : s = 0 ∨ s = 1 ∨ s = 2 ∨ s = 3 := by omega
  rcases this with rfl | rfl | rfl | rfl
  · exact h.1
  · exact h.2.1
  · exact h.2.2.1
  · exact h.2.2.2
theorem blk_or (f : Nat → Bool) {s : Nat} (hs : s < 4) : or8 (blkOf f) (bitI s) = blkOf (updB f s true) := by
  have h := (bits_all (f 0) (f 1) (f 2) (f 3)).2.1
  have : s = 0 ∨ s = 1 ∨ s = 2 ∨ s = 3 := by omega
  rcases this with rfl | rfl | rfl | rfl
  · exact h.1
  · exact h.2.1
  · exact h.2.2.1
  · exact h.2.2.2
theorem blk_not (f : Nat → Bool) {s : Nat} (hs : s < 4) : and8 (blkOf f) (not8 (bitI s)) = blkOf (updB f s false) := by
  have h := (bits_all (f 0) (f 1) (f 2) (f 3)).2.2
  have : s = 0 ∨ s = 1 ∨ s = 2 ∨ s = 3 := by omega
  rcases this with rfl | rfl | rfl | rfl
  · exact h.1
  · exact h.2.1
  · exact h.2.2.1
  · exact h.2.2.2
theorem blkOf_congr {f g : Nat → Bool} (h : ∀ s, s < 4 → f s = g s) : blkOf f = blkOf g := by
  unfold blkOf
  rw [h 0 (by omega), h 1 (by omega), h 2 (by omega), h 3 (by omega)]
section
variable {w : World} {b : Nat} {T : Tbl}
theorem hash_ok {x y z : Int} {R : Int → World → Prop} (hR : R (hsh x y z : Int) w) : sock_hash.Call x y z w R := by
  apply sock_hash.sound
  unfold sock_hash.B0
  show R (hshI x y z) w
  have := hshI_bd x y z
  rw [show hshI x y z = (hsh x y z : Int) by unfold hsh; omega]
  exact hR
theorem bitOf_ok {s : Nat} (hs : s < 4) {R : Int → World → Prop} (hR : R (bitI s) w) : sock_bitOf.Call (s : Int) w R := by
  apply sock_bitOf.sound
  unfold sock_bitOf.B0
  have : s = 0 ∨ s = 1 ∨ s = 2 ∨ s = 3 := by omega
  rcases this with rfl | rfl | rfl | rfl
  · exact ⟨by decide, hR⟩
  · exact ⟨by decide, hR⟩
  · exact ⟨by decide, hR⟩
  · exact ⟨by decide, hR⟩
def nextP (p : Int) : Int := if 15 ≤ p then 8 else p + 1
theorem nextEph_ok {p : Int} (h0 : 0 ≤ p) {R : Int → World → Prop} (hR : R (nextP p) w) : sock_nextEph.Call p w R := by
  apply sock_nextEph.sound
  unfold sock_nextEph.B0
  unfold nextP at hR
  refine Bm.ite (fun h => ?_) fun h => ?_
  · rw [if_pos (by omega)] at hR
    exact hR
  · rw [if_neg (by omega)] at hR
    rw [w64 (by omega) (by omega)]
    exact hR
theorem wrap_ok {k : Nat} (hk : k < 4) {R : Int → World → Prop} (hR : R ((k % 2 : Nat) : Int) w) : sock_wrap.Call (k : Int) w R := by
  apply sock_wrap.sound
  unfold sock_wrap.B0
  refine Bm.ite (fun h => ?_) fun h => ?_
  · rw [w64 (by omega) (by omega), show (k : Int) - 2 = ((k % 2 : Nat) : Int) by omega]
    exact hR
  · rw [show (k : Int) = ((k % 2 : Nat) : Int) by omega]
    exact hR
/-! ### find, listenerRow, lowBlock -/
theorem find_ok {sd : Int} {R : Int → World → Prop} (h : TAt w b T) (hu : ∀ i j, i < 6 → j < 6 → (T.rows i).used = true → (T.rows j).used = true → (T.rows i).e.sd = (T.rows j).e.sd → i = j)
    (hR : (∀ i, i < 6 → (T.rows i).used = true → (T.rows i).e.sd = sd → R (i : Int) w) ∧ ((∀ i, i < 6 → (T.rows i).used = true → (T.rows i).e.sd ≠ sd) → R (-1) w)) : sock_Table_find.Call (some ⟨b, 0, none⟩) sd w R := by
  apply sock_Table_find.sound
  unfold sock_Table_find.B0
  refine ⟨fun m t' sd' i w' => ∃ n : Nat, n ≤ 6 ∧ m = 6 - n ∧ some ⟨b, 0, none⟩ = t' ∧ sd = sd' ∧ i = (n : Int) ∧ w = w' ∧ ∀ j, j < n → (T.rows j).used = true → (T.rows j).e.sd ≠ sd, _, ⟨0, by omega, rfl, rfl, rfl, rfl, rfl, fun j hj => by omega⟩, ?_⟩
  rintro m t' sd' i w' ⟨n, hn, rfl, rfl, rfl, rfl, rfl, hb⟩
  unfold sock_Table_find.L1b
  refine Bm.ite (fun hlt => Pn.mk ⟨⟨by omega, by omega⟩, h.ldUsed (by omega) ?_⟩) fun hge => hR.2 fun i hi => hb i (by omega)
  have go : ((T.rows n).used = true → (T.rows n).e.sd ≠ sd) → sock_Table_find.B1 (some ⟨b, 0, none⟩) sd (n : Int) false w (fun t' sd' i w' => ∃ m', m' < 6 - n ∧ ∃ n : Nat, n ≤ 6 ∧ m' = 6 - n ∧ some ⟨b, 0, none⟩ = t' ∧ sd = sd' ∧ i = (n : Int) ∧ w = w' ∧ ∀ j, j < n → (T.rows j).used = true → (T.rows j).e.sd ≠ sd) R := fun hno => by
    unfold sock_Table_find.B1
    refine Bm.neg rfl ⟨6 - (n + 1), by omega, n + 1, by omega, rfl, rfl, rfl, by rw [w64 (by omega) (by omega)]; omega, rfl, fun j hj => ?_⟩
    by_cases e : j = n
    · subst e; exact hno
    · exact hb j (by omega)
  refine Bm.mk (fun hused => Pn.mk ⟨⟨by omega, by omega⟩, h.ldSd (by omega) ?_⟩) fun hun => go fun hc => by rw [hun] at hc; cases hc
  by_cases e : (T.rows n).e.sd = sd
  · rw [show ((T.rows n).e.sd == sd) = true by simp [e]]
    unfold sock_Table_find.B1
    exact Bm.pos rfl (hR.1 n (by omega) hused e)
  · rw [show ((T.rows n).e.sd == sd) = false by simp [e]]
    exact go fun _ => e
def lrow (T : Tbl) (p : Int) : Int := if 1 ≤ p ∧ p < 8 then T.port p.toNat else -1
theorem listenerRow_ok {p : Int} {R : Int → World → Prop} (h : TAt w b T) (hR : R (lrow T p) w) : sock_Table_listenerRow.Call (some ⟨b, 0, none⟩) p w R := by
  apply sock_Table_listenerRow.sound
  unfold sock_Table_listenerRow.B0
  unfold lrow at hR
  refine Bm.ite (fun hlt => ?_) fun hge => ?_
  · unfold sock_Table_listenerRow.B1
    rw [if_neg (by omega)] at hR
    exact Bm.pos rfl hR
  · by_cases h8 : p ≥ 8
    · rw [decide_eq_true h8]
      unfold sock_Table_listenerRow.B1
      rw [if_neg (by omega)] at hR
      exact Bm.pos rfl hR
    · rw [decide_eq_false h8]
      unfold sock_Table_listenerRow.B1
      rw [if_pos (by omega)] at hR
      obtain ⟨q, rfl⟩ : ∃ q : Nat, p = q := ⟨p.toNat, by omega⟩
      exact Bm.neg rfl (Pn.mk ⟨⟨by omega, by omega⟩, h.ldPort (by omega) hR⟩)
def lowF (f : Nat → Bool) : Int := if f 0 = false then 0 else if f 1 = false then 1 else if f 2 = false then 2 else if f 3 = false then 3 else -1
theorem lowF_none {f : Nat → Bool} (h : lowF f = -1) {s : Nat} (hs : s < 4) : f s = true := by
  unfold lowF at h
  cases h0 : f 0 with
  | false => rw [if_pos h0] at h; cases h
  | true =>
    rw [if_neg (by simp [h0])] at h
    cases h1 : f 1 with
    | false => rw [if_pos h1] at h; cases h
    | true =>
      rw [if_neg (by simp [h1])] at h
      cases h2 : f 2 with
      | false => rw [if_pos h2] at h; cases h
      | true =>
        rw [if_neg (by simp [h2])] at h
        cases h3 : f 3 with
        | false => rw [if_pos h3] at h; cases h
        | true =>
          have : s = 0 ∨ s = 1 ∨ s = 2 ∨ s = 3 := by omega
          rcases this with rfl | rfl | rfl | rfl <;> assumption
theorem lowF_some {f : Nat → Bool} (h : lowF f ≠ -1) : ∃ s : Nat, s < 4 ∧ lowF f = (s : Int) ∧ f s = false := by
  unfold lowF at h ⊢
  by_cases h0 : f 0 = false
  · exact ⟨0, by omega, by rw [if_pos h0]; rfl, h0⟩
  · rw [if_neg h0] at h ⊢
    by_cases h1 : f 1 = false
    · exact ⟨1, by omega, by rw [if_pos h1]; rfl, h1⟩
    · rw [if_neg h1] at h ⊢
      by_cases h2 : f 2 = false
      · exact ⟨2, by omega, by rw [if_pos h2]; rfl, h2⟩
      · rw [if_neg h2] at h ⊢
        by_cases h3 : f 3 = false
        · exact ⟨3, by omega, by rw [if_pos h3]; rfl, h3⟩
        · rw [if_neg h3] at h
          exact absurd rfl h
theorem lowF_at {f : Nat → Bool} {s : Nat} (hs : s < 4) (hb : ∀ j, j < s → f j = true) (hf : f s = false) : lowF f = (s : Int) := by
  unfold lowF
  have : s = 0 ∨ s = 1 ∨ s = 2 ∨ s = 3 := by omega
  rcases this with rfl | rfl | rfl | rfl
  · rw [if_pos hf]; rfl
  · rw [if_neg (by rw [hb 0 (by omega)]; simp), if_pos hf]; rfl
  · rw [if_neg (by rw [hb 0 (by omega)]; simp), if_neg (by rw [hb 1 (by omega)]; simp), if_pos hf]; rfl
  · rw [if_neg (by rw [hb 0 (by omega)]; simp), if_neg (by rw [hb 1 (by omega)]; simp), if_neg (by rw [hb 2 (by omega)]; simp), if_pos hf]; rfl
theorem lowF_all {f : Nat → Bool} (hb : ∀ j, j < 4 → f j = true) : lowF f = -1 := by
  unfold lowF
  rw [if_neg (by rw [hb 0 (by omega)]; simp), if_neg (by rw [hb 1 (by omega)]; simp), if_neg (by rw [hb 2 (by omega)]; simp), if_neg (by rw [hb 3 (by omega)]; simp)]
theorem lowBlock_ok {f : Nat → Bool} {R : Int → World → Prop} (h : TAt w b T) (hf : T.blk = blkOf f) (hR : ∀ w', Ext [] w w' → R (lowF f) w') : sock_Table_lowBlock.Call (some ⟨b, 0, none⟩) w R := by
  apply sock_Table_lowBlock.sound
  unfold sock_Table_lowBlock.B0
  refine ⟨fun m t' s w' => ∃ n : Nat, n ≤ 4 ∧ m = 4 - n ∧ some ⟨b, 0, none⟩ = t' ∧ s = (n : Int) ∧ Ext [] w w' ∧ ∀ j, j < n → f j = true, _, ⟨0, by omega, rfl, rfl, rfl, Ext.refl _ _, fun j hj => by omega⟩, ?_⟩
  rintro m t' s w' ⟨n, hn, rfl, rfl, rfl, he, hb⟩
  have h' := (h.ext0 he).drew
  unfold sock_Table_lowBlock.L1b
  refine Bm.ite (fun hlt => Pn.mk (h'.ldBlk (bitOf_ok (by omega) ⟨h'.cellBlk, ?_⟩))) fun hge => ?_
  · show Bm (and8 T.blk (bitI n) == 0) _ _
    rw [hf, blk_and f (by omega)]
    cases hfn : f n with
    | false =>
      refine Bm.pos rfl ?_
      have := hR w'.drew (he.trans (Ext.drew _ _))
      rw [lowF_at (by omega) hb hfn] at this
      exact this
    | true =>
      refine Bm.neg rfl ⟨4 - (n + 1), by omega, n + 1, by omega, rfl, rfl, by rw [w64 (by omega) (by omega)]; omega, he.trans (Ext.drew _ _), fun j hj => ?_⟩
      by_cases e : j = n
      · subst e; exact hfn
      · exact hb j (by omega)
  · have := hR w' he
    rw [lowF_all fun j hj => hb j (by omega)] at this
    exact this
/-! ### chains -/
def Lk (nx : Nat → Int) : Int → List Nat → Prop
  | h, [] => h = -1
  | h, i :: L => h = (i : Int) ∧ Lk nx (nx i) L
theorem Lk.congr {nx nx' : Nat → Int} : ∀ {L : List Nat} {h : Int}, (∀ i ∈ L, nx i = nx' i) → Lk nx h L → Lk nx' h L
  | [], _, _, hl => hl
  | i :: L, h, hc, hl => ⟨hl.1, by rw [← hc i (List.mem_cons_self ..)]; exact Lk.congr (fun j hj => hc j (List.mem_cons_of_mem _ hj)) hl.2⟩
def nx (T : Tbl) : Nat → Int := fun i => (T.rows i).next
/-- The first of a free list taken. -/
def takeT (T : Tbl) (i : Nat) : Tbl := updR { T with free := (T.rows i).next } i ⟨true, zE, -1, 0, 0, 0, 0, 0⟩
theorem take_ok {i : Nat} {L : List Nat} {R : Int → World → Prop} (h : TAt w b T) (hl : Lk (nx T) T.free (i :: L)) (hi : i < 6) (hR : ∀ w', TAt w' b (takeT T i) → Ext [b] w w' → R (i : Int) w') : sock_Table_take.Call (some ⟨b, 0, none⟩) w R := by
  apply sock_Table_take.sound
  unfold sock_Table_take.B0
  refine Pn.mk (h.ldFree ?_)
  rw [hl.1]
  refine Bm.pos (by simp) (Pn.mk ⟨⟨by omega, by omega⟩, h.ldNext hi (Pn.mk (h.stFree fun w1 hs1 h1 he1 => Pn.mk ⟨⟨by omega, by omega⟩, ?_⟩))⟩)
  exact h1.stAll (r := ⟨true, zE, -1, 0, 0, 0, 0, 0⟩) hi fun w2 hs2 h2 he2 => hR w2 h2 (he1.trans he2)
def giveT (T : Tbl) (i : Nat) : Tbl := { updR T i ⟨false, zE, T.free, 0, 0, 0, 0, 0⟩ with free := (i : Int) }
theorem give_ok {i : Nat} {R : World → Prop} (h : TAt w b T) (hi : i < 6) (hR : ∀ w', TAt w' b (giveT T i) → Ext [b] w w' → R w') : sock_Table_give.Call (some ⟨b, 0, none⟩) (i : Int) w R := by
  apply sock_Table_give.sound
  unfold sock_Table_give.B0
  refine Pn.mk (h.drew.ldFree (Pn.mk ⟨⟨by omega, by omega⟩, ?_⟩))
  refine h.drew.stAll (r := ⟨false, zE, T.free, 0, 0, 0, 0, 0⟩) hi fun w1 hs1 h1 he1 => Pn.mk (h1.stFree fun w2 hs2 h2 he2 => hR w2 h2 (((Ext.drew _ _).trans he1).trans he2))
def hE (e : Ent) : Nat := hsh e.lp e.rh e.rp
def linkT (T : Tbl) (i : Nat) : Tbl := { updR T i { T.rows i with next := T.bkt (hE (T.rows i).e) } with bkt := updN T.bkt (hE (T.rows i).e) (i : Int) }
theorem link_ok {i : Nat} {R : World → Prop} (h : TAt w b T) (hi : i < 6) (hR : ∀ w', TAt w' b (linkT T i) → Ext [b] w w' → R w') : sock_Table_link.Call (some ⟨b, 0, none⟩) (i : Int) w R := by
  apply sock_Table_link.sound
  unfold sock_Table_link.B0
  have hh := hsh_lt (T.rows i).e.lp (T.rows i).e.rh (T.rows i).e.rp
  refine Pn.mk ⟨⟨by omega, by omega⟩, h.drew.ldLp hi (Pn.mk ⟨⟨by omega, by omega⟩, h.drew.ldRh hi (Pn.mk ⟨⟨by omega, by omega⟩, h.drew.ldRp hi (hash_ok (Pn.mk ⟨⟨by omega, by omega⟩, h.drew.drew.ldBkt hh (Pn.mk ⟨⟨by omega, by omega⟩, h.drew.drew.stNext hi fun w1 hs1 h1 he1 => Pn.mk ⟨⟨by omega, by omega⟩, h1.stBkt hh fun w2 hs2 h2 he2 => ?_⟩⟩)⟩))⟩)⟩)⟩
  exact hR w2 h2 ((((Ext.drew _ _).trans (Ext.drew _ _)).trans he1).trans he2)
theorem Lk.at {nx : Nat → Int} {i : Nat} {Q : List Nat} : ∀ {P : List Nat} {h : Int}, Lk nx h (P ++ i :: Q) → (P = [] → h = (i : Int)) ∧ (∀ j, P.getLast? = some j → nx j = (i : Int)) ∧ Lk nx (nx i) Q
  | [], h, hl => ⟨fun _ => hl.1, fun j hj => (by cases hj), hl.2⟩
  | [p], h, hl => ⟨fun h => (by cases h), fun j hj => by
      simp at hj
      subst hj
      exact hl.2.1, hl.2.2⟩
  | p :: q :: P, h, hl => by
    have ih := Lk.at (P := q :: P) hl.2
    exact ⟨fun h => (by cases h), fun j hj => ih.2.1 j (by rw [List.getLast?_cons_cons] at hj; exact hj), ih.2.2⟩
theorem unlink_ok {i : Nat} {P Q : List Nat} {R : World → Prop} (h : TAt w b T) (hi : i < 6) (hl : Lk (nx T) (T.bkt (hE (T.rows i).e)) (P ++ i :: Q)) (hn : (P ++ i :: Q).Nodup) (hlt : ∀ x ∈ P, x < 6) (hlen : P.length ≤ 5)
    (hR1 : P = [] → ∀ w', TAt w' b { T with bkt := updN T.bkt (hE (T.rows i).e) (T.rows i).next } → Ext [b] w w' → R w')
    (hR2 : ∀ P' j, P = P' ++ [j] → ∀ w', TAt w' b (updR T j { T.rows j with next := (T.rows i).next }) → Ext [b] w w' → R w') : sock_Table_unlink.Call (some ⟨b, 0, none⟩) (i : Int) w R := by
  apply sock_Table_unlink.sound
  unfold sock_Table_unlink.B0
  have hh := hsh_lt (T.rows i).e.lp (T.rows i).e.rh (T.rows i).e.rp
  refine Pn.mk ⟨⟨by omega, by omega⟩, h.drew.ldLp hi (Pn.mk ⟨⟨by omega, by omega⟩, h.drew.ldRh hi (Pn.mk ⟨⟨by omega, by omega⟩, h.drew.ldRp hi (hash_ok (Pn.mk ⟨⟨by omega, by omega⟩, h.drew.ldBkt hh ?_⟩))⟩)⟩)⟩
  have hni : ∀ x ∈ P, x ≠ i := fun x hx e => by
    subst e
    exact (List.nodup_append.1 hn).2.2 x hx x (List.mem_cons_self ..) rfl
  have hl' : Lk (nx T) (T.bkt (hsh (T.rows i).e.lp (T.rows i).e.rh (T.rows i).e.rp)) (P ++ i :: Q) := hl
  cases P with
  | nil =>
    rw [hl'.1]
    refine Bm.pos (by simp) (Pn.mk ⟨⟨by omega, by omega⟩, h.drew.drew.ldNext hi (Pn.mk ⟨⟨by omega, by omega⟩, h.drew.drew.stBkt hh fun w2 hs2 h2 he2 => hR1 rfl w2 h2 (((Ext.drew _ _).trans (Ext.drew _ _)).trans he2)⟩)⟩)
  | cons p P0 =>
    rw [hl'.1]
    have hpi := hni p (List.mem_cons_self ..)
    refine Bm.neg (by simp; omega) ⟨fun m t' i' j n w' => ∃ (A B : List Nat) (q k : Nat), m = B.length ∧ some ⟨b, 0, none⟩ = t' ∧ (i : Int) = i' ∧ j = (q : Int) ∧ n = (k : Int) ∧ k + B.length < 6 ∧ p :: P0 = A ++ q :: B ∧ Lk (nx T) (q : Int) (q :: (B ++ i :: Q)) ∧ w.drew = w', P0.length,
      ⟨[], P0, p, 0, rfl, rfl, rfl, rfl, rfl, by simp at hlen ⊢; omega, rfl, ⟨rfl, hl'.2⟩, rfl⟩, ?_⟩
    rintro m t' i' j n w' ⟨A, B, q, k, rfl, rfl, rfl, rfl, rfl, hk, hAB, hlk, rfl⟩
    have hq6 : q < 6 := hlt q (by rw [hAB]; simp)
    have hqi : q ≠ i := hni q (by rw [hAB]; simp)
    unfold sock_Table_unlink.L1b
    refine Bm.pos (by simp) ?_
    rw [decide_eq_true (by omega)]
    unfold sock_Table_unlink.B1
    refine Bm.pos rfl (Pn.mk ⟨⟨by omega, by omega⟩, h.drew.ldNext hq6 ?_⟩)
    have hq2 : Lk (nx T) (T.rows q).next (B ++ i :: Q) := hlk.2
    cases B with
    | nil =>
      rw [hq2.1]
      refine Bm.pos (by simp) (Pn.mk ⟨⟨by omega, by omega⟩, h.drew.drew.ldNext hi (Pn.mk ⟨⟨by omega, by omega⟩, h.drew.drew.stNext hq6 fun w2 hs2 h2 he2 => hR2 A q hAB w2 h2 (((Ext.drew _ _).trans (Ext.drew _ _)).trans he2)⟩)⟩)
    | cons r B' =>
      have hri : r ≠ i := hni r (by rw [hAB]; simp)
      rw [hq2.1]
      refine Bm.neg (by simp; omega) (Pn.mk ⟨⟨by omega, by omega⟩, h.drew.ldNext hq6 ⟨B'.length, by simp, A ++ [q], B', r, k + 1, rfl, rfl, rfl, hq2.1, by rw [w64 (by omega) (by omega)]; omega, by simp at hk; omega, by rw [hAB]; simp, ⟨rfl, hq2.2⟩, rfl⟩⟩)
end
end Go.Proofs.Qxb6500424aGreat.Sk
