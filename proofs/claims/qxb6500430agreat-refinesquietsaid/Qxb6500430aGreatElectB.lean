/-
  elect: the calls of both sides compute the same plain functions.
-/
import Derived.Test.Qxb6500430aGreatElectA
set_option linter.unusedVariables false
set_option linter.unusedSimpArgs false
open Go.Vc
namespace Go.Proofs.Qxb6500430aGreat.El

/-! ### the plain functions -/
def seeB (s : ES) (t : Int) : Bool := !(decide (t ≤ s.term) || decide (72057594037927936 < t))
def seeF (s : ES) (t : Int) : ES := if seeB s t = true then { s with term := t, vote := -1, role := 0, leader := -1, m := 0 } else s
def tickF (s : ES) : Int × ES :=
  if s.role = 2 then (2, s) else if s.clock + 1 < 3 + 2 * s.id then (0, { s with clock := s.clock + 1 })
  else if 72057594037927936 ≤ s.term then (0, { s with clock := 0 }) else (1, { s with clock := 0, term := s.term + 1, vote := s.id, role := 1, leader := -1, m := 2 ^ s.id.toNat })
def peerB (s : ES) (p : Int) : Bool := decide (0 ≤ p) && decide (p < 3) && decide (p ≠ s.id)
def askF (s : ES) (f t : Int) (up : Bool) : Bool × ES :=
  if peerB s f = false ∨ 72057594037927936 < t then (false, s)
  else if t < (seeF s t).term ∨ up = false ∨ ((seeF s t).vote ≠ -1 ∧ (seeF s t).vote ≠ f) then (false, seeF s t)
  else (true, { seeF s t with vote := f, clock := 0 })
def gotF (s : ES) (f t : Int) (g : Bool) : Bool × ES :=
  if peerB s f = false ∨ 72057594037927936 < t then (false, s)
  else if seeB s t = true then (false, seeF s t)
  else if t < s.term ∨ s.role ≠ 1 ∨ g = false then (false, s)
  else if pop (s.m ||| 2 ^ f.toNat) < 2 then (false, { s with m := s.m ||| 2 ^ f.toNat })
  else (true, { s with m := s.m ||| 2 ^ f.toNat, role := 2, leader := s.id, clock := 0 })
def heardF (s : ES) (f t : Int) : Bool × ES :=
  if peerB s f = false ∨ 72057594037927936 < t then (false, s)
  else if t < (seeF s t).term ∨ (seeF s t).role = 2 then (false, seeF s t)
  else (true, { seeF s t with role := 0, leader := f, clock := 0, m := 0 })
def restF (s : ES) (t v : Int) : Int × ES :=
  if t < 0 ∨ 72057594037927936 < t ∨ v < -1 ∨ 3 ≤ v then (1, s) else (0, { s with term := t, vote := v, role := 0, leader := -1, clock := 0, m := 0 })
def newF (i : Int) : ES := ⟨if i < 0 ∨ 3 ≤ i then 0 else i, 0, -1, 0, -1, 0, 0⟩

theorem pow_all : ∀ p : Fin 3, (2 ^ p.val : Nat) < 8 ∧ (2 ^ p.val : Nat).testBit p.val = true ∧ pop (2 ^ p.val) < 2 := by decide +kernel
theorem or_all : ∀ m : Fin 8, ∀ p : Fin 3, ∀ i : Fin 3, (m.val ||| 2 ^ p.val).testBit i.val = (decide (i = p) || m.val.testBit i.val) := by decide +kernel
theorem seeF_wf {s : ES} (h : s.Wf) {t : Int} : (seeF s t).Wf := by
  unfold seeF
  split
  · rename_i hb
    have hb' : ¬ (t ≤ s.term ∨ 72057594037927936 < t) := by simpa [seeB] using hb
    obtain ⟨h1, h2, h3, h4, h5, h6, h7, h8, h9, h10⟩ := h
    have ht : 0 ≤ t ∧ t ≤ 72057594037927936 := by omega
    exact ⟨h1, ht, by show (-1 : Int) ≤ -1 ∧ (-1 : Int) < 3; omega, by show (0 : Int) ≤ 0 ∧ (0 : Int) < 3; omega, by show (-1 : Int) ≤ -1 ∧ (-1 : Int) < 3; omega, h6, by show 0 < 8; omega, fun _ => rfl, fun e => by simp at e, fun e => by simp at e⟩
  · exact h
theorem tickF_wf {s : ES} (h : s.Wf) : (tickF s).2.Wf := by
  obtain ⟨h1, h2, h3, h4, h5, h6, h7, h8, h9, h10⟩ := h
  unfold tickF
  split
  · exact ⟨h1, h2, h3, h4, h5, h6, h7, h8, h9, h10⟩
  rename_i hr
  split
  · rename_i hc
    exact ⟨h1, h2, h3, h4, h5, by show 0 ≤ s.clock + 1 ∧ s.clock + 1 < 3 + 2 * s.id; omega, h7, h8, h9, fun e => absurd e hr⟩
  split
  · exact ⟨h1, h2, h3, h4, h5, by show (0 : Int) ≤ 0 ∧ 0 < 3 + 2 * s.id; omega, h7, h8, h9, fun e => absurd e hr⟩
  · rename_i ht
    have pw := pow_all ⟨s.id.toNat, by omega⟩
    exact ⟨h1, by show 0 ≤ s.term + 1 ∧ s.term + 1 ≤ 72057594037927936; omega, by show -1 ≤ s.id ∧ s.id < 3; omega, by show (0 : Int) ≤ 1 ∧ (1 : Int) < 3; omega, by show (-1 : Int) ≤ -1 ∧ (-1 : Int) < 3; omega, by show (0 : Int) ≤ 0 ∧ 0 < 3 + 2 * s.id; omega, pw.1, fun e => by simp at e, fun _ => ⟨rfl, pw.2.1, rfl, pw.2.2⟩, fun e => by simp at e⟩
theorem peerB_true {s : ES} {f : Int} (h : ¬ peerB s f = false) : 0 ≤ f ∧ f < 3 ∧ f ≠ s.id := by
  have h2 : peerB s f = true := by simpa using h
  simp only [peerB, Bool.and_eq_true, decide_eq_true_eq] at h2
  exact ⟨h2.1.1, h2.1.2, h2.2⟩
theorem seeF_id (s : ES) (t : Int) : (seeF s t).id = s.id := by unfold seeF; split <;> rfl
theorem askF_wf {s : ES} (h : s.Wf) {f t : Int} {up : Bool} : (askF s f t up).2.Wf := by
  unfold askF
  split
  · exact h
  rename_i hp
  have hw := seeF_wf h (t := t)
  split
  · exact hw
  rename_i hc
  obtain ⟨f0, f1, f2⟩ := peerB_true (fun e => hp (.inl e))
  rw [← seeF_id s t] at f2
  obtain ⟨h1, h2, h3, h4, h5, h6, h7, h8, h9, h10⟩ := hw
  have hcv : (seeF s t).vote = -1 ∨ (seeF s t).vote = f := by omega
  exact ⟨h1, h2, by show -1 ≤ f ∧ f < 3; omega, h4, h5, by show (0 : Int) ≤ 0 ∧ 0 < 3 + 2 * (seeF s t).id; omega, h7, h8, fun e => by have := h9 e; omega, fun e => by have := h10 e; omega⟩
theorem gotF_wf {s : ES} (h : s.Wf) {f t : Int} {g : Bool} : (gotF s f t g).2.Wf := by
  unfold gotF
  split
  · exact h
  rename_i hp
  split
  · exact seeF_wf h
  split
  · exact h
  rename_i hc
  have hr : s.role = 1 := by
    apply Classical.byContradiction
    intro hh
    exact hc (.inr (.inl hh))
  obtain ⟨f0, f1, f2⟩ := peerB_true (fun e => hp (.inl e))
  obtain ⟨h1, h2, h3, h4, h5, h6, h7, h8, h9, h10⟩ := h
  obtain ⟨q1, q2, q3, q4⟩ := h9 hr
  have mk := (masks h7 ⟨f0, f1⟩).2.2
  have bitId : (s.m ||| 2 ^ f.toNat).testBit s.id.toNat = true := by
    have := or_all ⟨s.m, h7⟩ ⟨f.toNat, by omega⟩ ⟨s.id.toNat, by omega⟩
    simp only at this
    rw [this, q2]
    simp
  split
  · rename_i hp2
    exact ⟨h1, h2, h3, h4, h5, h6, mk, fun e => by rw [hr] at e; simp at e, fun _ => ⟨q1, bitId, q3, hp2⟩, fun e => by rw [hr] at e; simp at e⟩
  · rename_i hp2
    exact ⟨h1, h2, h3, by show (0 : Int) ≤ 2 ∧ (2 : Int) < 3; omega, by show -1 ≤ s.id ∧ s.id < 3; omega, by show (0 : Int) ≤ 0 ∧ 0 < 3 + 2 * s.id; omega, mk, fun e => by simp at e, fun e => by simp at e, fun _ => ⟨q1, bitId, rfl, by show 2 ≤ pop (s.m ||| 2 ^ f.toNat); omega, rfl⟩⟩
theorem heardF_wf {s : ES} (h : s.Wf) {f t : Int} : (heardF s f t).2.Wf := by
  unfold heardF
  split
  · exact h
  rename_i hp
  have hw := seeF_wf h (t := t)
  split
  · exact hw
  obtain ⟨f0, f1, f2⟩ := peerB_true (fun e => hp (.inl e))
  obtain ⟨h1, h2, h3, h4, h5, h6, h7, h8, h9, h10⟩ := hw
  exact ⟨h1, h2, h3, by show (0 : Int) ≤ 0 ∧ (0 : Int) < 3; omega, by show -1 ≤ f ∧ f < 3; omega, by show (0 : Int) ≤ 0 ∧ 0 < 3 + 2 * (seeF s t).id; omega, by show 0 < 8; omega, fun _ => rfl, fun e => by simp at e, fun e => by simp at e⟩
theorem restF_wf {s : ES} (h : s.Wf) {t v : Int} : (restF s t v).2.Wf := by
  unfold restF
  split
  · exact h
  rename_i hp
  obtain ⟨h1, h2, h3, h4, h5, h6, h7, h8, h9, h10⟩ := h
  exact ⟨h1, by show 0 ≤ t ∧ t ≤ 72057594037927936; omega, by show -1 ≤ v ∧ v < 3; omega, by show (0 : Int) ≤ 0 ∧ (0 : Int) < 3; omega, by show (-1 : Int) ≤ -1 ∧ (-1 : Int) < 3; omega, by show (0 : Int) ≤ 0 ∧ 0 < 3 + 2 * s.id; omega, by show 0 < 8; omega, fun _ => rfl, fun e => by simp at e, fun e => by simp at e⟩
theorem newF_wf (i : Int) : (newF i).Wf := by
  have hi : 0 ≤ (newF i).id ∧ (newF i).id < 3 := by unfold newF; simp only; split <;> omega
  exact ⟨hi, by show (0 : Int) ≤ 0 ∧ (0 : Int) ≤ 72057594037927936; omega, by show (-1 : Int) ≤ -1 ∧ (-1 : Int) < 3; omega, by show (0 : Int) ≤ 0 ∧ (0 : Int) < 3; omega, by show (-1 : Int) ≤ -1 ∧ (-1 : Int) < 3; omega, by show (0 : Int) ≤ 0 ∧ 0 < 3 + 2 * (newF i).id; omega, by show 0 < 8; omega, fun _ => rfl, fun e => by simp [newF] at e, fun e => by simp [newF] at e⟩

/-- The model's cells. -/
def MC (i t v r l c : Int) (x y z : Bool) : Array Value := #[.int .i64 i, .int .i64 t, .int .i64 v, .int .i64 r, .int .i64 l, .int .i64 c, .bool x, .bool y, .bool z]
theorem MC.p1 (i t v r l c : Int) (x y z : Bool) (n : Int) : putArr (MC i t v r l c x y z) 1 [.int .i64 n] = MC i n v r l c x y z := rfl
theorem MC.p2 (i t v r l c : Int) (x y z : Bool) (n : Int) : putArr (MC i t v r l c x y z) 2 [.int .i64 n] = MC i t n r l c x y z := rfl
theorem MC.p3 (i t v r l c : Int) (x y z : Bool) (n : Int) : putArr (MC i t v r l c x y z) 3 [.int .i64 n] = MC i t v n l c x y z := rfl
theorem MC.p4 (i t v r l c : Int) (x y z : Bool) (n : Int) : putArr (MC i t v r l c x y z) 4 [.int .i64 n] = MC i t v r n c x y z := rfl
theorem MC.p5 (i t v r l c : Int) (x y z : Bool) (n : Int) : putArr (MC i t v r l c x y z) 5 [.int .i64 n] = MC i t v r l n x y z := rfl
theorem MC.p6 (i t v r l c : Int) (x y z : Bool) : putArr (MC i t v r l c x y z) 6 [.bool false, .bool false, .bool false] = MC i t v r l c false false false := rfl
theorem MC.b0 (i t v r l c : Int) (x y z : Bool) : putArr (MC i t v r l c x y z) 6 [.bool true] = MC i t v r l c true y z := rfl
theorem MC.b1 (i t v r l c : Int) (x y z : Bool) : putArr (MC i t v r l c x y z) 7 [.bool true] = MC i t v r l c x true z := rfl
theorem MC.b2 (i t v r l c : Int) (x y z : Bool) : putArr (MC i t v r l c x y z) 8 [.bool true] = MC i t v r l c x y true := rfl
theorem MC.size (i t v r l c : Int) (x y z : Bool) : (MC i t v r l c x y z).size = 9 := rfl
theorem ModAt.mc {w : World} {p : Nat} {s : ES} (h : ModAt w p s) : Own w p (MC s.id s.term s.vote s.role s.leader s.clock (s.m.testBit 0) (s.m.testBit 1) (s.m.testBit 2)) T_electm_Elect := h
/-- One field of the model stored. -/
theorem stM {w : World} {p o : Nat} {i t v r l c : Int} {x y z : Bool} {vs : List Value} {c' : Array Value} {K : World → Prop} (h : Own w p (MC i t v r l c x y z) T_electm_Elect) (e : putArr (MC i t v r l c x y z) o vs = c') (hl : o + vs.length ≤ 9) (h1 : vs.all Value.oneCell' = true)
    (hK : ∀ w', w'.heap.size = w.heap.size → Own w' p c' T_electm_Elect → Ext [p] w w' → K w') : Sts vs ⟨p, o, none⟩ 0 w K :=
  Sts.mk h (by rw [MC.size]; exact hl) h1 fun w' hs ho he => hK w' hs (e ▸ ho) he
theorem ModAt.zero {w : World} {p : Nat} {i t v r l c : Int} (h : Own w p #[.int .i64 i, .int .i64 t, .int .i64 v, .int .i64 r, .int .i64 l, .int .i64 c, .bool false, .bool false, .bool false] T_electm_Elect) : ModAt w p ⟨i, t, v, r, l, c, 0⟩ := by
  unfold ModAt
  simpa using h

/-! ### New -/
theorem realNew_ok {w : World} {i : Int} {R : Option Addr → World → Prop} (hR : ∀ p w', w.heap.size ≤ p → RealAt w' p (newF i) → Ext [] w w' → R (some ⟨p, 0, none⟩) w') : elect_New.Call i w R := by
  have b2 : ∀ j : Int, 0 ≤ j ∧ j < 3 → (newF i).id = j → elect_New.B2 j w R := fun j hj e => by
    unfold elect_New.B2
    refine New.mk fun p w1 hp hs ho he => put_ok (i := j) (t := 0) (x := 0) (m := 0) (n := 0) (d := 0) ho (by omega) (by omega) (by omega) fun w2 hs2 ho2 he2 => wind_ok ho2 hj fun w3 hs3 ho3 he3 => hR p w3 (by omega) ?_ (he.trans' (he2.trans he3) (fun x hx hlt => by simp at hx; omega))
    unfold RealAt
    rw [e]
    exact ho3
  apply elect_New.sound
  unfold elect_New.B0
  refine Bm.ite (fun h => ?_) (fun h => ?_)
  · unfold elect_New.B1
    exact Bm.pos rfl (b2 0 (by omega) (by unfold newF; simp only; rw [if_pos (.inl h)]))
  · unfold elect_New.B1
    refine Bm.ite (fun h2 => b2 0 (by omega) (by unfold newF; simp only; rw [if_pos (.inr h2)])) (fun h2 => b2 i (by omega) (by unfold newF; simp only; rw [if_neg (by omega)]))
theorem modNew_ok {w : World} {i : Int} {R : Option Addr → World → Prop} (hR : ∀ p w', w.heap.size ≤ p → ModAt w' p (newF i) → Ext [] w w' → R (some ⟨p, 0, none⟩) w') : electm_New.Call i w R := by
  have b2 : ∀ j : Int, (newF i).id = j → electm_New.B2 j w R := fun j e => by
    unfold electm_New.B2
    refine New.mk fun p w1 hp hs ho he => hR p w1 (by omega) ?_ he
    have e2 : newF i = ⟨j, 0, -1, 0, -1, 0, 0⟩ := by
      rw [← e]
      rfl
    rw [e2]
    exact ModAt.zero ho
  apply electm_New.sound
  unfold electm_New.B0
  refine Bm.ite (fun h => ?_) (fun h => ?_)
  · unfold electm_New.B1
    exact Bm.pos rfl (b2 0 (by unfold newF; simp only; rw [if_pos (.inl h)]))
  · unfold electm_New.B1
    refine Bm.ite (fun h2 => b2 0 (by unfold newF; simp only; rw [if_pos (.inr h2)])) (fun h2 => b2 i (by unfold newF; simp only; rw [if_neg (by omega)]))

/-! ### See -/
theorem seeB_false {s : ES} {t : Int} (h : t ≤ s.term ∨ 72057594037927936 < t) : seeB s t = false := by
  simp only [seeB]
  rcases h with h | h
  · rw [decide_eq_true h]; rfl
  · rw [decide_eq_true h, Bool.or_true]; rfl
theorem seeB_true {s : ES} {t : Int} (h : ¬ (t ≤ s.term ∨ 72057594037927936 < t)) : seeB s t = true := by
  simp only [seeB]
  rw [decide_eq_false (fun q => h (.inl q)), decide_eq_false (fun q => h (.inr q))]
  rfl
theorem realSee_ok {w : World} {p : Nat} {s : ES} {t : Int} {R : Bool → World → Prop} (h : RealAt w p s) (hw : s.Wf) (hR : ∀ w', RealAt w' p (seeF s t) → Ext [p] w w' → R (seeB s t) w') : elect_Elect_See.Call (some ⟨p, 0, none⟩) t w R := by
  apply elect_Elect_See.sound
  unfold elect_Elect_See.B0
  simp only [Pn, add_mk, Nat.zero_add]
  have no : (t ≤ s.term ∨ 72057594037927936 < t) → R false w := fun hh => by
    have e := seeB_false hh
    have q := hR w (by unfold seeF; rw [e, if_neg (by simp)]; exact h) (Ext.refl _ _)
    rwa [e] at q
  refine LdI.mk h rfl (Bm.ite (fun h1 => ?_) (fun h1 => ?_))
  · unfold elect_Elect_See.B1
    exact Bm.pos rfl (no (.inl h1))
  unfold elect_Elect_See.B1
  refine Bm.ite (fun h2 => no (.inr h2)) (fun h2 => ?_)
  have e := seeB_true (s := s) (t := t) (by omega)
  unfold seeF at hR
  rw [e, if_pos rfl] at hR
  have hr := hw.role
  refine raw_role h hw.role hw.vote hw.leader (turn_ok ?_)
  have et : turnF s.role 1 = 0 := by
    unfold turnF
    have : s.role = 0 ∨ s.role = 1 ∨ s.role = 2 := by omega
    rcases this with q | q | q <;> simp [q]
  rw [et]
  simp only [Pn, add_mk, Nat.zero_add]
  refine Sts.mk h (by simp) rfl fun w1 hs1 ho1 he1 => Sts.mk ho1 (by simp [size_putArr]) rfl fun w2 hs2 ho2 he2 => ?_
  refine put_ok (i := s.id) (t := t) (x := word s.role s.vote s.leader) (m := 0) (n := s.clock) (d := 3 + 2 * s.id) ho2 (by omega) (by omega) (by omega) fun w3 hs3 ho3 he3 => hR w3 ho3 ((he1.trans he2).trans he3)
theorem modSee_ok {w : World} {p : Nat} {s : ES} {t : Int} {R : Bool → World → Prop} (h : ModAt w p s) (hR : ∀ w', ModAt w' p (seeF s t) → Ext [p] w w' → R (seeB s t) w') : electm_Elect_See.Call (some ⟨p, 0, none⟩) t w R := by
  apply electm_Elect_See.sound
  unfold electm_Elect_See.B0
  simp only [Pn, add_mk, Nat.zero_add]
  have no : (t ≤ s.term ∨ 72057594037927936 < t) → R false w := fun hh => by
    have e := seeB_false hh
    have q := hR w (by unfold seeF; rw [e, if_neg (by simp)]; exact h) (Ext.refl _ _)
    rwa [e] at q
  refine LdI.mk h rfl (Bm.ite (fun h1 => ?_) (fun h1 => ?_))
  · unfold electm_Elect_See.B1
    exact Bm.pos rfl (no (.inl h1))
  unfold electm_Elect_See.B1
  refine Bm.ite (fun h2 => no (.inr h2)) (fun h2 => ?_)
  have e := seeB_true (s := s) (t := t) (by omega)
  unfold seeF at hR
  rw [e, if_pos rfl] at hR
  simp only [Pn, add_mk, Nat.zero_add]
  refine stM h.mc (MC.p1 ..) (by simp) rfl fun w1 hs1 ho1 he1 => stM ho1 (MC.p2 ..) (by simp) rfl fun w2 hs2 ho2 he2 => stM ho2 (MC.p3 ..) (by simp) rfl fun w3 hs3 ho3 he3 => stM ho3 (MC.p4 ..) (by simp) rfl fun w4 hs4 ho4 he4 => stM ho4 (MC.p6 ..) (by simp) rfl fun w5 hs5 ho5 he5 => hR w5 (ModAt.zero ho5) ((((he1.trans he2).trans he3).trans he4).trans he5)

/-! ### peers -/
theorem realPeer_ok {w : World} {p : Nat} {s : ES} {f : Int} {R : Bool → World → Prop} (h : RealAt w p s) (hR : R (peerB s f) w) : elect_Elect_peer.Call (some ⟨p, 0, none⟩) f w R := by
  apply elect_Elect_peer.sound
  unfold elect_Elect_peer.B0
  unfold peerB at hR
  refine Bm.ite (fun h0 => Bm.ite (fun h1 => Pn.mk (LdI.mk h rfl ?_)) (fun h1 => ?_)) (fun h0 => ?_)
  · rw [decide_eq_true (show 0 ≤ f by omega), decide_eq_true h1] at hR
    have e : (f != s.id) = (true && true && decide (f ≠ s.id)) := by
      by_cases q : f = s.id <;> simp [q]
    rw [e]
    exact hR
  · rw [decide_eq_false h1] at hR
    simpa using hR
  · rw [decide_eq_false (show ¬ 0 ≤ f by omega)] at hR
    simpa using hR
theorem modPeer_ok {w : World} {p : Nat} {s : ES} {f : Int} {R : Bool → World → Prop} (h : ModAt w p s) (hR : R (peerB s f) w) : electm_Elect_peer.Call (some ⟨p, 0, none⟩) f w R := by
  apply electm_Elect_peer.sound
  unfold electm_Elect_peer.B0
  unfold peerB at hR
  refine Bm.ite (fun h0 => Bm.ite (fun h1 => Pn.mk (LdI.mk h rfl ?_)) (fun h1 => ?_)) (fun h0 => ?_)
  · rw [decide_eq_true (show 0 ≤ f by omega), decide_eq_true h1] at hR
    have e : (f != s.id) = (true && true && decide (f ≠ s.id)) := by
      by_cases q : f = s.id <;> simp [q]
    rw [e]
    exact hR
  · rw [decide_eq_false h1] at hR
    simpa using hR
  · rw [decide_eq_false (show ¬ 0 ≤ f by omega)] at hR
    simpa using hR
end Go.Proofs.Qxb6500430aGreat.El
