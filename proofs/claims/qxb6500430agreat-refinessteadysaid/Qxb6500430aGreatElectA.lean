/-
  elect: the state of both sides, the packed word, the mask, and the small functions.
-/
import Derived.Test.Qxb6500430aGreatFs
import Derived.Test.Qxb6500430aGreatVcE
set_option linter.unusedVariables false
set_option linter.unusedSimpArgs false
open Go.Vc
namespace Go.Proofs.Qxb6500430aGreat.El

/-- The election's state, as both sides hold it. m: the mask of votes. -/
structure ES where
  id : Int
  term : Int
  vote : Int
  role : Int
  leader : Int
  clock : Int
  m : Nat
def pop (m : Nat) : Nat := m % 2 + m / 2 % 2 + m / 4 % 2
structure ES.Wf (s : ES) : Prop where
  id : 0 ≤ s.id ∧ s.id < 3
  term : 0 ≤ s.term ∧ s.term ≤ 72057594037927936
  vote : -1 ≤ s.vote ∧ s.vote < 3
  role : 0 ≤ s.role ∧ s.role < 3
  leader : -1 ≤ s.leader ∧ s.leader < 3
  clock : 0 ≤ s.clock ∧ s.clock < 3 + 2 * s.id
  m : s.m < 8
  fol : s.role = 0 → s.m = 0
  cand : s.role = 1 → s.vote = s.id ∧ s.m.testBit s.id.toNat = true ∧ s.leader = -1 ∧ pop s.m < 2
  lead : s.role = 2 → s.vote = s.id ∧ s.m.testBit s.id.toNat = true ∧ s.leader = s.id ∧ 2 ≤ pop s.m ∧ s.clock = 0
def word (r v l : Int) : Int := r + 4 * (v + 1) + 16 * (l + 1)
def RealAt (w : World) (p : Nat) (s : ES) : Prop := Own w p #[.int .i64 s.id, .int .i64 s.term, .int .i64 (word s.role s.vote s.leader), .int .i64 s.m, .int .i64 s.clock, .int .i64 (3 + 2 * s.id)] T_elect_Elect
def ModAt (w : World) (p : Nat) (s : ES) : Prop := Own w p #[.int .i64 s.id, .int .i64 s.term, .int .i64 s.vote, .int .i64 s.role, .int .i64 s.leader, .int .i64 s.clock, .bool (s.m.testBit 0), .bool (s.m.testBit 1), .bool (s.m.testBit 2)] T_electm_Elect

/-! ### bits -/
def packW (role vote leader : Int) : Int := IntKind.i64.wrap (BitVec.ofInt IntKind.i64.bits (IntKind.i64.wrap (BitVec.ofInt IntKind.i64.bits role ||| BitVec.ofInt IntKind.i64.bits (IntKind.i64.wrap ((IntKind.i64.wrap (vote + (1 : Int))) * 2 ^ (min (2 : Int).toNat IntKind.i64.bits)))).toNat) ||| BitVec.ofInt IntKind.i64.bits (IntKind.i64.wrap ((IntKind.i64.wrap (leader + (1 : Int))) * 2 ^ (min (4 : Int).toNat IntKind.i64.bits)))).toNat
def roleW (x : Int) : Int := IntKind.i64.wrap (BitVec.ofInt IntKind.i64.bits x &&& BitVec.ofInt IntKind.i64.bits (3 : Int)).toNat
def voteW (x : Int) : Int := IntKind.i64.wrap ((IntKind.i64.wrap (BitVec.ofInt IntKind.i64.bits (x.fdiv (2 ^ (min (2 : Int).toNat IntKind.i64.bits))) &&& BitVec.ofInt IntKind.i64.bits (3 : Int)).toNat) - (1 : Int))
def leadW (x : Int) : Int := IntKind.i64.wrap ((IntKind.i64.wrap (BitVec.ofInt IntKind.i64.bits (x.fdiv (2 ^ (min (4 : Int).toNat IntKind.i64.bits))) &&& BitVec.ofInt IntKind.i64.bits (3 : Int)).toNat) - (1 : Int))
def orW (x y : Int) : Int := IntKind.i64.wrap (BitVec.ofInt IntKind.i64.bits x ||| BitVec.ofInt IntKind.i64.bits y).toNat
def andW (x y : Int) : Int := IntKind.i64.wrap (BitVec.ofInt IntKind.i64.bits x &&& BitVec.ofInt IntKind.i64.bits y).toNat
theorem words_all : ∀ r : Fin 3, ∀ v : Fin 4, ∀ l : Fin 4, packW (r.val : Int) ((v.val : Int) - 1) ((l.val : Int) - 1) = word (r.val : Int) ((v.val : Int) - 1) ((l.val : Int) - 1) ∧
    roleW (word (r.val : Int) ((v.val : Int) - 1) ((l.val : Int) - 1)) = (r.val : Int) ∧ voteW (word (r.val : Int) ((v.val : Int) - 1) ((l.val : Int) - 1)) = (v.val : Int) - 1 ∧ leadW (word (r.val : Int) ((v.val : Int) - 1) ((l.val : Int) - 1)) = (l.val : Int) - 1 := by decide +kernel
theorem words {r v l : Int} (hr : 0 ≤ r ∧ r < 3) (hv : -1 ≤ v ∧ v < 3) (hl : -1 ≤ l ∧ l < 3) : packW r v l = word r v l ∧ roleW (word r v l) = r ∧ voteW (word r v l) = v ∧ leadW (word r v l) = l := by
  have h := words_all ⟨r.toNat, by omega⟩ ⟨(v + 1).toNat, by omega⟩ ⟨(l + 1).toNat, by omega⟩
  have e1 : ((r.toNat : Nat) : Int) = r := by omega
  have e2 : (((v + 1).toNat : Nat) : Int) - 1 = v := by omega
  have e3 : (((l + 1).toNat : Nat) : Int) - 1 = l := by omega
  simp only [e1, e2, e3] at h
  exact h
theorem masks_all : ∀ m : Fin 8, ∀ p : Fin 3, orW (m.val : Int) (2 ^ p.val : Nat) = ((m.val ||| 2 ^ p.val : Nat) : Int) ∧ (andW (m.val : Int) (2 ^ p.val : Nat) != 0) = m.val.testBit p.val ∧ (m.val ||| 2 ^ p.val) < 8 := by decide +kernel
theorem masks {m : Nat} {p : Int} (hm : m < 8) (hp : 0 ≤ p ∧ p < 3) : orW (m : Int) (2 ^ p.toNat : Nat) = ((m ||| 2 ^ p.toNat : Nat) : Int) ∧ (andW (m : Int) (2 ^ p.toNat : Nat) != 0) = m.testBit p.toNat ∧ (m ||| 2 ^ p.toNat) < 8 :=
  masks_all ⟨m, hm⟩ ⟨p.toNat, by omega⟩
theorem pops_all : ∀ m : Fin 8, IntKind.i64.wrap (BitVec.ofInt IntKind.i64.bits (m.val : Int) &&& BitVec.ofInt IntKind.i64.bits (1 : Int)).toNat + (pop (m.val / 2) : Int) = (pop m.val : Int) ∧ (m.val : Int).fdiv (2 ^ (min (1 : Int).toNat IntKind.i64.bits)) = ((m.val / 2 : Nat) : Int) ∧ 0 ≤ IntKind.i64.wrap (BitVec.ofInt IntKind.i64.bits (m.val : Int) &&& BitVec.ofInt IntKind.i64.bits (1 : Int)).toNat ∧ pop m.val ≤ 3 := by decide +kernel
theorem pops {m : Nat} (hm : m < 8) : IntKind.i64.wrap (BitVec.ofInt IntKind.i64.bits (m : Int) &&& BitVec.ofInt IntKind.i64.bits (1 : Int)).toNat + (pop (m / 2) : Int) = (pop m : Int) ∧ (m : Int).fdiv (2 ^ (min (1 : Int).toNat IntKind.i64.bits)) = ((m / 2 : Nat) : Int) ∧ 0 ≤ IntKind.i64.wrap (BitVec.ofInt IntKind.i64.bits (m : Int) &&& BitVec.ofInt IntKind.i64.bits (1 : Int)).toNat ∧ pop m ≤ 3 := pops_all ⟨m, hm⟩

/-! ### small functions -/
theorem timeout_ok {w : World} {i : Int} {R : Int → World → Prop} (h : 0 ≤ i ∧ i < 3) (hR : R (3 + 2 * i) w) : api_Timeout.Call i w R := by
  apply api_Timeout.sound
  unfold api_Timeout.B0
  refine Bm.neg (decide_eq_false (by omega)) ?_
  unfold api_Timeout.B1
  refine Bm.neg (decide_eq_false (by omega)) ?_
  rw [w64 (x := 2 * i) (by omega) (by omega), w64 (by omega) (by omega)]
  exact hR
theorem bit_ok {w : World} {p : Int} {R : Int → World → Prop} (h : 0 ≤ p ∧ p < 4) (hR : R ((2 ^ p.toNat : Nat) : Int) w) : elect_bit.Call p w R := by
  apply elect_bit.sound
  unfold elect_bit.B0 elect_bit.L1
  refine ⟨fun m p' b i w' => p = p' ∧ w = w' ∧ 0 ≤ i ∧ i ≤ p ∧ m = (p - i).toNat ∧ b = ((2 ^ i.toNat : Nat) : Int), p.toNat, ⟨rfl, rfl, by omega, by omega, by simp, rfl⟩, ?_⟩
  rintro m p' b i w' ⟨rfl, rfl, h0, h1, rfl, rfl⟩
  unfold elect_bit.L1b
  refine Bm.ite (fun hi => ⟨by omega, ?_⟩) (fun hi => ?_)
  · rw [w64 (x := i + 1) (by omega) (by omega)]
    refine ⟨(p - (i + 1)).toNat, by omega, rfl, rfl, by omega, by omega, rfl, ?_⟩
    have e : (i + 1).toNat = i.toNat + 1 := by omega
    rw [e]
    have hi3 : i.toNat < 3 := by omega
    generalize i.toNat = q at hi3
    match q, hi3 with
    | 0, _ => decide
    | 1, _ => decide
    | 2, _ => decide
  · have : i = p := by omega
    subst this
    exact hR
theorem count_ok {w : World} {m : Nat} {R : Int → World → Prop} (h : m < 8) (hR : R (pop m : Int) w) : elect_count.Call (m : Int) w R := by
  apply elect_count.sound
  unfold elect_count.B0 elect_count.L1
  refine ⟨fun k n w0 w' => w = w' ∧ ∃ q : Nat, w0 = (q : Int) ∧ q < 8 ∧ k = q ∧ 0 ≤ n ∧ n + (pop q : Int) = (pop m : Int), m, ⟨rfl, m, rfl, h, rfl, by omega, by omega⟩, ?_⟩
  rintro k n w0 w' ⟨rfl, q, rfl, hq, hk, hn, hp⟩
  unfold elect_count.L1b
  obtain ⟨p1, p2, p3, p4⟩ := pops hq
  have p5 := (pops h).2.2.2
  refine Bm.ite (fun hi => ⟨by omega, ?_⟩) (fun hi => ?_)
  · rw [p2, w64 (by omega) (by omega)]
    exact ⟨q / 2, by omega, rfl, q / 2, rfl, by omega, rfl, by omega, by omega⟩
  · have : q = 0 := by omega
    subst this
    have e : n = (pop m : Int) := by
      have : pop 0 = 0 := rfl
      omega
    rw [e]
    exact hR
/-- The transition as a plain function. -/
def turnF (role ev : Int) : Int :=
  if role = 0 then (if ev = 0 then 1 else if ev = 1 ∨ ev = 4 then 0 else -1)
  else if role = 1 then (if ev = 0 ∨ ev = 2 then 1 else if ev = 1 ∨ ev = 4 then 0 else if ev = 3 then 2 else -1)
  else if role = 2 then (if ev = 1 then 0 else -1) else -1
theorem turn_ok {w : World} {role ev : Int} {R : Int → World → Prop} (hR : R (turnF role ev) w) : elect_turn.Call role ev w R := by
  apply elect_turn.sound
  unfold elect_turn.B0
  unfold turnF at hR
  refine Bm.mk (fun h => ?_) (fun h => ?_)
  · rw [if_pos (by simpa using h)] at hR
    refine Bm.mk (fun h => ?_) (fun h => ?_)
    · rwa [if_pos (by simpa using h)] at hR
    rw [if_neg (by simpa using h)] at hR
    refine Bm.mk (fun h => ?_) (fun h => ?_)
    · unfold elect_turn.B1
      rw [if_pos (.inl (by simpa using h))] at hR
      exact Bm.pos h hR
    · unfold elect_turn.B1
      have h1 : ev ≠ 1 := by simpa using h
      refine Bm.mk (fun h => ?_) (fun h => ?_)
      · rwa [if_pos (.inr (by simpa using h))] at hR
      · have h4 : ev ≠ 4 := by simpa using h
        rwa [if_neg (by omega)] at hR
  rw [if_neg (by simpa using h)] at hR
  refine Bm.mk (fun h => ?_) (fun h => ?_)
  · rw [if_pos (by simpa using h)] at hR
    have b3 : ev ≠ 0 → ev ≠ 2 → Bm (ev == 1) (elect_turn.B3 ev (ev == 1) w R) (elect_turn.B3 ev (ev == 4) w R) := fun h0 h2 => by
      rw [if_neg (by omega)] at hR
      refine Bm.mk (fun h => ?_) (fun h => ?_)
      · unfold elect_turn.B3
        rw [if_pos (.inl (by simpa using h))] at hR
        exact Bm.pos h hR
      · have h1 : ev ≠ 1 := by simpa using h
        unfold elect_turn.B3
        refine Bm.mk (fun h => ?_) (fun h => ?_)
        · rwa [if_pos (.inr (by simpa using h))] at hR
        have h4 : ev ≠ 4 := by simpa using h
        rw [if_neg (by omega)] at hR
        refine Bm.mk (fun h => ?_) (fun h => ?_)
        · rwa [if_pos (by simpa using h)] at hR
        · rwa [if_neg (by simpa using h)] at hR
    refine Bm.mk (fun h => ?_) (fun h => ?_)
    · unfold elect_turn.B2
      rw [if_pos (.inl (by simpa using h))] at hR
      exact Bm.pos h hR
    · have h0 : ev ≠ 0 := by simpa using h
      unfold elect_turn.B2
      refine Bm.mk (fun h => ?_) (fun h => ?_)
      · rwa [if_pos (.inr (by simpa using h))] at hR
      · exact b3 h0 (by simpa using h)
  rw [if_neg (by simpa using h)] at hR
  refine Bm.mk (fun h => ?_) (fun h => ?_)
  · rw [if_pos (by simpa using h)] at hR
    refine Bm.mk (fun h => ?_) (fun h => ?_)
    · rwa [if_pos (by simpa using h)] at hR
    · rwa [if_neg (by simpa using h)] at hR
  · rwa [if_neg (by simpa using h)] at hR

/-- A real block whose cells need not yet fit: id, term, word, mask, now, due. -/
def Raw (w : World) (p : Nat) (i t x m n d : Int) : Prop := Own w p #[.int .i64 i, .int .i64 t, .int .i64 x, .int .i64 m, .int .i64 n, .int .i64 d] T_elect_Elect
theorem put_ok {w : World} {p : Nat} {i t x m n d role vote leader : Int} {R : World → Prop} (h : Raw w p i t x m n d) (hr : 0 ≤ role ∧ role < 3) (hv : -1 ≤ vote ∧ vote < 3) (hl : -1 ≤ leader ∧ leader < 3)
    (hR : ∀ w', w'.heap.size = w.heap.size → Raw w' p i t (word role vote leader) m n d → Ext [p] w w' → R w') : elect_Elect_put.Call (some ⟨p, 0, none⟩) role vote leader w R := by
  apply elect_Elect_put.sound
  unfold elect_Elect_put.B0
  simp only [Pn, add_mk, Nat.zero_add]
  refine ⟨by omega, by omega, Sts.mk h (by simp) rfl fun w1 hs ho he => hR w1 hs ?_ he⟩
  have e := (words hr hv hl).1
  unfold Raw
  rw [← e]
  exact ho
theorem wind_ok {w : World} {p : Nat} {i t x m n d : Int} {R : World → Prop} (h : Raw w p i t x m n d) (hi : 0 ≤ i ∧ i < 3)
    (hR : ∀ w', w'.heap.size = w.heap.size → Raw w' p i t x m 0 (3 + 2 * i) → Ext [p] w w' → R w') : elect_Elect_wind.Call (some ⟨p, 0, none⟩) w R := by
  apply elect_Elect_wind.sound
  unfold elect_Elect_wind.B0
  simp only [Pn, add_mk, Nat.zero_add]
  refine LdI.mk h rfl (timeout_ok hi (Sts.mk h (by simp) rfl fun w1 hs1 ho1 he1 => Sts.mk ho1 (by simp [size_putArr]) rfl fun w2 hs2 ho2 he2 => hR w2 (by omega) ho2 (he1.trans he2)))
theorem raw_role {w : World} {p : Nat} {i t m n d r v l : Int} {R : Int → World → Prop} (h : Raw w p i t (word r v l) m n d) (hr : 0 ≤ r ∧ r < 3) (hv : -1 ≤ v ∧ v < 3) (hl : -1 ≤ l ∧ l < 3) (hR : R r w) : elect_Elect_Role.Call (some ⟨p, 0, none⟩) w R := by
  apply elect_Elect_Role.sound
  unfold elect_Elect_Role.B0
  simp only [Pn, add_mk, Nat.zero_add]
  refine LdI.mk h rfl ?_
  have e := (words hr hv hl).2.1
  unfold roleW at e
  rw [e]
  exact hR
theorem raw_vote {w : World} {p : Nat} {i t m n d r v l : Int} {R : Int → World → Prop} (h : Raw w p i t (word r v l) m n d) (hr : 0 ≤ r ∧ r < 3) (hv : -1 ≤ v ∧ v < 3) (hl : -1 ≤ l ∧ l < 3) (hR : R v w) : elect_Elect_Vote.Call (some ⟨p, 0, none⟩) w R := by
  apply elect_Elect_Vote.sound
  unfold elect_Elect_Vote.B0
  simp only [Pn, add_mk, Nat.zero_add]
  refine LdI.mk h rfl ⟨by omega, ?_⟩
  have e := (words hr hv hl).2.2.1
  unfold voteW at e
  rw [e]
  exact hR
theorem raw_leader {w : World} {p : Nat} {i t m n d r v l : Int} {R : Int → World → Prop} (h : Raw w p i t (word r v l) m n d) (hr : 0 ≤ r ∧ r < 3) (hv : -1 ≤ v ∧ v < 3) (hl : -1 ≤ l ∧ l < 3) (hR : R l w) : elect_Elect_Leader.Call (some ⟨p, 0, none⟩) w R := by
  apply elect_Elect_Leader.sound
  unfold elect_Elect_Leader.B0
  simp only [Pn, add_mk, Nat.zero_add]
  refine LdI.mk h rfl ⟨by omega, ?_⟩
  have e := (words hr hv hl).2.2.2
  unfold leadW at e
  rw [e]
  exact hR
end Go.Proofs.Qxb6500430aGreat.El
