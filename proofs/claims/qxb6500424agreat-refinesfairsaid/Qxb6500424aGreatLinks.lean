/-
  frame.Link and framem.Link: their state, New, the observers, Encode, Decode.
-/
import Derived.Test.Qxb6500424aGreatSums
set_option linter.unusedVariables false
open Go.Vc
namespace Go.Proofs.Qxb6500424aGreat.Fm

structure LinkS where
  addr : Int
  out : Int
  inn : Int
  bad : Int
  other : Int
structure LinkS.Wf (s : LinkS) (n : Int) : Prop where
  addr : 0 ≤ s.addr ∧ s.addr < 256
  out : 0 ≤ s.out ∧ s.out ≤ n
  inn : 0 ≤ s.inn ∧ s.inn ≤ n
  bad : 0 ≤ s.bad ∧ s.bad ≤ n
  other : 0 ≤ s.other ∧ s.other ≤ n
theorem LinkS.Wf.mono {s : LinkS} {n m : Int} (h : s.Wf n) (hm : n ≤ m) : s.Wf m := ⟨h.addr, ⟨h.out.1, by have := h.out; omega⟩, ⟨h.inn.1, by have := h.inn; omega⟩, ⟨h.bad.1, by have := h.bad; omega⟩, ⟨h.other.1, by have := h.other; omega⟩⟩
def RealAt (w : World) (p : Nat) (s : LinkS) : Prop := Own w p #[.int .u8 s.addr, .int .i64 s.out, .int .i64 s.inn, .int .i64 s.bad, .int .i64 s.other, .int .i64 (s.out + s.inn + s.bad + s.other)] T_frame_Link
def LinkS.bump (s : LinkS) (c : Int) : LinkS :=
  if c = 0 then { s with out := s.out + 1 } else if c = 1 then { s with inn := s.inn + 1 } else if c = 2 then { s with bad := s.bad + 1 } else { s with other := s.other + 1 }
theorem LinkS.bump_addr (s : LinkS) (c : Int) : (s.bump c).addr = s.addr := by unfold LinkS.bump; split; rfl; split; rfl; split <;> rfl
theorem LinkS.Wf.bump {s : LinkS} {n : Int} (h : s.Wf n) (c : Int) : (s.bump c).Wf (n + 1) := by
  obtain ⟨h1, h2, h3, h4, h5⟩ := h
  unfold LinkS.bump
  split
  · exact ⟨h1, by show 0 ≤ s.out + 1 ∧ s.out + 1 ≤ n + 1; omega, by show 0 ≤ s.inn ∧ s.inn ≤ n + 1; omega, by show 0 ≤ s.bad ∧ s.bad ≤ n + 1; omega, by show 0 ≤ s.other ∧ s.other ≤ n + 1; omega⟩
  split
  · exact ⟨h1, by show 0 ≤ s.out ∧ s.out ≤ n + 1; omega, by show 0 ≤ s.inn + 1 ∧ s.inn + 1 ≤ n + 1; omega, by show 0 ≤ s.bad ∧ s.bad ≤ n + 1; omega, by show 0 ≤ s.other ∧ s.other ≤ n + 1; omega⟩
  split
  · exact ⟨h1, by show 0 ≤ s.out ∧ s.out ≤ n + 1; omega, by show 0 ≤ s.inn ∧ s.inn ≤ n + 1; omega, by show 0 ≤ s.bad + 1 ∧ s.bad + 1 ≤ n + 1; omega, by show 0 ≤ s.other ∧ s.other ≤ n + 1; omega⟩
  · exact ⟨h1, by show 0 ≤ s.out ∧ s.out ≤ n + 1; omega, by show 0 ≤ s.inn ∧ s.inn ≤ n + 1; omega, by show 0 ≤ s.bad ∧ s.bad ≤ n + 1; omega, by show 0 ≤ s.other + 1 ∧ s.other + 1 ≤ n + 1; omega⟩

/-! ### New -/
def lowByte (a : Int) : Int := IntKind.i64.wrap (BitVec.ofInt IntKind.i64.bits a &&& BitVec.ofInt IntKind.i64.bits (255 : Int)).toNat
theorem lowByte_lt (a : Int) : 0 ≤ lowByte a ∧ lowByte a < 256 := by
  have h1 : (BitVec.ofInt IntKind.i64.bits a &&& BitVec.ofInt IntKind.i64.bits (255 : Int)).toNat < 256 := by
    rw [BitVec.toNat_and]
    have e : (BitVec.ofInt IntKind.i64.bits (255 : Int)).toNat = 255 := by decide
    rw [e]
    exact Nat.lt_succ_of_le Nat.and_le_right
  unfold lowByte
  rw [w64 (by omega) (by omega)]
  omega
def freshLink (a : Int) : LinkS := ⟨lowByte a, 0, 0, 0, 0⟩
theorem freshLink_wf (a : Int) : (freshLink a).Wf 0 := ⟨lowByte_lt a, by simp [freshLink], by simp [freshLink], by simp [freshLink], by simp [freshLink]⟩
theorem frameNew_ok {w : World} {a : Int} {R : Option Addr → World → Prop} (hR : ∀ p w', p = w.heap.size → w'.heap.size = p + 1 → RealAt w' p (freshLink a) → Ext [] w w' → R (some ⟨p, 0, none⟩) w') : frame_New.Call a w R := by
  apply frame_New.sound
  unfold frame_New.B0
  refine New.mk fun p w1 hp hs ho he => hR p w1 hp hs ?_ he
  unfold RealAt
  have e : IntKind.u8.wrap (IntKind.i64.wrap (BitVec.ofInt IntKind.i64.bits a &&& BitVec.ofInt IntKind.i64.bits (255 : Int)).toNat) = lowByte a := wrap8_id (lowByte_lt a).1 (lowByte_lt a).2
  rw [e] at ho
  exact ho
/-! ### observers -/
theorem realAddr_ok {w : World} {p : Nat} {s : LinkS} {n : Int} {R : Int → World → Prop} (h : RealAt w p s) (hw : s.Wf n) (hR : R s.addr w) : frame_Link_Addr.Call (some ⟨p, 0, none⟩) w R := by
  apply frame_Link_Addr.sound
  unfold frame_Link_Addr.B0
  refine Pn.mk (LdI.mk h rfl ?_)
  rw [w64b hw.addr]
  exact hR
def LinkS.cnt (s : LinkS) (c : Nat) : Int := if c = 0 then s.out else if c = 1 then s.inn else if c = 2 then s.bad else s.other
def LinkS.upto (s : LinkS) (c : Nat) : Int := if c = 0 then 0 else if c = 1 then s.out else if c = 2 then s.out + s.inn else if c = 3 then s.out + s.inn + s.bad else s.out + s.inn + s.bad + s.other
theorem RealAt.cnt {w : World} {p : Nat} {s : LinkS} (h : RealAt w p s) {c : Nat} (hc : c < 4) : w.cell? ⟨p, 1 + c, none⟩ = some (.int .i64 (s.cnt c)) := by
  match c, hc with
  | 0, _ => exact h.cell rfl
  | 1, _ => exact h.cell rfl
  | 2, _ => exact h.cell rfl
  | 3, _ => exact h.cell rfl
/-! ### count -/
theorem count_ok {w : World} {p : Nat} {s : LinkS} {n : Int} {c : Int} {R : World → Prop} (h : RealAt w p s) (hw : s.Wf n) (hn : n ≤ 1152921504606846976) (hc : c = 0 ∨ c = 1 ∨ c = 2 ∨ c = 3)
    (hR : ∀ w', w'.heap.size = w.heap.size → RealAt w' p (s.bump c) → Ext [p] w w' → R w') : frame_Link_count.Call (some ⟨p, 0, none⟩) c w R := by
  apply frame_Link_count.sound
  unfold frame_Link_count.B0
  simp only [Pn, add_mk, Nat.zero_add]
  obtain ⟨_, h1, h2, h3, h4⟩ := hw
  have hd := Own.drew h
  rcases hc with rfl | rfl | rfl | rfl
  all_goals
    refine ⟨by omega, LdI.mk hd rfl ⟨by omega, Sts.mk hd (by simp) rfl fun w1 hs1 ho1 he1 => LdI.mk ho1 rfl (Sts.mk ho1 (by simp [size_putArr]) rfl fun w2 hs2 ho2 he2 => hR w2 (by rw [hs2]; exact hs1) ?_ ((Ext.drew _ _).trans (he1.trans he2)))⟩⟩
    unfold RealAt
    rw [w64 (by omega) (by omega), w64 (by omega) (by omega)] at ho2
    first
    | (have e : s.out + s.inn + s.bad + s.other + 1 = (s.out + 1) + s.inn + s.bad + s.other := by omega
       rw [e] at ho2
       exact ho2)
    | (have e : s.out + s.inn + s.bad + s.other + 1 = s.out + (s.inn + 1) + s.bad + s.other := by omega
       rw [e] at ho2
       exact ho2)
    | (have e : s.out + s.inn + s.bad + s.other + 1 = s.out + s.inn + (s.bad + 1) + s.other := by omega
       rw [e] at ho2
       exact ho2)
    | (have e : s.out + s.inn + s.bad + s.other + 1 = s.out + s.inn + s.bad + (s.other + 1) := by omega
       rw [e] at ho2
       exact ho2)
end Go.Proofs.Qxb6500424aGreat.Fm
