/-
  ip: the real layer's Check, New and numbers.
-/
import Derived.Test.Qxb6500424aGreatIpN
set_option linter.unusedVariables false
set_option linter.unusedSimpArgs false
open Go.Vc
namespace Go.Proofs.Qxb6500424aGreat.Ip

def lowB (a : Int) : Int := IntKind.i64.wrap (BitVec.ofInt IntKind.i64.bits a &&& BitVec.ofInt IntKind.i64.bits (255 : Int)).toNat
theorem lowB_lt (a : Int) : 0 ≤ lowB a ∧ lowB a < 256 := by
  have h1 : (BitVec.ofInt IntKind.i64.bits a &&& BitVec.ofInt IntKind.i64.bits (255 : Int)).toNat < 256 := by
    have e2 : (BitVec.ofInt IntKind.i64.bits (255 : Int)).toNat = 255 := by decide
    rw [BitVec.toNat_and, e2]
    have e3 := Nat.and_two_pow_sub_one_eq_mod (BitVec.ofInt IntKind.i64.bits a).toNat 8
    have e4 : (2 : Nat) ^ 8 - 1 = 255 := by decide
    have e5 : (2 : Nat) ^ 8 = 256 := by decide
    rw [e4, e5] at e3
    rw [e3]
    omega
  unfold lowB
  rw [w64 (by omega) (by omega)]
  omega
def freshIP (a : Int) : IPS := ⟨lowB a, 0, 24, fun _ => ⟨false, 0, 0, 0, 0, fun _ => 0⟩⟩
theorem ipNew_ok {w : World} {a : Int} {R : Option Addr → World → Prop} (hR : ∀ p w', p = w.heap.size → w'.heap.size = p + 1 → RealAt w' p (freshIP a) → Ext [] w w' → R (some ⟨p, 0, none⟩) w') : ip_New.Call a w R := by
  apply ip_New.sound
  unfold ip_New.B0
  exact New.mk fun p w1 hp hs ho he => hR p w1 hp hs ho he
theorem fresh_rel (a : Int) : Rel [] (freshIP a) :=
  ⟨List.Perm.refl _, List.Pairwise.nil, fun i j _ _ _ hu => (by cases hu), fun i _ => ⟨by show 0 < 1099511627776; omega, fun k _ => ⟨Int.le_refl 0, by show (0 : Int) < 256; omega⟩⟩, fun r hr => by cases hr⟩

theorem realAddr_ok {w : World} {p : Nat} {S : IPS} {R : Int → World → Prop} (h : RealAt w p S) (hR : R S.addr w) : ip_IP_Addr.Call (some ⟨p, 0, none⟩) w R := by
  apply ip_IP_Addr.sound
  unfold ip_IP_Addr.B0
  exact Pn.mk (LdI.cell h.addr hR)
theorem any_none {h e : Nat} (hn : ∀ k, e ≤ k → k < 40 → h.testBit k = false) : (List.range 40).any (fun k => decide (e ≤ k) && h.testBit k) = false := by
  rw [List.any_eq_false]
  intro k hk hc
  simp only [Bool.and_eq_true, decide_eq_true_eq] at hc
  rw [hn k hc.1 (List.mem_range.1 hk)] at hc
  cases hc.2
structure NumWf (S : IPS) : Prop where
  addr : 0 ≤ S.addr ∧ S.addr < 256
  next : 0 ≤ S.next ∧ S.next < 256
  credit : 0 ≤ S.credit ∧ S.credit ≤ 24
theorem fresh_num (a : Int) : NumWf (freshIP a) := ⟨lowB_lt a, by simp [freshIP], by simp [freshIP]⟩
end Go.Proofs.Qxb6500424aGreat.Ip
