/-
  ip: the real layer's Check, New and numbers.
-/
import Derived.Test.Qxb6500425aIpQ
set_option linter.unusedVariables false
set_option linter.unusedSimpArgs false
open Go.Vc
namespace Go.Proofs.Qxb6500425a

def lowB (a : Int) : Int := IntKind.i64.wrap (BitVec.ofInt IntKind.i64.bits a &&& BitVec.ofInt IntKind.i64.bits (255 : Int)).toNat
theorem lowB_lt (a : Int) : 0 ≤ lowB a ∧ lowB a < 256 := by
  have h1 : (BitVec.ofInt IntKind.i64.bits a &&& BitVec.ofInt IntKind.i64.bits (255 : Int)).toNat < 256 := by
    have e2 : (BitVec.ofInt IntKind.i64.bits (255 : Int)).toNat = 255 := by decide
    rw [BitVec.toNat_and, e2]
    have e3 := Nat.and_two_pow_sub_one_eq_mod (BitVec.ofInt IntKind.i64.bits a).toNat 8
    have e4 : (2 : Nat) ^ 8 - 1 = 255 := by decide
    have e5 : (2 : Nat) ^ 8 = 256 := by decide
    rw [e4, e5] at e3
    rw [e3]
    omega
  unfold lowB
  rw [w64 (by omega) (by omega)]
  omega
def freshIP (a : Int) : IPS := ⟨lowB a, 0, 24, fun _ => ⟨false, 0, 0, 0, 0, fun _ => 0⟩⟩
theorem ipNew_ok {w : World} {a : Int} {R : Option Addr → World → Prop} (hR : ∀ p w', p = w.heap.size → w'.heap.size = p + 1 → RealAt w' p (freshIP a) → Ext [] w w' → R (some ⟨p, 0, none⟩) w') : ip_New.Call a w R := by
  apply ip_New.sound
  unfold ip_New.B0
  exact New.mk fun p w1 hp hs ho he => hR p w1 hp hs ho he
theorem fresh_rel (a : Int) : Rel [] (freshIP a) :=
  ⟨List.Perm.refl _, List.Pairwise.nil, fun i j _ _ _ hu => (by cases hu), fun i _ => ⟨by show 0 < 1099511627776; omega, fun k _ => ⟨Int.le_refl 0, by show (0 : Int) < 256; omega⟩⟩, fun r hr => by cases hr⟩

theorem realAddr_ok {w : World} {p : Nat} {S : IPS} {R : Int → World → Prop} (h : RealAt w p S) (hR : R S.addr w) : ip_IP_Addr.Call (some ⟨p, 0, none⟩) w R := by
  apply ip_IP_Addr.sound
  unfold ip_IP_Addr.B0
  exact Pn.mk (LdI.cell h.addr hR)
theorem realNextId_ok {w : World} {p : Nat} {S : IPS} {R : Int → World → Prop} (h : RealAt w p S) (hR : R S.next w) : ip_IP_NextId.Call (some ⟨p, 0, none⟩) w R := by
  apply ip_IP_NextId.sound
  unfold ip_IP_NextId.B0
  exact Pn.mk (LdI.cell (by rw [add_mk, Nat.zero_add]; exact h.next) hR)
theorem realCredit_ok {w : World} {p : Nat} {S : IPS} {R : Int → World → Prop} (h : RealAt w p S) (hR : R S.credit w) : ip_IP_Credit.Call (some ⟨p, 0, none⟩) w R := by
  apply ip_IP_Credit.sound
  unfold ip_IP_Credit.B0
  exact Pn.mk (LdI.cell (by rw [add_mk, Nat.zero_add]; exact h.credit) hR)

theorem any_none {h e : Nat} (hn : ∀ k, e ≤ k → k < 40 → h.testBit k = false) : (List.range 40).any (fun k => decide (e ≤ k) && h.testBit k) = false := by
  rw [List.any_eq_false]
  intro k hk hc
  simp only [Bool.and_eq_true, decide_eq_true_eq] at hc
  rw [hn k hc.1 (List.mem_range.1 hk)] at hc
  cases hc.2
theorem checkSlot_ok {w : World} {p i : Nat} {S : IPS} {R : Bool → World → Prop} (h : RealAt w p S) (hi : i < 3) (hs : SlotWf (S.sl i)) (hw : RowWf (S.sl i).abs) (hR : ∀ w', Ext [] w w' → R true w') : ip_IP_checkSlot.Call (some ⟨p, 0, none⟩) (i : Int) w R := by
  apply ip_IP_checkSlot.sound
  unfold ip_IP_checkSlot.B0
  have hkr : 0 ≤ (S.sl i).key ∧ (S.sl i).key < 16777216 := hw.key
  have hlr : 1 ≤ (S.sl i).left ∧ (S.sl i).left ≤ 4 := hw.left
  have hh := hs.held
  have ld1 : w.cell? ⟨p, 3 + i * 45 + 1, none⟩ = some (.int .i64 (S.sl i).key) := h.key hi
  have hne : (S.sl i).held ≠ 0 := fun e => by
    obtain ⟨k, hk, hk2⟩ := hw.some
    have := abs_held hs hk
    rw [decide_eq_true hk2, e] at this
    simp at this
  simp only [Int.toNat_natCast]
  refine Pn.mk ⟨⟨by omega, by omega⟩, LdI.cell (by rw [add_mk, add_mk, add_mk, Nat.zero_add]; exact h.key hi) (Bm.neg (decide_eq_false (by omega)) (Pn.mk ⟨⟨by omega, by omega⟩, LdI.cell (by rw [add_mk, add_mk, add_mk, Nat.zero_add]; exact h.key hi) (Bm.neg (decide_eq_false (by omega)) (Pn.mk ⟨⟨by omega, by omega⟩, LdI.cell (by rw [add_mk, add_mk, add_mk, Nat.zero_add]; exact h.left hi) (Bm.neg (decide_eq_false (by omega)) (Pn.mk ⟨⟨by omega, by omega⟩, LdI.cell (by rw [add_mk, add_mk, add_mk, Nat.zero_add]; exact h.left hi) ?_⟩))⟩))⟩))⟩
  rw [decide_eq_false (by omega)]
  unfold ip_IP_checkSlot.B1
  simp only [Int.toNat_natCast]
  refine Bm.neg rfl (Pn.mk ⟨⟨by omega, by omega⟩, LdI.cell (by rw [add_mk, add_mk, add_mk, Nat.zero_add]; exact h.held hi) (Bm.neg (by simpa using hne) (Pn.mk ⟨⟨by omega, by omega⟩, LdI.cell (by rw [add_mk, add_mk, add_mk, Nat.zero_add]; exact h.held hi) ⟨by omega, ?_⟩⟩))⟩)
  have e40 : ((((S.sl i).held : Int).fdiv (2 ^ (min (40 : Int).toNat IntKind.u64.bits))) != 0) = false := by
    have : (2 : Int) ^ (min (40 : Int).toNat IntKind.u64.bits) = 1099511627776 := by decide
    rw [this, Int.fdiv_eq_ediv_of_nonneg _ (by omega), Int.ediv_eq_zero_of_lt (by omega) (by omega)]
    rfl
  rw [e40]
  unfold ip_IP_checkSlot.B2
  simp only [Int.toNat_natCast]
  have htot : (S.sl i).total = -1 ∨ (1 ≤ (S.sl i).total ∧ (S.sl i).total ≤ 40 ∧ (∀ k, (S.sl i).total.toNat ≤ k → k < 40 → hd (S.sl i).abs.cell k < 0) ∧ rowFull (S.sl i).abs = false) := hw.tot
  refine Bm.neg rfl (Pn.mk ⟨⟨by omega, by omega⟩, LdI.cell (by rw [add_mk, add_mk, add_mk, Nat.zero_add]; exact h.total hi) (Bm.mk (fun _ => hR w (Ext.refl _ _)) (fun ht => ?_))⟩)
  have ht' : (S.sl i).total ≠ -1 := by simpa using ht
  rcases htot with q | ⟨q1, q2, q3, q4⟩
  · exact absurd q ht'
  refine Pn.mk ⟨⟨by omega, by omega⟩, LdI.cell (by rw [add_mk, add_mk, add_mk, Nat.zero_add]; exact h.total hi) (Bm.neg (decide_eq_false (by omega)) (Pn.mk ⟨⟨by omega, by omega⟩, LdI.cell (by rw [add_mk, add_mk, add_mk, Nat.zero_add]; exact h.total hi) ?_⟩))⟩
  rw [decide_eq_false (by omega)]
  unfold ip_IP_checkSlot.B3
  simp only [Int.toNat_natCast]
  have hd' := h.drew
  obtain ⟨t, htt⟩ : ∃ t : Nat, (S.sl i).total = t := ⟨(S.sl i).total.toNat, by omega⟩
  rw [htt, Int.toNat_natCast] at q3
  have hf : ((((S.sl i).held : Int).fdiv (2 ^ (min (IntKind.u64.wrap (t : Int)).toNat IntKind.u64.bits))) == 0) = true := by
    have hb := bits_from hh (show t < 64 by omega)
    rw [any_none (fun k h1 h2 => ?_)] at hb
    · simpa using hb
    · have := q3 k h1 h2
      have h3 := abs_held hs h2
      rw [decide_eq_false (by omega)] at h3
      exact h3.symm
  have hc4 : w.drew.cell? ⟨p, 3 + i * 45 + 4, none⟩ = some (.int .u64 ((S.sl i).held : Int)) := hd'.held hi
  have hc3 := hd'.total hi
  rw [htt] at hc3
  refine Bm.neg rfl (Pn.mk ⟨⟨by omega, by omega⟩, LdI.cell (by rw [add_mk, add_mk, add_mk, Nat.zero_add]; exact hc4) (Pn.mk ⟨⟨by omega, by omega⟩, LdI.cell (by rw [add_mk, add_mk, add_mk, Nat.zero_add]; exact hc3) ⟨by rw [w64u (by omega) (by omega)]; omega, Bm.pos hf (Pn.mk ⟨⟨by omega, by omega⟩, LdI.cell (by rw [add_mk, add_mk, add_mk, Nat.zero_add]; exact hc4) (Pn.mk ⟨⟨by omega, by omega⟩, LdI.cell (by rw [add_mk, add_mk, add_mk, Nat.zero_add]; exact hc3) (below_ok (by omega) ⟨by rw [add_mk, add_mk, add_mk, Nat.zero_add]; exact hc4, ?_⟩)⟩)⟩)⟩⟩)⟩)
  have hx : ((((S.sl i).held : Nat) : Int) != ((belowN t : Nat) : Int)) = true := by
    have : (S.sl i).held ≠ belowN t := fun e => by
      unfold rowFull at q4
      have e1 : (S.sl i).abs.total = (t : Int) := htt
      rw [e1, decide_eq_true (by omega), Bool.true_and, Int.toNat_natCast] at q4
      have : ((List.range t).all fun k => decide (0 ≤ hd (S.sl i).abs.cell k)) = true := by
        rw [List.all_eq_true]
        intro k hk
        have hk' := List.mem_range.1 hk
        rw [abs_held hs (by omega), e, testBit_below]
        exact decide_eq_true hk'
      rw [this] at q4
      cases q4
    simp only [bne_iff_ne, ne_eq]
    omega
  rw [hx]
  exact hR _ (Ext.drew [] w)

structure NumWf (S : IPS) : Prop where
  addr : 0 ≤ S.addr ∧ S.addr < 256
  next : 0 ≤ S.next ∧ S.next < 256
  credit : 0 ≤ S.credit ∧ S.credit ≤ 24
theorem fresh_num (a : Int) : NumWf (freshIP a) := ⟨lowB_lt a, by simp [freshIP], by simp [freshIP]⟩
theorem realCheck_ok {w : World} {p : Nat} {S : IPS} {A : List AR} {R : Bool → World → Prop} (h : RealAt w p S) (hrel : Rel A S) (hn : NumWf S) (hR : ∀ w', Ext [] w w' → R true w') : ip_IP_Check.Call (some ⟨p, 0, none⟩) w R := by
  apply ip_IP_Check.sound
  unfold ip_IP_Check.B0
  obtain ⟨⟨a0, a1⟩, ⟨n0, n1⟩, ⟨c0, c1⟩⟩ := hn
  refine Pn.mk (LdI.cell h.addr (Bm.neg (decide_eq_false (by omega)) ?_))
  refine Pn.mk (LdI.cell h.addr (Bm.neg (decide_eq_false (by omega)) ?_))
  refine Pn.mk (LdI.cell (by rw [add_mk, Nat.zero_add]; exact h.next) (Bm.neg (decide_eq_false (by omega)) ?_))
  refine Pn.mk (LdI.cell (by rw [add_mk, Nat.zero_add]; exact h.next) ?_)
  rw [decide_eq_false (by omega)]
  unfold ip_IP_Check.B1
  refine Bm.neg rfl (Pn.mk (LdI.cell (by rw [add_mk, Nat.zero_add]; exact h.credit) (Bm.neg (decide_eq_false (by omega)) ?_)))
  refine Pn.mk (LdI.cell (by rw [add_mk, Nat.zero_add]; exact h.credit) ?_)
  rw [decide_eq_false (by omega)]
  unfold ip_IP_Check.B2
  refine Bm.neg rfl ?_
  unfold ip_IP_Check.L1
  refine ⟨fun m p' i w' => some ⟨p, 0, none⟩ = p' ∧ 0 ≤ i ∧ i ≤ 3 ∧ m = (3 - i).toNat ∧ Ext [] w w', 3, ⟨rfl, by omega, by omega, rfl, Ext.refl _ _⟩, ?_⟩
  rintro m p' i w' ⟨rfl, i0, i3, rfl, hE⟩
  unfold ip_IP_Check.L1b
  refine Bm.ite (fun hi => ?_) (fun hi => hR w' hE)
  have hp' : RealAt w' p S := hE.own h (by simp)
  obtain ⟨q, rfl⟩ : ∃ q : Nat, i = q := ⟨i.toNat, by omega⟩
  have hq : q < 3 := by omega
  have nx : ∀ w'', Ext [] w w'' → ∃ m', m' < (3 - (q : Int)).toNat ∧ some ⟨p, 0, none⟩ = some (⟨p, 0, none⟩ : Addr) ∧ 0 ≤ IntKind.i64.wrap ((q : Int) + 1) ∧ IntKind.i64.wrap ((q : Int) + 1) ≤ 3 ∧ m' = (3 - IntKind.i64.wrap ((q : Int) + 1)).toNat ∧ Ext [] w w'' := fun w'' he => by
    rw [w64 (by omega) (by omega)]
    exact ⟨(3 - ((q : Int) + 1)).toNat, by omega, rfl, by omega, by omega, rfl, he⟩
  refine Pn.mk ⟨⟨by omega, by omega⟩, LdB.cell (by rw [add_mk, add_mk, Nat.zero_add, Int.toNat_natCast]; exact hp'.used hq) (Bm.mk (fun hu => ?_) (fun hu => nx w' hE))⟩
  refine checkSlot_ok hp' hq (hrel.swf q hq) (hrel.rwf _ (hrel.mem hq hu)) fun w1 he1 => Bm.neg rfl ?_
  unfold ip_IP_Check.L2
  refine ⟨fun m p' i' j w' => some ⟨p, 0, none⟩ = p' ∧ (q : Int) = i' ∧ 0 ≤ j ∧ j ≤ q ∧ m = (q - j).toNat ∧ Ext [] w w', q, ⟨rfl, rfl, by omega, by omega, by omega, hE.trans he1⟩, ?_⟩
  rintro m p' i' j w'' ⟨rfl, rfl, j0, j1, rfl, hE2⟩
  unfold ip_IP_Check.L2b
  refine Bm.ite (fun hj => ?_) (fun hj => nx w'' hE2)
  have hpd : RealAt w''.drew p S := Own.drew (hE2.own h (by simp))
  have go : ip_IP_Check.B3 (some ⟨p, 0, none⟩) (q : Int) j false w''.drew (fun p' i' w' => ∃ m', m' < (3 - (q : Int)).toNat ∧ some ⟨p, 0, none⟩ = p' ∧ 0 ≤ i' ∧ i' ≤ 3 ∧ m' = (3 - i').toNat ∧ Ext [] w w') (fun p' i' j' w' => ∃ m', m' < ((q : Int) - j).toNat ∧ some ⟨p, 0, none⟩ = p' ∧ (q : Int) = i' ∧ 0 ≤ j' ∧ j' ≤ q ∧ m' = ((q : Int) - j').toNat ∧ Ext [] w w') R := by
    unfold ip_IP_Check.B3
    refine Bm.neg rfl ?_
    rw [w64 (by omega) (by omega)]
    exact ⟨((q : Int) - (j + 1)).toNat, by omega, rfl, rfl, by omega, by omega, rfl, hE2.trans (Ext.drew [] w'')⟩
  refine Pn.mk ⟨⟨j0, by omega⟩, LdB.cell (by rw [add_mk, add_mk, Nat.zero_add]; exact hpd.used (by omega)) (Bm.mk (fun huj => ?_) (fun huj => go))⟩
  refine Pn.mk ⟨⟨j0, by omega⟩, LdI.cell (by rw [add_mk, add_mk, add_mk, Nat.zero_add]; exact hpd.key (by omega)) (Pn.mk ⟨⟨by omega, by omega⟩, LdI.cell (by rw [add_mk, add_mk, add_mk, Nat.zero_add, Int.toNat_natCast]; exact hpd.key hq) ?_⟩)⟩
  have := hrel.kne j.toNat q (by omega) hq (by omega) huj hu
  have e : ((S.sl j.toNat).key == (S.sl q).key) = false := by simpa using this
  rw [e]
  exact go
end Go.Proofs.Qxb6500425a
