/-
  elect: GotVote, Check; the law.
-/
import Derived.Test.Qxb6500430aGreatElectC
import Derived.Test.Qxb6500430aGreatScript
set_option linter.unusedVariables false
set_option linter.unusedSimpArgs false
open Go.Vc
namespace Go.Proofs.Qxb6500430aGreat.El

theorem realGotV_ok {w : World} {p : Nat} {s : ES} {f t : Int} {g : Bool} {R : Bool → World → Prop} (h : RealAt w p s) (hw : s.Wf) (hR : ∀ w', RealAt w' p (gotF s f t g).2 → Ext [p] w w' → R (gotF s f t g).1 w') : elect_Elect_GotVote.Call (some ⟨p, 0, none⟩) f t g w R := by
  apply elect_Elect_GotVote.sound
  unfold elect_Elect_GotVote.B0
  unfold gotF at hR
  refine realPeer_ok h (Bm.mk (fun h1 => ?_) (fun h1 => ?_))
  · unfold elect_Elect_GotVote.B1
    rw [if_pos (.inl (by simpa using h1))] at hR
    exact Bm.pos rfl (hR w h (Ext.refl _ _))
  have hp : peerB s f = true := by simpa using h1
  obtain ⟨f0, f1, f2⟩ := peerB_true (s := s) (f := f) (by simp [hp])
  unfold elect_Elect_GotVote.B1
  refine Bm.ite (fun h2 => ?_) (fun h2 => ?_)
  · rw [if_pos (.inr h2)] at hR
    exact hR w h (Ext.refl _ _)
  rw [if_neg (by simp [hp]; omega)] at hR
  refine realSee_ok h hw fun w1 h1' he1 => Bm.mk (fun hs => ?_) (fun hs => ?_)
  · rw [if_pos hs] at hR
    exact hR w1 h1' he1
  rw [if_neg (by simp [hs])] at hR
  have es : seeF s t = s := by unfold seeF; rw [if_neg (by simp [hs])]
  rw [es] at h1'
  have hr := hw.role
  have hm := hw.m
  refine raw_role h1' hw.role hw.vote hw.leader (turn_ok ?_)
  have no : (t < s.term ∨ s.role ≠ 1 ∨ g = false) → elect_Elect_GotVote.B2 (some ⟨p, 0, none⟩) f s.role true w1 R := fun hh => by
    rw [if_pos hh] at hR
    unfold elect_Elect_GotVote.B2
    exact Bm.pos rfl (hR w1 h1' he1)
  by_cases h3 : s.role = 1
  · have e : turnF s.role 2 = 1 := by rw [h3]; rfl
    rw [e]
    refine Bm.neg rfl ?_
    simp only [Pn, add_mk, Nat.zero_add]
    refine LdI.mk h1' rfl (Bm.ite (fun h4 => no (.inl h4)) (fun h4 => ?_))
    cases g with
    | false => exact no (.inr (.inr rfl))
    | true =>
      rw [if_neg (by simp; omega)] at hR
      unfold elect_Elect_GotVote.B2
      refine Bm.neg rfl ?_
      simp only [Pn, add_mk, Nat.zero_add]
      have hd := Own.drew h1'
      have mk := masks hm (p := f) ⟨f0, f1⟩
      have hor := mk.1
      unfold orW at hor
      refine LdI.mk hd rfl (bit_ok (by omega) ⟨hd.cell rfl, ?_⟩)
      rw [hor]
      refine Sts.mk hd (by simp) rfl fun w2 hs2 ho2 he2 => ?_
      have h2' : Raw w2 p s.id s.term (word s.role s.vote s.leader) ((s.m ||| 2 ^ f.toNat : Nat) : Int) s.clock (3 + 2 * s.id) := ho2
      refine LdI.mk h2' rfl (count_ok mk.2.2 (Bm.ite (fun h5 => ?_) (fun h5 => ?_)))
      · rw [if_pos (by omega)] at hR
        exact hR w2 h2' ((he1.trans (Ext.drew _ _)).trans he2)
      · rw [if_neg (by omega)] at hR
        have e3 : turnF s.role 3 = 2 := by rw [h3]; rfl
        refine turn_ok ?_
        rw [e3]
        refine raw_vote h2' hw.role hw.vote hw.leader (LdI.mk h2' rfl (put_ok h2' (by omega) hw.vote (by have := hw.id; omega) fun w3 hs3 ho3 he3 => wind_ok ho3 hw.id fun w4 hs4 ho4 he4 => hR w4 ho4 ((((he1.trans (Ext.drew _ _)).trans he2).trans he3).trans he4)))
  · have e : turnF s.role 2 = -1 := by
      have : s.role = 0 ∨ s.role = 2 := by omega
      rcases this with q | q <;> rw [q] <;> rfl
    rw [e]
    exact Bm.pos rfl (no (.inr (.inl h3)))

theorem pop_bits : ∀ m : Fin 8, (pop m.val : Int) = (if m.val.testBit 0 then 1 else 0) + (if m.val.testBit 1 then 1 else 0) + (if m.val.testBit 2 then 1 else 0) := by decide +kernel
def upto (m : Nat) (p : Nat) : Int := (if 0 < p then (if m.testBit 0 then 1 else 0) else 0) + (if 1 < p then (if m.testBit 1 then 1 else 0) else 0) + (if 2 < p then (if m.testBit 2 then 1 else 0) else 0)
theorem upto_step : ∀ m : Fin 8, ∀ p : Fin 3, upto m.val (p.val + 1) = upto m.val p.val + (if m.val.testBit p.val then 1 else 0) ∧ 0 ≤ upto m.val p.val ∧ upto m.val p.val ≤ 3 ∧ upto m.val 3 = (pop m.val : Int) := by decide +kernel
theorem modGotV_ok {w : World} {p : Nat} {s : ES} {f t : Int} {g : Bool} {R : Bool → World → Prop} (h : ModAt w p s) (hw : s.Wf) (hR : ∀ w', ModAt w' p (gotF s f t g).2 → Ext [p] w w' → R (gotF s f t g).1 w') : electm_Elect_GotVote.Call (some ⟨p, 0, none⟩) f t g w R := by
  apply electm_Elect_GotVote.sound
  unfold electm_Elect_GotVote.B0
  unfold gotF at hR
  refine modPeer_ok h (Bm.mk (fun h1 => ?_) (fun h1 => ?_))
  · unfold electm_Elect_GotVote.B1
    rw [if_pos (.inl (by simpa using h1))] at hR
    exact Bm.pos rfl (hR w h (Ext.refl _ _))
  have hp : peerB s f = true := by simpa using h1
  obtain ⟨f0, f1, f2⟩ := peerB_true (s := s) (f := f) (by simp [hp])
  unfold electm_Elect_GotVote.B1
  refine Bm.ite (fun h2 => ?_) (fun h2 => ?_)
  · rw [if_pos (.inr h2)] at hR
    exact hR w h (Ext.refl _ _)
  rw [if_neg (by simp [hp]; omega)] at hR
  refine modSee_ok h fun w1 h1' he1 => Bm.mk (fun hs => ?_) (fun hs => ?_)
  · rw [if_pos hs] at hR
    unfold electm_Elect_GotVote.B2
    exact Bm.pos rfl (hR w1 h1' he1)
  rw [if_neg (by simp [hs])] at hR
  have es : seeF s t = s := by unfold seeF; rw [if_neg (by simp [hs])]
  rw [es] at h1'
  have hr := hw.role
  have hm := hw.m
  have no : (t < s.term ∨ s.role ≠ 1 ∨ g = false) → electm_Elect_GotVote.B2 (some ⟨p, 0, none⟩) f true w1 R := fun hh => by
    rw [if_pos hh] at hR
    unfold electm_Elect_GotVote.B2
    exact Bm.pos rfl (hR w1 h1' he1)
  simp only [Pn, add_mk, Nat.zero_add]
  refine modInt h1' rfl (Bm.ite (fun h4 => no (.inl h4)) (fun h4 => modInt h1' rfl (Bm.mk (fun h3 => no (.inr (.inl (by simpa using h3)))) (fun h3 => ?_))))
  have h3' : s.role = 1 := by simpa using h3
  cases g with
  | false => exact no (.inr (.inr rfl))
  | true =>
    rw [if_neg (by simp; omega)] at hR
    unfold electm_Elect_GotVote.B2
    refine Bm.neg rfl ?_
    simp only [Pn, add_mk, Nat.zero_add]
    refine ⟨⟨f0, by omega⟩, ?_⟩
    have mk := (masks hm (p := f) ⟨f0, f1⟩).2.2
    -- behind the store the cells show the new mask
    have fin : ∀ w2, ModAt w2 p { s with m := s.m ||| 2 ^ f.toNat } → Ext [p] w1 w2 → electm_Elect_GotVote.L1 (some ⟨p, 0, none⟩) 0 0 w2 R := fun w2 h2 he2 => by
      unfold electm_Elect_GotVote.L1
      refine ⟨fun k e' n q w' => some ⟨p, 0, none⟩ = e' ∧ w2 = w' ∧ 0 ≤ q ∧ q ≤ 3 ∧ k = (3 - q).toNat ∧ n = upto (s.m ||| 2 ^ f.toNat) q.toNat, 3, ⟨rfl, rfl, by omega, by omega, rfl, by simp [upto]⟩, ?_⟩
      rintro k e' n q w' ⟨rfl, rfl, q0, q3, rfl, rfl⟩
      unfold electm_Elect_GotVote.L1b
      refine Bm.ite (fun hq => ?_) (fun hq => ?_)
      · obtain ⟨u1, u2, u3, u4⟩ := upto_step ⟨s.m ||| 2 ^ f.toNat, mk⟩ ⟨q.toNat, by omega⟩
        simp only at u1 u2 u3
        have e1 : (q + 1).toNat = q.toNat + 1 := by omega
        refine Pn.mk ⟨⟨q0, by omega⟩, LdB.cell (by rw [add_mk, add_mk, Nat.mul_one, Nat.zero_add]; exact h2.bit (by omega)) ?_⟩
        unfold electm_Elect_GotVote.B3
        refine Bm.mk (fun hb => ?_) (fun hb => ?_)
        · rw [w64 (x := q + 1) (by omega) (by omega), w64 (by omega) (by omega)]
          refine ⟨(3 - (q + 1)).toNat, by omega, rfl, rfl, by omega, by omega, rfl, ?_⟩
          rw [e1, u1, if_pos hb]
        · rw [w64 (x := q + 1) (by omega) (by omega)]
          refine ⟨(3 - (q + 1)).toNat, by omega, rfl, rfl, by omega, by omega, rfl, ?_⟩
          have hb' : (s.m ||| 2 ^ f.toNat).testBit q.toNat = false := hb
          rw [e1, u1, if_neg (by rw [hb']; simp), Int.add_zero]
      · have e3 : q.toNat = 3 := by omega
        obtain ⟨u1, u2, u3, u4⟩ := upto_step ⟨s.m ||| 2 ^ f.toNat, mk⟩ ⟨0, by omega⟩
        simp only at u4
        rw [e3, u4]
        simp only [Pn, add_mk, Nat.zero_add]
        refine Bm.ite (fun h5 => ?_) (fun h5 => ?_)
        · rw [if_pos (by omega)] at hR
          exact hR w2 h2 (he1.trans he2)
        · rw [if_neg (by omega)] at hR
          exact modInt h2 rfl (stM h2.mc (MC.p3 ..) (by simp) rfl fun w3 hs3 ho3 he3 => stM ho3 (MC.p4 ..) (by simp) rfl fun w4 hs4 ho4 he4 => stM ho4 (MC.p5 ..) (by simp) rfl fun w5 hs5 ho5 he5 => hR w5 ho5 ((((he1.trans he2).trans he3).trans he4).trans he5))
    have ob : ∀ i : Fin 3, (s.m ||| 2 ^ f.toNat).testBit i.val = (decide (i.val = f.toNat) || s.m.testBit i.val) := fun i => by
      have := or_all ⟨s.m, hm⟩ ⟨f.toNat, by omega⟩ i
      simp only at this
      rw [this]
      congr 1
      simp [Fin.ext_iff]
    have o0 := ob 0
    have o1 := ob 1
    have o2 := ob 2
    have hf : f.toNat = 0 ∨ f.toNat = 1 ∨ f.toNat = 2 := by omega
    have close : ∀ w2 x y z, Own w2 p (MC s.id s.term s.vote s.role s.leader s.clock x y z) T_electm_Elect → x = (decide (0 = f.toNat) || s.m.testBit 0) → y = (decide (1 = f.toNat) || s.m.testBit 1) → z = (decide (2 = f.toNat) || s.m.testBit 2) → Ext [p] w1 w2 → electm_Elect_GotVote.L1 (some ⟨p, 0, none⟩) 0 0 w2 R := fun w2 x y z ho ex ey ez he => by
      refine fin w2 ?_ he
      unfold ModAt
      simp only
      have o0' : (s.m ||| 2 ^ f.toNat).testBit 0 = x := by rw [ex]; exact o0
      have o1' : (s.m ||| 2 ^ f.toNat).testBit 1 = y := by rw [ey]; exact o1
      have o2' : (s.m ||| 2 ^ f.toNat).testBit 2 = z := by rw [ez]; exact o2
      rw [o0', o1', o2']
      exact ho
    rcases hf with e | e | e
    · have ea : 6 + f.toNat * 1 = 6 := by omega
      rw [ea]
      exact stM h1'.mc (MC.b0 ..) (by simp) rfl fun w2 hs2 ho2 he2 => close w2 _ _ _ ho2 (by simp [e]) (by simp [e]) (by simp [e]) he2
    · have ea : 6 + f.toNat * 1 = 7 := by omega
      rw [ea]
      exact stM h1'.mc (MC.b1 ..) (by simp) rfl fun w2 hs2 ho2 he2 => close w2 _ _ _ ho2 (by simp [e]) (by simp [e]) (by simp [e]) he2
    · have ea : 6 + f.toNat * 1 = 8 := by omega
      rw [ea]
      exact stM h1'.mc (MC.b2 ..) (by simp) rfl fun w2 hs2 ho2 he2 => close w2 _ _ _ ho2 (by simp [e]) (by simp [e]) (by simp [e]) he2

/-! ### Check -/
end Go.Proofs.Qxb6500430aGreat.El
