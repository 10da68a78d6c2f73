/-
  elect: Tick, AskedVote, GotVote, Heard, Restore, the observers, Check.
-/
import Derived.Test.Qxb6500430aGreatElectB
set_option linter.unusedVariables false
set_option linter.unusedSimpArgs false
open Go.Vc
namespace Go.Proofs.Qxb6500430aGreat.El

/-! ### observers -/
theorem realId_ok {w : World} {p : Nat} {s : ES} {R : Int → World → Prop} (h : RealAt w p s) (hR : R s.id w) : elect_Elect_Id.Call (some ⟨p, 0, none⟩) w R := by
  apply elect_Elect_Id.sound
  unfold elect_Elect_Id.B0
  exact Pn.mk (LdI.mk h rfl hR)
theorem realTerm_ok {w : World} {p : Nat} {s : ES} {R : Int → World → Prop} (h : RealAt w p s) (hR : R s.term w) : elect_Elect_Term.Call (some ⟨p, 0, none⟩) w R := by
  apply elect_Elect_Term.sound
  unfold elect_Elect_Term.B0
  simp only [Pn, add_mk, Nat.zero_add]
  exact LdI.mk h rfl hR
theorem realClock_ok {w : World} {p : Nat} {s : ES} {R : Int → World → Prop} (h : RealAt w p s) (hw : s.Wf) (hR : R s.clock w.drew) : elect_Elect_Clock.Call (some ⟨p, 0, none⟩) w R := by
  apply elect_Elect_Clock.sound
  unfold elect_Elect_Clock.B0
  simp only [Pn, add_mk, Nat.zero_add]
  have hd := Own.drew h
  have hc := hw.clock
  have hi := hw.id
  refine LdI.mk hd rfl (LdI.mk hd rfl (LdI.mk hd rfl (timeout_ok hw.id ⟨hd.cell rfl, hd.cell rfl, ?_⟩)))
  rw [w64 (x := 3 + 2 * s.id - s.clock) (by omega) (by omega), w64 (by omega) (by omega)]
  have e : 3 + 2 * s.id - (3 + 2 * s.id - s.clock) = s.clock := by omega
  rw [e]
  exact hR
theorem modInt {w : World} {p o : Nat} {s : ES} {n : Int} {K : Int → Prop} (h : ModAt w p s) (hc : (MC s.id s.term s.vote s.role s.leader s.clock (s.m.testBit 0) (s.m.testBit 1) (s.m.testBit 2))[o]? = some (.int .i64 n)) (hk : K n) : LdI .i64 ⟨p, o, none⟩ w K := LdI.mk h.mc hc hk
theorem modId_ok {w : World} {p : Nat} {s : ES} {R : Int → World → Prop} (h : ModAt w p s) (hR : R s.id w) : electm_Elect_Id.Call (some ⟨p, 0, none⟩) w R := by
  apply electm_Elect_Id.sound
  unfold electm_Elect_Id.B0
  exact Pn.mk (modInt h rfl hR)
theorem modTerm_ok {w : World} {p : Nat} {s : ES} {R : Int → World → Prop} (h : ModAt w p s) (hR : R s.term w) : electm_Elect_Term.Call (some ⟨p, 0, none⟩) w R := by
  apply electm_Elect_Term.sound
  unfold electm_Elect_Term.B0
  simp only [Pn, add_mk, Nat.zero_add]
  exact modInt h rfl hR
theorem modVote_ok {w : World} {p : Nat} {s : ES} {R : Int → World → Prop} (h : ModAt w p s) (hR : R s.vote w) : electm_Elect_Vote.Call (some ⟨p, 0, none⟩) w R := by
  apply electm_Elect_Vote.sound
  unfold electm_Elect_Vote.B0
  simp only [Pn, add_mk, Nat.zero_add]
  exact modInt h rfl hR
theorem modRole_ok {w : World} {p : Nat} {s : ES} {R : Int → World → Prop} (h : ModAt w p s) (hR : R s.role w) : electm_Elect_Role.Call (some ⟨p, 0, none⟩) w R := by
  apply electm_Elect_Role.sound
  unfold electm_Elect_Role.B0
  simp only [Pn, add_mk, Nat.zero_add]
  exact modInt h rfl hR
theorem modLeader_ok {w : World} {p : Nat} {s : ES} {R : Int → World → Prop} (h : ModAt w p s) (hR : R s.leader w) : electm_Elect_Leader.Call (some ⟨p, 0, none⟩) w R := by
  apply electm_Elect_Leader.sound
  unfold electm_Elect_Leader.B0
  simp only [Pn, add_mk, Nat.zero_add]
  exact modInt h rfl hR
theorem modClock_ok {w : World} {p : Nat} {s : ES} {R : Int → World → Prop} (h : ModAt w p s) (hR : R s.clock w) : electm_Elect_Clock.Call (some ⟨p, 0, none⟩) w R := by
  apply electm_Elect_Clock.sound
  unfold electm_Elect_Clock.B0
  simp only [Pn, add_mk, Nat.zero_add]
  exact modInt h rfl hR
def gotB (s : ES) (p : Int) : Bool := if 0 ≤ p ∧ p < 3 then s.m.testBit p.toNat else false
theorem realGot_ok {w : World} {p : Nat} {s : ES} {q : Int} {R : Bool → World → Prop} (h : RealAt w p s) (hw : s.Wf) (hR : R (gotB s q) w.drew) : elect_Elect_Got.Call (some ⟨p, 0, none⟩) q w R := by
  apply elect_Elect_Got.sound
  unfold elect_Elect_Got.B0
  simp only [Pn, add_mk, Nat.zero_add]
  unfold gotB at hR
  have hd := Own.drew h
  refine Bm.ite (fun h0 => Bm.ite (fun h1 => ?_) (fun h1 => ?_)) (fun h0 => ?_)
  · rw [if_pos ⟨by omega, h1⟩] at hR
    refine LdI.mk hd rfl (bit_ok (by omega) ⟨hd.cell rfl, ?_⟩)
    have e := (masks hw.m (p := q) (by omega)).2.1
    unfold andW at e
    rw [e]
    exact hR
  · rwa [if_neg (by omega)] at hR
  · rwa [if_neg (by omega)] at hR
theorem ModAt.bit {w : World} {p : Nat} {s : ES} (h : ModAt w p s) {q : Nat} (hq : q < 3) : w.cell? ⟨p, 6 + q, none⟩ = some (.bool (s.m.testBit q)) := by
  match q, hq with
  | 0, _ => exact h.mc.cell rfl
  | 1, _ => exact h.mc.cell rfl
  | 2, _ => exact h.mc.cell rfl
theorem modGot_ok {w : World} {p : Nat} {s : ES} {q : Int} {R : Bool → World → Prop} (h : ModAt w p s) (hR : R (gotB s q) w) : electm_Elect_Got.Call (some ⟨p, 0, none⟩) q w R := by
  apply electm_Elect_Got.sound
  unfold electm_Elect_Got.B0
  simp only [Pn, add_mk, Nat.zero_add]
  unfold gotB at hR
  refine Bm.ite (fun h0 => Bm.ite (fun h1 => ?_) (fun h1 => ?_)) (fun h0 => ?_)
  · rw [if_pos ⟨by omega, h1⟩] at hR
    exact ⟨⟨by omega, by omega⟩, LdB.cell (by rw [Nat.mul_one]; exact h.bit (by omega)) hR⟩
  · rwa [if_neg (by omega)] at hR
  · rwa [if_neg (by omega)] at hR

/-! ### Restore -/
theorem realRestore_ok {w : World} {p : Nat} {s : ES} {t v : Int} {R : Int → World → Prop} (h : RealAt w p s) (hw : s.Wf) (hR : ∀ w', RealAt w' p (restF s t v).2 → Ext [p] w w' → R (restF s t v).1 w') : elect_Elect_Restore.Call (some ⟨p, 0, none⟩) t v w R := by
  apply elect_Elect_Restore.sound
  unfold elect_Elect_Restore.B0
  have bad : (t < 0 ∨ 72057594037927936 < t ∨ v < -1 ∨ 3 ≤ v) → R 1 w := fun hh => by
    unfold restF at hR
    rw [if_pos hh] at hR
    exact hR w h (Ext.refl _ _)
  refine Bm.ite (fun h1 => ?_) (fun h1 => Bm.ite (fun h2 => ?_) (fun h2 => Bm.ite (fun h3 => ?_) (fun h3 => ?_)))
  · unfold elect_Elect_Restore.B1; exact Bm.pos rfl (bad (.inl h1))
  · unfold elect_Elect_Restore.B1; exact Bm.pos rfl (bad (.inr (.inl h2)))
  · unfold elect_Elect_Restore.B1; exact Bm.pos rfl (bad (.inr (.inr (.inl h3))))
  · unfold elect_Elect_Restore.B1
    refine Bm.ite (fun h4 => bad (.inr (.inr (.inr h4)))) (fun h4 => ?_)
    unfold restF at hR
    rw [if_neg (by omega)] at hR
    simp only [Pn, add_mk, Nat.zero_add]
    refine Sts.mk h (by simp) rfl fun w1 hs1 ho1 he1 => Sts.mk ho1 (by simp [size_putArr]) rfl fun w2 hs2 ho2 he2 => ?_
    refine put_ok (i := s.id) (t := t) (x := word s.role s.vote s.leader) (m := 0) (n := s.clock) (d := 3 + 2 * s.id) ho2 (by omega) (by omega) (by omega) fun w3 hs3 ho3 he3 => wind_ok ho3 hw.id fun w4 hs4 ho4 he4 => hR w4 ho4 (((he1.trans he2).trans he3).trans he4)
theorem modRestore_ok {w : World} {p : Nat} {s : ES} {t v : Int} {R : Int → World → Prop} (h : ModAt w p s) (hR : ∀ w', ModAt w' p (restF s t v).2 → Ext [p] w w' → R (restF s t v).1 w') : electm_Elect_Restore.Call (some ⟨p, 0, none⟩) t v w R := by
  apply electm_Elect_Restore.sound
  unfold electm_Elect_Restore.B0
  have bad : (t < 0 ∨ 72057594037927936 < t ∨ v < -1 ∨ 3 ≤ v) → R 1 w := fun hh => by
    unfold restF at hR
    rw [if_pos hh] at hR
    exact hR w h (Ext.refl _ _)
  refine Bm.ite (fun h1 => ?_) (fun h1 => Bm.ite (fun h2 => ?_) (fun h2 => Bm.ite (fun h3 => ?_) (fun h3 => ?_)))
  · unfold electm_Elect_Restore.B1; exact Bm.pos rfl (bad (.inl h1))
  · unfold electm_Elect_Restore.B1; exact Bm.pos rfl (bad (.inr (.inl h2)))
  · unfold electm_Elect_Restore.B1; exact Bm.pos rfl (bad (.inr (.inr (.inl h3))))
  · unfold electm_Elect_Restore.B1
    refine Bm.ite (fun h4 => bad (.inr (.inr (.inr h4)))) (fun h4 => ?_)
    unfold restF at hR
    rw [if_neg (by omega)] at hR
    simp only [Pn, add_mk, Nat.zero_add]
    refine stM h.mc (MC.p1 ..) (by simp) rfl fun w1 hs1 ho1 he1 => stM ho1 (MC.p2 ..) (by simp) rfl fun w2 hs2 ho2 he2 => stM ho2 (MC.p3 ..) (by simp) rfl fun w3 hs3 ho3 he3 => stM ho3 (MC.p4 ..) (by simp) rfl fun w4 hs4 ho4 he4 => stM ho4 (MC.p5 ..) (by simp) rfl fun w5 hs5 ho5 he5 => stM ho5 (MC.p6 ..) (by simp) rfl fun w6 hs6 ho6 he6 => hR w6 (ModAt.zero ho6) (((((he1.trans he2).trans he3).trans he4).trans he5).trans he6)

/-! ### Tick -/
theorem realTick_ok {w : World} {p : Nat} {s : ES} {R : Int → World → Prop} (h : RealAt w p s) (hw : s.Wf) (hR : ∀ w', RealAt w' p (tickF s).2 → Ext [p] w w' → R (tickF s).1 w') : elect_Elect_Tick.Call (some ⟨p, 0, none⟩) w R := by
  apply elect_Elect_Tick.sound
  unfold elect_Elect_Tick.B0
  simp only [Pn, add_mk, Nat.zero_add]
  refine raw_role h hw.role hw.vote hw.leader (turn_ok ?_)
  have hr := hw.role
  have hc := hw.clock
  have hi := hw.id
  have ht := hw.term
  unfold tickF at hR
  by_cases h2 : s.role = 2
  · rw [if_pos h2] at hR
    have e : turnF s.role 0 = -1 := by rw [h2]; rfl
    rw [e]
    exact Bm.pos rfl (hR w h (Ext.refl _ _))
  rw [if_neg h2] at hR
  have e : turnF s.role 0 = 1 := by
    have : s.role = 0 ∨ s.role = 1 := by omega
    rcases this with q | q <;> rw [q] <;> rfl
  rw [e]
  refine Bm.neg rfl (LdI.mk h rfl ?_)
  rw [w64 (x := s.clock + 1) (by omega) (by omega)]
  refine Sts.mk h (by simp) rfl fun w1 hs1 ho1 he1 => ?_
  have hd : Raw w1.drew p s.id s.term (word s.role s.vote s.leader) s.m (s.clock + 1) (3 + 2 * s.id) := ho1.drew
  refine LdI.mk hd rfl (LdI.mk hd rfl (Bm.ite (fun h3 => ?_) (fun h3 => ?_)))
  · rw [if_pos h3] at hR
    exact hR w1.drew hd (he1.trans (Ext.drew _ _))
  rw [if_neg h3] at hR
  refine wind_ok hd hw.id fun w4 hs4 ho4 he4 => LdI.mk ho4 rfl (Bm.ite (fun h4 => ?_) (fun h4 => ?_))
  · rw [if_pos (by omega)] at hR
    exact hR w4 ho4 ((he1.trans (Ext.drew _ _)).trans he4)
  rw [if_neg (by omega)] at hR
  have hd4 := Own.drew ho4
  refine LdI.mk hd4 rfl (LdI.mk hd4 rfl (bit_ok (by omega) ⟨hd4.cell rfl, ?_⟩))
  rw [w64 (x := s.term + 1) (by omega) (by omega)]
  refine Sts.mk hd4 (by simp) rfl fun w6 hs6 ho6 he6 => Sts.mk ho6 (by simp [size_putArr]) rfl fun w7 hs7 ho7 he7 => ?_
  have h7 : Raw w7 p s.id (s.term + 1) (word s.role s.vote s.leader) ((2 ^ s.id.toNat : Nat) : Int) 0 (3 + 2 * s.id) := ho7
  refine LdI.mk h7 rfl (put_ok h7 (by omega) (by omega) (by omega) fun w8 hs8 ho8 he8 => hR w8 ho8 ((((((he1.trans (Ext.drew _ _)).trans he4).trans (Ext.drew _ _)).trans he6).trans he7).trans he8))
theorem pow_bits : ∀ p : Fin 3, (2 ^ p.val : Nat).testBit 0 = decide (p.val = 0) ∧ (2 ^ p.val : Nat).testBit 1 = decide (p.val = 1) ∧ (2 ^ p.val : Nat).testBit 2 = decide (p.val = 2) := by decide +kernel
theorem modTick_ok {w : World} {p : Nat} {s : ES} {R : Int → World → Prop} (h : ModAt w p s) (hw : s.Wf) (hR : ∀ w', ModAt w' p (tickF s).2 → Ext [p] w w' → R (tickF s).1 w') : electm_Elect_Tick.Call (some ⟨p, 0, none⟩) w R := by
  apply electm_Elect_Tick.sound
  unfold electm_Elect_Tick.B0
  simp only [Pn, add_mk, Nat.zero_add]
  have hr := hw.role
  have hc := hw.clock
  have hi := hw.id
  have ht := hw.term
  unfold tickF at hR
  refine modInt h rfl (Bm.mk (fun h2 => ?_) (fun h2 => ?_))
  · rw [if_pos (by simpa using h2)] at hR
    exact hR w h (Ext.refl _ _)
  rw [if_neg (by simpa using h2)] at hR
  refine modInt h rfl ?_
  rw [w64 (x := s.clock + 1) (by omega) (by omega)]
  refine stM h.mc (MC.p5 ..) (by simp) rfl fun w1 hs1 ho1 he1 => LdI.mk ho1.drew rfl (LdI.mk ho1.drew rfl (timeout_ok hw.id ⟨ho1.drew.cell rfl, Bm.ite (fun h3 => ?_) (fun h3 => ?_)⟩))
  · rw [if_pos h3] at hR
    exact hR w1.drew ho1.drew (he1.trans (Ext.drew _ _))
  rw [if_neg h3] at hR
  refine stM ho1.drew (MC.p5 ..) (by simp) rfl fun w3 hs3 ho3 he3 => LdI.mk ho3 rfl (Bm.ite (fun h4 => ?_) (fun h4 => ?_))
  · rw [if_pos (by omega)] at hR
    exact hR w3 ho3 ((he1.trans (Ext.drew _ _)).trans he3)
  rw [if_neg (by omega)] at hR
  refine LdI.mk ho3.drew rfl (LdI.mk ho3.drew rfl ?_)
  rw [w64 (x := s.term + 1) (by omega) (by omega)]
  refine stM ho3.drew (MC.p1 ..) (by simp) rfl fun w4 hs4 ho4 he4 => stM ho4 (MC.p2 ..) (by simp) rfl fun w5 hs5 ho5 he5 => stM ho5 (MC.p3 ..) (by simp) rfl fun w6 hs6 ho6 he6 => stM ho6 (MC.p4 ..) (by simp) rfl fun w7 hs7 ho7 he7 => stM ho7 (MC.p6 ..) (by simp) rfl fun w8 hs8 ho8 he8 => ?_
  refine LdI.mk ho8.drew rfl ⟨⟨hi.1, by omega⟩, ?_⟩
  have E8 : Ext [p] w w8.drew := ((((((((he1.trans (Ext.drew _ _)).trans he3).trans (Ext.drew _ _)).trans he4).trans he5).trans he6).trans he7).trans he8).trans (Ext.drew _ _)
  have pb := pow_bits ⟨s.id.toNat, by omega⟩
  simp only at pb
  have fin : ∀ w9 x y z, Own w9 p (MC s.id (s.term + 1) s.id 1 (-1) 0 x y z) T_electm_Elect → x = decide (s.id.toNat = 0) → y = decide (s.id.toNat = 1) → z = decide (s.id.toNat = 2) → Ext [p] w8.drew w9 → R 1 w9 := fun w9 x y z ho ex ey ez he => by
    refine hR w9 ?_ (E8.trans he)
    unfold ModAt
    simp only
    rw [pb.1, pb.2.1, pb.2.2, ← ex, ← ey, ← ez]
    exact ho
  have hid : s.id.toNat = 0 ∨ s.id.toNat = 1 ∨ s.id.toNat = 2 := by omega
  rcases hid with e | e | e
  · rw [e]
    exact stM ho8.drew (MC.b0 ..) (by simp) rfl fun w9 hs9 ho9 he9 => fin w9 _ _ _ ho9 (by rw [e]; rfl) (by rw [e]; rfl) (by rw [e]; rfl) he9
  · rw [e]
    exact stM ho8.drew (MC.b1 ..) (by simp) rfl fun w9 hs9 ho9 he9 => fin w9 _ _ _ ho9 (by rw [e]; rfl) (by rw [e]; rfl) (by rw [e]; rfl) he9
  · rw [e]
    exact stM ho8.drew (MC.b2 ..) (by simp) rfl fun w9 hs9 ho9 he9 => fin w9 _ _ _ ho9 (by rw [e]; rfl) (by rw [e]; rfl) (by rw [e]; rfl) he9

/-! ### AskedVote -/
theorem realAsk_ok {w : World} {p : Nat} {s : ES} {f t : Int} {up : Bool} {R : Bool → World → Prop} (h : RealAt w p s) (hw : s.Wf) (hR : ∀ w', RealAt w' p (askF s f t up).2 → Ext [p] w w' → R (askF s f t up).1 w') : elect_Elect_AskedVote.Call (some ⟨p, 0, none⟩) f t up w R := by
  apply elect_Elect_AskedVote.sound
  unfold elect_Elect_AskedVote.B0
  unfold askF at hR
  refine realPeer_ok h (Bm.mk (fun h1 => ?_) (fun h1 => ?_))
  · unfold elect_Elect_AskedVote.B1
    rw [if_pos (.inl (by simpa using h1))] at hR
    exact Bm.pos rfl (hR w h (Ext.refl _ _))
  have hp : peerB s f = true := by simpa using h1
  obtain ⟨f0, f1, f2⟩ := peerB_true (s := s) (f := f) (by simp [hp])
  unfold elect_Elect_AskedVote.B1
  refine Bm.ite (fun h2 => ?_) (fun h2 => ?_)
  · rw [if_pos (.inr h2)] at hR
    exact hR w h (Ext.refl _ _)
  rw [if_neg (by simp [hp]; omega)] at hR
  have hws := seeF_wf hw (t := t)
  refine realSee_ok h hw fun w1 h1' he1 => raw_vote h1' hws.role hws.vote hws.leader ?_
  simp only [Pn, add_mk, Nat.zero_add]
  have no : (t < (seeF s t).term ∨ up = false ∨ ((seeF s t).vote ≠ -1 ∧ (seeF s t).vote ≠ f)) → R false w1 := fun hh => by
    rw [if_pos hh] at hR
    exact hR w1 h1' he1
  have yes : ¬ (t < (seeF s t).term ∨ up = false ∨ ((seeF s t).vote ≠ -1 ∧ (seeF s t).vote ≠ f)) → elect_Elect_AskedVote.B2 (some ⟨p, 0, none⟩) f false w1 R := fun hh => by
    rw [if_neg hh] at hR
    unfold elect_Elect_AskedVote.B2
    refine Bm.neg rfl (raw_role h1' hws.role hws.vote hws.leader (raw_leader h1' hws.role hws.vote hws.leader (put_ok h1' hws.role (by omega) hws.leader fun w3 hs3 ho3 he3 => wind_ok ho3 hws.id fun w4 hs4 ho4 he4 => hR w4 ho4 ((he1.trans he3).trans he4))))
  refine LdI.mk h1' rfl (Bm.ite (fun h3 => ?_) (fun h3 => Bm.mk (fun h4 => ?_) (fun h4 => Bm.mk (fun h5 => ?_) (fun h5 => ?_))))
  · unfold elect_Elect_AskedVote.B2; exact Bm.pos rfl (no (.inl h3))
  · unfold elect_Elect_AskedVote.B2; exact Bm.pos rfl (no (.inr (.inl (by simpa using h4))))
  · have h5' : (seeF s t).vote ≠ -1 := by simpa using h5
    by_cases h6 : (seeF s t).vote = f
    · have : ((seeF s t).vote != f) = false := by simp [h6]
      rw [this]
      exact yes (fun hh => by rcases hh with q | q | q; exact h3 q; simp [q] at h4; exact q.2 h6)
    · have : ((seeF s t).vote != f) = true := by simp [h6]
      rw [this]
      unfold elect_Elect_AskedVote.B2
      exact Bm.pos rfl (no (.inr (.inr ⟨h5', h6⟩)))
  · have h5' : (seeF s t).vote = -1 := by simpa using h5
    exact yes (fun hh => by rcases hh with q | q | q; exact h3 q; simp [q] at h4; exact q.1 h5')
theorem modAsk_ok {w : World} {p : Nat} {s : ES} {f t : Int} {up : Bool} {R : Bool → World → Prop} (h : ModAt w p s) (hR : ∀ w', ModAt w' p (askF s f t up).2 → Ext [p] w w' → R (askF s f t up).1 w') : electm_Elect_AskedVote.Call (some ⟨p, 0, none⟩) f t up w R := by
  apply electm_Elect_AskedVote.sound
  unfold electm_Elect_AskedVote.B0
  unfold askF at hR
  refine modPeer_ok h (Bm.mk (fun h1 => ?_) (fun h1 => ?_))
  · unfold electm_Elect_AskedVote.B1
    rw [if_pos (.inl (by simpa using h1))] at hR
    exact Bm.pos rfl (hR w h (Ext.refl _ _))
  have hp : peerB s f = true := by simpa using h1
  unfold electm_Elect_AskedVote.B1
  refine Bm.ite (fun h2 => ?_) (fun h2 => ?_)
  · rw [if_pos (.inr h2)] at hR
    exact hR w h (Ext.refl _ _)
  rw [if_neg (by simp [hp]; omega)] at hR
  refine modSee_ok h fun w1 h1' he1 => ?_
  simp only [Pn, add_mk, Nat.zero_add]
  have no : (t < (seeF s t).term ∨ up = false ∨ ((seeF s t).vote ≠ -1 ∧ (seeF s t).vote ≠ f)) → R false w1 := fun hh => by
    rw [if_pos hh] at hR
    exact hR w1 h1' he1
  have yes : ¬ (t < (seeF s t).term ∨ up = false ∨ ((seeF s t).vote ≠ -1 ∧ (seeF s t).vote ≠ f)) → electm_Elect_AskedVote.B2 (some ⟨p, 0, none⟩) f false w1 R := fun hh => by
    rw [if_neg hh] at hR
    unfold electm_Elect_AskedVote.B2
    simp only [Pn, add_mk, Nat.zero_add]
    exact Bm.neg rfl (stM h1'.mc (MC.p2 ..) (by simp) rfl fun w2 hs2 ho2 he2 => stM ho2 (MC.p5 ..) (by simp) rfl fun w3 hs3 ho3 he3 => hR w3 ho3 ((he1.trans he2).trans he3))
  refine modInt h1' rfl (Bm.ite (fun h3 => ?_) (fun h3 => Bm.mk (fun h4 => ?_) (fun h4 => modInt h1' rfl (Bm.mk (fun h5 => modInt h1' rfl ?_) (fun h5 => ?_)))))
  · unfold electm_Elect_AskedVote.B2; exact Bm.pos rfl (no (.inl h3))
  · unfold electm_Elect_AskedVote.B2; exact Bm.pos rfl (no (.inr (.inl (by simpa using h4))))
  · have h5' : (seeF s t).vote ≠ -1 := by simpa using h5
    by_cases h6 : (seeF s t).vote = f
    · have : ((seeF s t).vote != f) = false := by simp [h6]
      rw [this]
      exact yes (fun hh => by rcases hh with q | q | q; exact h3 q; simp [q] at h4; exact q.2 h6)
    · have : ((seeF s t).vote != f) = true := by simp [h6]
      rw [this]
      unfold electm_Elect_AskedVote.B2
      exact Bm.pos rfl (no (.inr (.inr ⟨h5', h6⟩)))
  · have h5' : (seeF s t).vote = -1 := by simpa using h5
    exact yes (fun hh => by rcases hh with q | q | q; exact h3 q; simp [q] at h4; exact q.1 h5')

/-! ### Heard -/
theorem realHeard_ok {w : World} {p : Nat} {s : ES} {f t : Int} {R : Bool → World → Prop} (h : RealAt w p s) (hw : s.Wf) (hR : ∀ w', RealAt w' p (heardF s f t).2 → Ext [p] w w' → R (heardF s f t).1 w') : elect_Elect_Heard.Call (some ⟨p, 0, none⟩) f t w R := by
  apply elect_Elect_Heard.sound
  unfold elect_Elect_Heard.B0
  unfold heardF at hR
  refine realPeer_ok h (Bm.mk (fun h1 => ?_) (fun h1 => ?_))
  · unfold elect_Elect_Heard.B1
    rw [if_pos (.inl (by simpa using h1))] at hR
    exact Bm.pos rfl (hR w h (Ext.refl _ _))
  have hp : peerB s f = true := by simpa using h1
  obtain ⟨f0, f1, f2⟩ := peerB_true (s := s) (f := f) (by simp [hp])
  unfold elect_Elect_Heard.B1
  refine Bm.ite (fun h2 => ?_) (fun h2 => ?_)
  · rw [if_pos (.inr h2)] at hR
    exact hR w h (Ext.refl _ _)
  rw [if_neg (by simp [hp]; omega)] at hR
  have hws := seeF_wf hw (t := t)
  have hr := hws.role
  refine realSee_ok h hw fun w1 h1' he1 => raw_role h1' hws.role hws.vote hws.leader (turn_ok ?_)
  simp only [Pn, add_mk, Nat.zero_add]
  refine LdI.mk h1' rfl (Bm.ite (fun h3 => ?_) (fun h3 => ?_))
  · rw [if_pos (.inl h3)] at hR
    unfold elect_Elect_Heard.B2
    exact Bm.pos rfl (hR w1 h1' he1)
  unfold elect_Elect_Heard.B2
  by_cases h4 : (seeF s t).role = 2
  · rw [if_pos (.inr h4)] at hR
    have e : turnF (seeF s t).role 4 = -1 := by rw [h4]; rfl
    rw [e]
    exact Bm.pos rfl (hR w1 h1' he1)
  · rw [if_neg (by omega)] at hR
    have e : turnF (seeF s t).role 4 = 0 := by
      have : (seeF s t).role = 0 ∨ (seeF s t).role = 1 := by omega
      rcases this with q | q <;> rw [q] <;> rfl
    rw [e]
    refine Bm.neg rfl (raw_vote h1' hws.role hws.vote hws.leader ?_)
    simp only [Pn, add_mk, Nat.zero_add]
    refine Sts.mk h1' (by simp) rfl fun w2 hs2 ho2 he2 => ?_
    have h2' : Raw w2 p (seeF s t).id (seeF s t).term (word (seeF s t).role (seeF s t).vote (seeF s t).leader) 0 (seeF s t).clock (3 + 2 * (seeF s t).id) := ho2
    exact put_ok h2' (by omega) hws.vote (by omega) fun w3 hs3 ho3 he3 => wind_ok ho3 hws.id fun w4 hs4 ho4 he4 => hR w4 ho4 (((he1.trans he2).trans he3).trans he4)
theorem modHeard_ok {w : World} {p : Nat} {s : ES} {f t : Int} {R : Bool → World → Prop} (h : ModAt w p s) (hR : ∀ w', ModAt w' p (heardF s f t).2 → Ext [p] w w' → R (heardF s f t).1 w') : electm_Elect_Heard.Call (some ⟨p, 0, none⟩) f t w R := by
  apply electm_Elect_Heard.sound
  unfold electm_Elect_Heard.B0
  unfold heardF at hR
  refine modPeer_ok h (Bm.mk (fun h1 => ?_) (fun h1 => ?_))
  · unfold electm_Elect_Heard.B1
    rw [if_pos (.inl (by simpa using h1))] at hR
    exact Bm.pos rfl (hR w h (Ext.refl _ _))
  have hp : peerB s f = true := by simpa using h1
  unfold electm_Elect_Heard.B1
  refine Bm.ite (fun h2 => ?_) (fun h2 => ?_)
  · rw [if_pos (.inr h2)] at hR
    exact hR w h (Ext.refl _ _)
  rw [if_neg (by simp [hp]; omega)] at hR
  refine modSee_ok h fun w1 h1' he1 => ?_
  simp only [Pn, add_mk, Nat.zero_add]
  refine modInt h1' rfl (Bm.ite (fun h3 => ?_) (fun h3 => modInt h1' rfl ?_))
  · rw [if_pos (.inl h3)] at hR
    unfold electm_Elect_Heard.B2
    exact Bm.pos rfl (hR w1 h1' he1)
  unfold electm_Elect_Heard.B2
  refine Bm.mk (fun h4 => ?_) (fun h4 => ?_)
  · rw [if_pos (.inr (by simpa using h4))] at hR
    exact hR w1 h1' he1
  · have h4' : (seeF s t).role ≠ 2 := by simpa using h4
    rw [if_neg (by omega)] at hR
    simp only [Pn, add_mk, Nat.zero_add]
    exact stM h1'.mc (MC.p3 ..) (by simp) rfl fun w2 hs2 ho2 he2 => stM ho2 (MC.p4 ..) (by simp) rfl fun w3 hs3 ho3 he3 => stM ho3 (MC.p5 ..) (by simp) rfl fun w4 hs4 ho4 he4 => stM ho4 (MC.p6 ..) (by simp) rfl fun w5 hs5 ho5 he5 => hR w5 (ModAt.zero ho5) ((((he1.trans he2).trans he3).trans he4).trans he5)
end Go.Proofs.Qxb6500430aGreat.El
