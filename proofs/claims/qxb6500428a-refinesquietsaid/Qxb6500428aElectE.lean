/-
  electlaw: Play, Alike, walk, the three laws.
-/
import Derived.Test.Qxb6500428aElectD
set_option linter.unusedVariables false
set_option linter.unusedSimpArgs false
open Go.Vc
namespace Go.Proofs.Qxb6500428a

/-- Both sides at one state. -/
structure Both (w : World) (p q : Nat) (s : ES) : Prop where
  real : RealAt w p s
  mod : ModAt w q s
  wf : s.Wf
theorem Both.ne {w : World} {p q : Nat} {s : ES} (h : Both w p q s) : p ≠ q := Own.ne_type h.real h.mod (by decide)
theorem Both.ext0 {w w' : World} {p q : Nat} {s : ES} (h : Both w p q s) (he : Ext [] w w') : Both w' p q s := ⟨he.own h.real (by simp), he.own h.mod (by simp), h.wf⟩

/-- A changing call on both sides. -/
theorem both_step {w : World} {p q : Nat} {s s' : ES} (h : Both w p q s) (hw : s'.Wf) {w1 w2 : World} (h1 : RealAt w1 p s') (he1 : Ext [p] w w1) (h2 : ModAt w2 q s') (he2 : Ext [q] w1 w2) : Both w2 p q s' ∧ Ext [p, q] w w2 :=
  ⟨⟨he2.own h1 (by simp; exact h.ne), h2, hw⟩, (he1.mono (fun x hx _ => by simp at hx; simp [hx])).trans (he2.mono (fun x hx _ => by simp at hx; simp [hx]))⟩
theorem both_mod {w w1 : World} {p q : Nat} {s : ES} (h : Both w p q s) (he1 : Ext [p] w w1) : ModAt w1 q s := he1.own h.mod (by simp; exact fun e => h.ne e.symm)

theorem play_ok {w : World} {p q : Nat} {s : ES} {o0 o1 o2 o3 : Int} {o4 o5 : ByteArray} {R : Bool → World → Prop} (h : Both w p q s) (hR : ∀ w' s', Both w' p q s' → Ext [p, q] w w' → R true w') : electlaw_Play.Call (some ⟨p, 0, none⟩) (some ⟨q, 0, none⟩) o0 o1 o2 o3 o4 o5 w R := by
  apply electlaw_Play.sound
  unfold electlaw_Play.B0
  refine New.mk fun o w1 ho hs1 oo1 he1 => LdI.mk oo1 rfl ?_
  have h1 := h.ext0 he1
  have stay : ∀ w', Ext [] w1 w' → R true w' := fun w' he => hR w' s (h1.ext0 he) (he1.trans he).nil
  have go : ∀ (s' : ES) (wa wb : World), s'.Wf → RealAt wa p s' → Ext [p] w1 wa → ModAt wb q s' → Ext [q] wa wb → R true wb := fun s' wa wb hw' ha ea hb eb => by
    obtain ⟨g1, g2⟩ := both_step h1 hw' ha ea hb eb
    exact hR wb s' g1 (he1.nil.trans g2)
  refine Bm.mk (fun _ => ?_) (fun _ => Bm.mk (fun _ => ?_) (fun _ => Bm.mk (fun _ => ?_) (fun _ => Bm.mk (fun _ => ?_) (fun _ => Bm.mk (fun _ => ?_) (fun _ => Bm.mk (fun _ => ?_) (fun _ => ?_))))))
  · apply electlaw_SameTick.sound
    unfold electlaw_SameTick.B0
    refine realTick_ok h1.real h1.wf fun wa ha ea => modTick_ok (both_mod h1 ea) h1.wf fun wb hb eb => ?_
    have := go _ wa wb (tickF_wf h1.wf) ha ea hb eb
    simpa using this
  · refine LdI.mk oo1 rfl ?_
    apply electlaw_SameSee.sound
    unfold electlaw_SameSee.B0
    refine realSee_ok h1.real h1.wf fun wa ha ea => modSee_ok (both_mod h1 ea) fun wb hb eb => ?_
    have := go _ wa wb (seeF_wf h1.wf) ha ea hb eb
    simpa using this
  · refine LdI.mk oo1 rfl (LdI.mk oo1 rfl (LdI.mk oo1 rfl ?_))
    apply electlaw_SameAskedVote.sound
    unfold electlaw_SameAskedVote.B0
    refine realAsk_ok h1.real h1.wf fun wa ha ea => modAsk_ok (both_mod h1 ea) fun wb hb eb => ?_
    have := go _ wa wb (askF_wf h1.wf) ha ea hb eb
    simpa using this
  · refine LdI.mk oo1 rfl (LdI.mk oo1 rfl (LdI.mk oo1 rfl ?_))
    apply electlaw_SameGotVote.sound
    unfold electlaw_SameGotVote.B0
    refine realGotV_ok h1.real h1.wf fun wa ha ea => modGotV_ok (both_mod h1 ea) h1.wf fun wb hb eb => ?_
    have := go _ wa wb (gotF_wf h1.wf) ha ea hb eb
    simpa using this
  · refine LdI.mk oo1 rfl (LdI.mk oo1 rfl ?_)
    apply electlaw_SameHeard.sound
    unfold electlaw_SameHeard.B0
    refine realHeard_ok h1.real h1.wf fun wa ha ea => modHeard_ok (both_mod h1 ea) fun wb hb eb => ?_
    have := go _ wa wb (heardF_wf h1.wf) ha ea hb eb
    simpa using this
  · refine LdI.mk oo1 rfl (LdI.mk oo1 rfl ?_)
    apply electlaw_SameRestore.sound
    unfold electlaw_SameRestore.B0
    refine realRestore_ok h1.real h1.wf fun wa ha ea => modRestore_ok (both_mod h1 ea) fun wb hb eb => ?_
    have := go _ wa wb (restF_wf h1.wf) ha ea hb eb
    simpa using this
  have w1w := h1.wf
  refine Bm.mk (fun _ => ?_) (fun _ => Bm.mk (fun _ => ?_) (fun _ => Bm.mk (fun _ => ?_) (fun _ => Bm.mk (fun _ => ?_) (fun _ => Bm.mk (fun _ => ?_) (fun _ => Bm.mk (fun _ => ?_) (fun _ => Bm.mk (fun _ => ?_) (fun _ => Bm.mk (fun _ => ?_) (fun _ => stay w1 (Ext.refl _ _)))))))))
  · apply electlaw_SameId.sound
    unfold electlaw_SameId.B0
    have := stay w1 (Ext.refl _ _)
    exact realId_ok h1.real (modId_ok h1.mod (by simpa using this))
  · apply electlaw_SameTerm.sound
    unfold electlaw_SameTerm.B0
    have := stay w1 (Ext.refl _ _)
    exact realTerm_ok h1.real (modTerm_ok h1.mod (by simpa using this))
  · apply electlaw_SameVote.sound
    unfold electlaw_SameVote.B0
    have := stay w1 (Ext.refl _ _)
    exact raw_vote h1.real w1w.role w1w.vote w1w.leader (modVote_ok h1.mod (by simpa using this))
  · apply electlaw_SameRole.sound
    unfold electlaw_SameRole.B0
    have := stay w1 (Ext.refl _ _)
    exact raw_role h1.real w1w.role w1w.vote w1w.leader (modRole_ok h1.mod (by simpa using this))
  · apply electlaw_SameLeader.sound
    unfold electlaw_SameLeader.B0
    have := stay w1 (Ext.refl _ _)
    exact raw_leader h1.real w1w.role w1w.vote w1w.leader (modLeader_ok h1.mod (by simpa using this))
  · apply electlaw_SameClock.sound
    unfold electlaw_SameClock.B0
    have := stay w1.drew (Ext.drew _ _)
    exact realClock_ok h1.real h1.wf (modClock_ok (Own.drew h1.mod) (by simpa using this))
  · refine LdI.mk oo1 rfl ?_
    apply electlaw_SameGot.sound
    unfold electlaw_SameGot.B0
    have := stay w1.drew (Ext.drew _ _)
    exact realGot_ok h1.real h1.wf (modGot_ok (Own.drew h1.mod) (by simpa using this))
  · apply electlaw_Sound.sound
    unfold electlaw_Sound.B0
    refine check_ok h1.real h1.wf fun w2 he2 => ?_
    have := stay w2 he2
    simpa using this

/-- An observer's op changes nothing: said for all ops of Alike by the state's own comparison being blind to which state it is. -/
theorem alike_ok {w : World} {p q : Nat} {s : ES} {R : Bool → World → Prop} (h : Both w p q s) (hR : ∀ w' s', Both w' p q s' → Ext [p, q] w w' → R true w') : electlaw_Alike.Call (some ⟨p, 0, none⟩) (some ⟨q, 0, none⟩) w R := by
  apply electlaw_Alike.sound
  unfold electlaw_Alike.B0 electlaw_Alike.L1
  refine ⟨fun m x y k w' => some ⟨p, 0, none⟩ = x ∧ some ⟨q, 0, none⟩ = y ∧ 0 ≤ k ∧ k ≤ 29 ∧ m = (29 - k).toNat ∧ Ext [p, q] w w' ∧ ∃ s', Both w' p q s', 8, ⟨rfl, rfl, by omega, by omega, rfl, Ext.refl _ _, s, h⟩, ?_⟩
  rintro m x y k w' ⟨rfl, rfl, k0, k1, rfl, he, s', h'⟩
  unfold electlaw_Alike.L1b
  refine Bm.ite (fun hk => ?_) (fun hk => ?_)
  · have nxt : ∀ w2 s2, Both w2 p q s2 → Ext [p, q] w' w2 → electlaw_Alike.B1 (some ⟨p, 0, none⟩) (some ⟨q, 0, none⟩) k false w2 (fun x y k' w' => ∃ m', m' < (29 - k).toNat ∧ some ⟨p, 0, none⟩ = x ∧ some ⟨q, 0, none⟩ = y ∧ 0 ≤ k' ∧ k' ≤ 29 ∧ m' = (29 - k').toNat ∧ Ext [p, q] w w' ∧ ∃ s', Both w' p q s') R := fun w2 s2 h2 he2 => by
      unfold electlaw_Alike.B1
      refine Bm.neg rfl ?_
      rw [w64 (by omega) (by omega)]
      exact ⟨(29 - (k + 1)).toNat, by omega, rfl, rfl, by omega, by omega, rfl, he.trans he2, s2, h2⟩
    refine Bm.mk (fun _ => play_ok h' fun w2 s2 h2 he2 => nxt w2 s2 h2 he2) (fun _ => nxt w' s' h' (Ext.refl _ _))
  · unfold electlaw_Alike.L2
    refine ⟨fun m x y k w' => some ⟨p, 0, none⟩ = x ∧ some ⟨q, 0, none⟩ = y ∧ -1 ≤ k ∧ k ≤ 4 ∧ m = (4 - k).toNat ∧ Ext [p, q] w w' ∧ ∃ s', Both w' p q s', 5, ⟨rfl, rfl, by omega, by omega, rfl, he, s', h'⟩, ?_⟩
    rintro m x y k w' ⟨rfl, rfl, k0, k1, rfl, he, s', h'⟩
    unfold electlaw_Alike.L2b
    refine Bm.ite (fun hk => ?_) (fun hk => hR w' s' h' he)
    apply electlaw_SameGot.sound
    unfold electlaw_SameGot.B0
    refine realGot_ok h'.real h'.wf (modGot_ok (Own.drew h'.mod) (Bm.neg (by simp) ?_))
    rw [w64 (by omega) (by omega)]
    exact ⟨(4 - (k + 1)).toNat, by omega, rfl, rfl, by omega, by omega, rfl, he.trans (Ext.drew _ _), s', h'.ext0 (Ext.drew _ _)⟩

def Inv (w0 : World) (x y : Option Addr) (w : World) : Prop := Ext [] w0 w ∧ ∃ p q s, x = some ⟨p, 0, none⟩ ∧ y = some ⟨q, 0, none⟩ ∧ w0.heap.size ≤ p ∧ w0.heap.size ≤ q ∧ Both w p q s

theorem walk_ok {w : World} {sb : Option Addr} {n c : Nat} {ops : Nat → OpV} {quiet : Bool} {R : Int → Int → World → Prop} (hs : ScriptIs w sb n ops) (hR : ∀ m w', Ext [] w w' → R (-1) m w') : electlaw_walk.Call sb n c quiet w R := by
  apply electlaw_walk.sound
  unfold electlaw_walk.B0
  have hnn := hs.1
  have main : ∀ x y w', Inv w x y w' → electlaw_walk.B1 sb n c quiet x y false w' R := by
    intro x y w' hI
    unfold electlaw_walk.B1
    refine Bm.neg rfl ?_
    unfold electlaw_walk.L1
    refine ⟨fun m sb' n' c' q' x y i w' => sb = sb' ∧ n = n' ∧ c = c' ∧ quiet = q' ∧ 0 ≤ i ∧ i ≤ n ∧ m = (n - i).toNat ∧ Inv w x y w', n, ⟨rfl, rfl, rfl, rfl, by omega, by omega, by omega, hI⟩, ?_⟩
    rintro m sb' n' c' q' x y i w' ⟨rfl, rfl, rfl, rfl, i0, i1, rfl, hI⟩
    unfold electlaw_walk.L1b
    have stop : ∀ t : Bool, t = false → electlaw_walk.B2 sb n c quiet x y i t w' (fun sb' n' c' q' x y i' w' => ∃ m', m' < (n - i).toNat ∧ sb = sb' ∧ n = n' ∧ c = c' ∧ quiet = q' ∧ 0 ≤ i' ∧ i' ≤ n ∧ m' = (n - i').toNat ∧ Inv w x y w') R := by
      intro t ht
      unfold electlaw_walk.B2
      generalize (decide (((n : Nat) : Int) < 4398046511104)) = bb
      exact Bm.neg ht (Bm.mk (fun _ => hR _ w' hI.1) (fun _ => hR _ w' hI.1))
    by_cases hi : i < (n : Int)
    rotate_left
    · generalize hf : false = ff
      exact Bm.neg (decide_eq_false hi) (stop ff hf.symm)
    refine Bm.pos (decide_eq_true hi) ?_
    by_cases hi2 : i < 4398046511104
    · rw [decide_eq_true hi2]
      unfold electlaw_walk.B2
      refine Bm.pos rfl ?_
      obtain ⟨hE, p, q, s, rfl, rfl, hp, hq, hB⟩ := hI
      obtain ⟨x, rfl, hop⟩ := hs.2 i.toNat (by omega)
      have cl : ∀ {y : Addr} {v : Value}, y.block = (x.add (i.toNat * 6)).block → w.cell? y = some v → w'.cell? y = some v := fun {y v} hy hv => by
        rw [hE.cell (by rw [hy]; exact hop.blk) (by simp)]
        exact hv
      have bk : ∀ j, ((x.add (i.toNat * 6)).add j).block = (x.add (i.toNat * 6)).block := fun j => by unfold Addr.add; split <;> rfl
      have b3 : ∀ x' y' w2, Inv w x' y' w2 → electlaw_walk.B3 (some x) n c quiet x' y' i w2 (fun sb' n' c' q' x y i' w' => ∃ m', m' < (n - i).toNat ∧ some _ = sb' ∧ n = n' ∧ c = c' ∧ quiet = q' ∧ 0 ≤ i' ∧ i' ≤ n ∧ m' = (n - i').toNat ∧ Inv w x y w') R := fun x' y' w2 hI2 => by
        have b4 : ∀ w3, Inv w x' y' w3 → electlaw_walk.B4 (some x) n c quiet x' y' i false w3 (fun sb' n' c' q' x y i' w' => ∃ m', m' < (n - i).toNat ∧ some _ = sb' ∧ n = n' ∧ c = c' ∧ quiet = q' ∧ 0 ≤ i' ∧ i' ≤ n ∧ m' = (n - i').toNat ∧ Inv w x y w') R := fun w3 hI3 => by
          unfold electlaw_walk.B4
          refine Bm.neg rfl ?_
          rw [w64 (by omega) (by omega)]
          exact ⟨(n - (i + 1)).toNat, by omega, rfl, rfl, rfl, rfl, by omega, by omega, rfl, hI3⟩
        unfold electlaw_walk.B3
        refine Bm.mk (fun _ => ?_) (fun _ => b4 w2 hI2)
        obtain ⟨hE2, p2, q2, s2, rfl, rfl, hp2, hq2, hB2⟩ := hI2
        exact alike_ok hB2 fun w3 s3 h3 he3 => b4 w3 ⟨hE2.trans' he3 (fun x hx hlt => by simp at hx; omega), p2, q2, s3, rfl, rfl, hp2, hq2, h3⟩
      refine Pn.mk ⟨⟨i0, hi⟩, ⟨_, cl rfl hop.k, ⟨_, cl (bk 1) hop.a, ⟨_, cl (bk 2) hop.b, ⟨_, cl (bk 3) hop.c, ⟨_, cl (bk 4) hop.s, ⟨_, cl (bk 5) hop.t, ?_⟩⟩⟩⟩⟩⟩⟩
      refine NewSet.mk rfl rfl fun o w2 ho hs2 oo he2 => LdI.mk oo rfl (Bm.mk (fun _ => LdI.mk oo rfl (realNew_ok fun p2 w3 hp2 h3 he3 => LdI.mk (he3.own oo (by simp)) rfl (modNew_ok fun q2 w4 hq2 h4 he4 => ?_))) (fun _ => ?_))
      · have hz2 := (hE.trans he2).size
        have hz3 := he3.size
        exact b3 _ _ w4 ⟨((hE.trans he2).trans he3).trans he4, p2, q2, _, rfl, rfl, by omega, by omega, ⟨he4.own h3 (by simp), h4, newF_wf _⟩⟩
      · refine LdI.mk oo rfl (LdI.mk oo rfl (LdI.mk oo rfl (LdI.mk oo rfl (LdS.mk oo rfl (LdS.mk oo rfl (play_ok (hB.ext0 he2) fun w3 s3 h3 he3 => Bm.neg rfl ?_))))))
        exact b3 _ _ w3 ⟨(hE.trans he2).trans' he3 (fun x hx hlt => by simp at hx; omega), p, q, s3, rfl, rfl, hp, hq, h3⟩
    · exact stop _ (decide_eq_false hi2)
  refine realNew_ok fun p w1 hp h1 he1 => modNew_ok fun q w2 hq h2 he2 => ?_
  have hz1 := he1.size
  have hB : Both w2 p q (newF 0) := ⟨he2.own h1 (by simp), h2, newF_wf 0⟩
  refine Bm.mk (fun _ => alike_ok hB fun w3 s3 h3 he3 => main _ _ w3 ⟨(he1.trans he2).trans' he3 (fun x hx hlt => by simp at hx; omega), p, q, s3, rfl, rfl, hp, by omega, h3⟩) (fun _ => main _ _ w2 ⟨he1.trans he2, p, q, _, rfl, rfl, hp, by omega, hB⟩)

theorem refines_law {w : World} {sb : Option Addr} {n c : Nat} {ops : Nat → OpV} (hs : ScriptIs w sb n ops) {R : Bool → World → Prop} (hR : ∀ w', Ext [] w w' → R true w') : electlaw_Refines.Call sb n c w R := by
  apply electlaw_Refines.sound
  unfold electlaw_Refines.B0
  apply electlaw_RefinesUpTo.sound
  unfold electlaw_RefinesUpTo.B0
  exact walk_ok hs fun m w' he => hR w' he
theorem refinesSteady_law {w : World} {sb : Option Addr} {n c : Nat} {ops : Nat → OpV} (hs : ScriptIs w sb n ops) {R : Bool → World → Prop} (hR : ∀ w', Ext [] w w' → R true w') : electlaw_RefinesSteady.Call sb n c w R := by
  apply electlaw_RefinesSteady.sound
  unfold electlaw_RefinesSteady.B0
  exact refines_law hs fun w' he => hR w' he
theorem refinesQuiet_law {w : World} {sb : Option Addr} {n c : Nat} {ops : Nat → OpV} (hs : ScriptIs w sb n ops) {R : Bool → World → Prop} (hR : ∀ w', Ext [] w w' → R true w') : electlaw_RefinesQuiet.Call sb n c w R := by
  apply electlaw_RefinesQuiet.sound
  unfold electlaw_RefinesQuiet.B0
  exact walk_ok hs fun m w' he => hR w' he
end Go.Proofs.Qxb6500428a
