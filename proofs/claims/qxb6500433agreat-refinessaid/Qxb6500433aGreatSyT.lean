/-
  synclaw: the ground, the cut, Match, Seen, Idle; the two sides.
-/
import Derived.Test.Qxb6500433aGreatSyS
set_option linter.unusedVariables false
set_option linter.unusedSimpArgs false
open Go.Vc
namespace Go.Proofs.Qxb6500433aGreat
section
variable {w w' : World} {s l t d e : Nat} {D : DiskS} {F : List Nat} {A : AbsS} {Y Z : YS} {s2 q e2 : Nat} {M : MSt} {S : List LogS} {N : Int}
theorem wSteps_ok {b1 : Option Addr} {R : Int → World → Prop} (hD : DiskAt w d D F) (hR : ∀ w', Ext [] w w' → R (D.log.length : Int) w') : synclaw_Steps.Call (some ⟨d, 0, none⟩) b1 w R := by
  apply synclaw_Steps.sound
  unfold synclaw_Steps.B0
  exact New.mk fun b w1 hb hs1 ob1 he1 => LdP.mk ob1 rfl (diskSteps_ok (hD.ext he1 (by simp)) (hR w1 he1))
theorem wMark_ok {b1 : Option Addr} {R : World → Prop} (hD : DiskAt w d D F) (hR : ∀ w' F', DiskAt w' d D.marked F' → Ext F w w' → Grew w F F' → R w') : synclaw_Mark.Call (some ⟨d, 0, none⟩) b1 w R := by
  apply synclaw_Mark.sound
  unfold synclaw_Mark.B0
  exact New.mk fun b w1 hb hs1 ob1 he1 => LdP.mk ob1 rfl (diskMark_ok (hD.ext he1 (by simp)) fun w2 F2 hD2 he2 hg2 => hR w2 F2 hD2 (he1.nil.trans he2) (fun k hk => (hg2 k hk).imp id (fun z => by have := he1.size; omega)))
theorem wGround_ok {R : Option Addr → Option Addr → World → Prop} (hR : ∀ d l t F A w', (∀ k ∈ F, w.heap.size ≤ k) → w.heap.size ≤ t → w.heap.size ≤ l → Real w' l t d freshDisk F A L0 → Path freshDisk [L0] 0 → Ext [] w w' → R (some ⟨d, 0, none⟩) (some ⟨l, 0, none⟩) w') : synclaw_Ground.Call w R := by
  apply synclaw_Ground.sound
  unfold synclaw_Ground.B0
  refine New.mk fun b w1 hb hs1 ob1 he1 => diskNew_ok fun d F w2 hd hF hD2 he2 => open_ok hD2 fresh_good.wf fun t w3 ht hS3 he3 => ?_
  have hz1 := he1.size
  have hz2 := he2.size
  have hz3 := he3.size
  have hbl := ob1.lt
  have ob3 := he3.own (he2.own ob1 (by simp)) (by simp)
  have st3 : St w3 t d freshDisk F A0 := ⟨hS3, hD2.ext he3 (by simp), likeI_mk (d := d) fresh_like⟩
  have p0 : Path freshDisk [L0] 0 := path_marked (D := freshDisk) fresh_good st3.like holds_0
  refine openL_ok st3 p0 (by simp [freshDisk]) holds_0 L0_ok fun l w4 D4 F4 A4 hl r4 p4 q4 z4 he4 hg4 => ?_
  have hD4 := z4 clean_0
  subst hD4
  have ob4 := ownT he4 st3.tys ob3 (by decide)
  refine Sts.full ob4 rfl rfl fun w5 hs5 ob5 he5 => LdP.mk ob5 rfl (LdP.mk ob5 rfl ?_)
  have r5 := r4.extY he5 (Tys.one ob4) (fun q hq => by simp at hq; subst hq; decide)
  refine hR d l t F4 A4 w5 (fun k hk => ?_) (by omega) (by omega) r5 p4 ?_
  · rcases hg4 k hk with z | z
    · have := hF k z; omega
    · omega
  · exact (((he1.trans he2).trans he3).trans' he4 (fun x hx hlt => by
      rcases List.mem_cons.1 hx with e | e
      · omega
      · have := hF x e; omega)).trans' he5 (fun x hx hlt => by simp at hx; omega)
theorem wAfter_ok {k : Int} {b1 : Option Addr} {L' : LogS} {R : Option Addr → Option Addr → World → Prop} (hD : DiskAt w d D F) (hm : ImgWf D.mark) (hl : LogWf D) (hL : D.log.length ≤ 1000) (hg : Good (img (cutI D k.toNat)) N) (hi : LikeI (cutI D k.toNat) A) (hh : Holds A L') (okL : LogOk L')
    (hR : ∀ n l t D' F' A' w', (∀ x ∈ F', w.heap.size ≤ x) → w.heap.size ≤ t → w.heap.size ≤ l → Real w' l t n D' F' A' L' → Path D' [L'] N → D'.log.length ≤ 12 → Ext [] w w' → R (some ⟨n, 0, none⟩) (some ⟨l, 0, none⟩) w') : synclaw_After.Call (some ⟨d, 0, none⟩) b1 k w R := by
  apply synclaw_After.sound
  unfold synclaw_After.B0
  refine New.mk fun b w1 hb hs1 ob1 he1 => New.mk fun b4 w2 hb4 hs2 ob42 he2 => LdP.mk (he2.own ob1 (by simp)) rfl ?_
  have E2 : Ext [] w w2 := he1.trans he2
  refine diskAfter_ok (hD.ext E2 (by simp)) hm hl hL fun n F' w3 hF' hD3 he3 => diskMark_ok hD3 fun w4 F4 hD4 he4 hg4 => ?_
  have hz2 := E2.size
  have hz3 := he3.size
  have hz4 := he4.size
  have hb4F : b4 ∉ F' := fun hx => by have := hF' b4 hx; omega
  have ob44 := he4.own (he3.own ob42 (by simp)) hb4F
  have E4 : Ext [] w w4 := (E2.trans he3).trans' he4 (fun x hx hlt => by have := hF' x hx; omega)
  have hF4 : ∀ x ∈ F4, w2.heap.size ≤ x := fun x hx => by
    rcases hg4 x hx with q1 | q1
    · exact hF' x q1
    · omega
  refine open_ok (D := img (cutI D k.toNat)) hD4 hg.wf fun t w5 ht hS5 he5 => ?_
  have hz5 := he5.size
  have st5 : St w5 t n (img (cutI D k.toNat)) F4 A := ⟨hS5, DiskAt.ext (D := img (cutI D k.toNat)) hD4 he5 (by simp), hi⟩
  have p8 : Path (img (cutI D k.toNat)) [L'] N := path_marked (D := img (cutI D k.toNat)) hg hi hh
  refine openL_ok st5 p8 (by simp [img]) hh okL fun l' w9 D9 F9 A9 hl' r9 p9 q9 _ he9 hg9 => ?_
  have ob9 := ownT he9 st5.tys (he5.own ob44 (by simp)) (by decide)
  refine Sts.full ob9 rfl rfl fun w6 hs6 ob6 he6 => LdP.mk ob6 rfl (LdP.mk ob6 rfl ?_)
  have r6 := r9.extY he6 (Tys.one ob9) (fun q hq => by simp at hq; subst hq; decide)
  have hlog9 : D9.log.length ≤ 12 := by simpa [img] using q9
  refine hR n l' t D9 F9 A9 w6 (fun x hx => ?_) (by omega) (by omega) r6 p9 hlog9 ?_
  · rcases hg9 x hx with z | z
    · have := hF4 x z; omega
    · omega
  · exact ((E4.trans he5).trans' he9 (fun x hx hlt => by
      rcases List.mem_cons.1 hx with e | e
      · omega
      · have := hF4 x e; omega)).trans' he6 (fun x hx hlt => by simp at hx; omega)
theorem newF_idem (i : Int) : (El.newF (El.newF i).id).id = (El.newF i).id := by
  unfold El.newF
  simp only
  by_cases c : i < 0 ∨ 3 ≤ i
  · rw [if_pos c]; rfl
  · rw [if_neg c, if_neg c]
theorem openY_id (i : Int) {L : LogS} (h : LogOk L) : (openY i L).e.id = (El.newF i).id := by
  show (El.restF (El.newF i) L.term L.vote).2.id = _
  unfold El.restF
  split <;> rfl
theorem wMatch_ok {i : Int} {L L0' : LogS} {R : Int → World → Prop} (h : Rest w s l t d e D F A (openY i L)) (hL : LogOk L) (hm : MRest w s2 q e2 M Y) (h0 : M.A0 = gs L0') (hH : M.H.map (·.2) = S.map gs) (hlen : S.length ≤ 100) (hok : AllOk (L0' :: S)) (hin : L ∈ L0' :: S) (hid : Y.e.id = (El.newF i).id)
    (hR : ∀ (j : Nat) w', (L0' :: S)[j]? = some L → (∀ k, k < j → (L0' :: S)[k]? ≠ some L) → Ext [] w w' → R (j : Int) w') : synclaw_Match.Call (some ⟨s, 0, none⟩) (some ⟨s2, 0, none⟩) w R := by
  apply synclaw_Match.sound
  unfold synclaw_Match.B0
  have hl : M.H.length = S.length := by simpa using congrArg List.length hH
  have hidn : (El.newF i).id = (El.newF Y.e.id).id := by rw [hid, newF_idem]
  refine msteps_ok hm ?_
  unfold synclaw_Match.L1
  refine ⟨fun m a b n j w' => some ⟨s, 0, none⟩ = a ∧ some ⟨s2, 0, none⟩ = b ∧ (M.H.length : Int) = n ∧ ∃ k : Nat, j = (k : Int) ∧ k ≤ S.length + 1 ∧ m = S.length + 1 - k ∧ Ext [] w w' ∧ ∀ i, i < k → (L0' :: S)[i]? ≠ some L, _, ⟨rfl, rfl, rfl, 0, rfl, by omega, rfl, Ext.refl _ _, fun i hi => by omega⟩, ?_⟩
  rintro m a b n j w1 ⟨rfl, rfl, rfl, k, rfl, hk, rfl, hE, hno⟩
  unfold synclaw_Match.L1b
  rw [hl]
  refine Bm.ite (fun hc => ?_) fun hc => ?_
  · obtain ⟨X, hX⟩ : ∃ X, (L0' :: S)[k]? = some X := ⟨_, List.getElem?_eq_getElem (by simp; omega)⟩
    have okX := hok X (List.mem_of_getElem? hX)
    refine mafter_ok (i := i) (hm.ext0 hE) (by omega) (at_get h0 hH hX) okX hidn fun s' q' e' M' w2 _ _ _ hM' hA0' hH' he2 => ?_
    have E2 := hE.trans he2
    refine lawAlike_ok (h.ext0 E2) hM' (open_inv i hL) (open_inv i okX) fun x w3 g1 g2 he3 => ?_
    have E3 := E2.trans he3
    cases x with
    | true =>
      have e : L = X := g1 rfl
      subst e
      exact Bm.pos rfl (hR k w3 hX hno E3)
    | false =>
      refine Bm.neg rfl ?_
      rw [w64 (by omega) (by omega)]
      refine ⟨S.length + 1 - (k + 1), by omega, rfl, rfl, rfl, k + 1, by omega, by omega, rfl, E3, fun i' hi' => ?_⟩
      by_cases ei : i' = k
      · rw [ei, hX]
        intro e2'
        have := g2 (by rw [← Option.some.inj e2'])
        cases this
      · exact hno i' (by omega)
  · exfalso
    obtain ⟨i', hi'⟩ := List.getElem?_of_mem hin
    have := (List.getElem?_eq_some_iff.1 hi').1
    exact hno i' (by simp at this; omega) hi'
theorem wSeen_ok {b1 : Option Addr} {R : Bool → World → Prop} (h : Rest w s l t d e D F A Y) (hm : MRest w s2 q e2 M Y) (hY : YsOk Y) (hR : ∀ w', Ext [] w w' → R true w') : synclaw_Seen.Call (some ⟨s, 0, none⟩) (some ⟨s2, 0, none⟩) (some ⟨d, 0, none⟩) b1 (D.log.length : Int) w R := by
  apply synclaw_Seen.sound
  unfold synclaw_Seen.B0
  refine New.mk fun b w1 hb hs1 ob he1 => checkS_ok (h.ext0 he1) hY fun w2 he2 => Bm.neg (by rw [estr_eq]; rfl) ?_
  have E2 := he1.trans he2
  refine lawAlike_ok (h.ext0 E2) (hm.ext0 E2) hY hY fun x w3 _ g2 he3 => ?_
  rw [g2 rfl]
  have E3 := E2.trans he3
  have ob3 := (he2.trans he3).own ob (by simp)
  refine Bm.neg rfl (LdP.mk ob3 rfl (LdP.mk ob3 rfl (wSteps_ok (h.real.st.dk.ext E3 (by simp)) fun w4 he4 => ?_)))
  rw [beq_self_eq_true]
  exact hR w4 (E3.trans he4)
theorem wIdle_ok {b1 : Option Addr} {R : Bool → World → Prop} (hD : DiskAt w d D F) (hm : MRest w s2 q e2 M Y) (hi : M.H = [] → D.log = []) (hR : ∀ w', Ext [] w w' → R true w') : synclaw_Idle.Call (some ⟨d, 0, none⟩) b1 (some ⟨s2, 0, none⟩) w R := by
  apply synclaw_Idle.sound
  unfold synclaw_Idle.B0
  refine New.mk fun b w1 hb hs1 ob1 he1 => msteps_ok (hm.ext0 he1) (Bm.mk (fun _ => hR w1 he1) fun hz => LdP.mk ob1 rfl (LdP.mk ob1 rfl (wSteps_ok (hD.ext he1 (by simp)) fun w2 he2 => ?_)))
  have : M.H = [] := List.eq_nil_of_length_eq_zero (by simpa using hz)
  rw [hi this]
  exact hR w2 (he1.trans he2)
end
/-! ### the two sides -/
abbrev SideT : List TypeId := CT ++ MT
def sfoot (x l t e : Nat) (F : List Nat) (s q me : Nat) (M : MSt) : List Nat := x :: e :: l :: t :: (F ++ s :: me :: M.foot q)
structure Sides (w : World) (x l t d e : Nat) (D : DiskS) (F : List Nat) (A : AbsS) (s q me : Nat) (M : MSt) (Y : YS) (L0 : LogS) (S : List LogS) (N : Int) (lo : Nat) : Prop where
  rest : Rest w x l t d e D F A Y
  mrest : MRest w s q me M Y
  ok : YsOk Y
  path : Path D (L0 :: S) N
  fin : Y.L = finL L0 S
  A0 : M.A0 = gs L0
  H : M.H.map (·.2) = S.map gs
  aok : AllOk (L0 :: S)
  log : D.log.length ≤ 250
  slen : S.length ≤ 12
  ge : ∀ k ∈ sfoot x l t e F s q me M, lo ≤ k
section
variable {w w' : World} {x l t d e : Nat} {D : DiskS} {F : List Nat} {A : AbsS} {s q me : Nat} {M : MSt} {Y : YS} {L0 : LogS} {S : List LogS} {N : Int} {lo : Nat}
theorem Rest.tys (h : Rest w x l t d e D F A Y) : Tys w (x :: e :: l :: t :: F) CT := fun k hk hz => by
  obtain ⟨bx, o⟩ := h.own
  rcases List.mem_cons.1 hk with rfl | hk
  · exact ⟨_, _, o, by simp⟩
  rcases List.mem_cons.1 hk with rfl | hk
  · exact ⟨_, _, h.el, by simp⟩
  obtain ⟨cs, T, ho, hT⟩ := h.real.tys k hk hz
  refine ⟨cs, T, ho, ?_⟩
  simp only [List.mem_cons, List.not_mem_nil, or_false] at hT
  rcases hT with e | e | e | e | e <;> simp [e]
theorem MRest.tys (h : MRest w s q me M Y) : Tys w (s :: me :: M.foot q) MT := fun k hk hz => by
  rcases List.mem_cons.1 hk with rfl | hk
  · exact ⟨_, _, h.own, by simp⟩
  rcases List.mem_cons.1 hk with rfl | hk
  · exact ⟨_, _, h.el, by simp⟩
  obtain ⟨cs, T, ho, hT⟩ := h.md.tys k hk hz
  refine ⟨cs, T, ho, ?_⟩
  simp only [List.mem_cons, List.not_mem_nil, or_false] at hT
  rcases hT with e | e | e <;> simp [e]
theorem Rest.extT {ts : List TypeId} (h : Rest w x l t d e D F A Y) (he : ExtT w w' ts) (ht : ∀ q ∈ ts, q ∉ CT) : Rest w' x l t d e D F A Y := by
  obtain ⟨Z, hz, hT⟩ := he
  obtain ⟨bx, o⟩ := h.own
  have hno : ∀ {T : TypeId}, T ∈ CT → T ∉ ts := fun hc hx => ht _ hx hc
  refine ⟨⟨bx, ownT hz hT o (hno (by simp))⟩, h.real.extY hz hT (fun q hq => ?_), ownT hz hT h.el (hno (by simp))⟩
  have := ht q hq
  simp only [CT, List.mem_cons, List.not_mem_nil, or_false, not_or] at this
  exact ⟨this.2.2.1, this.2.2.2.1, this.2.2.2.2.1, this.2.2.2.2.2.1, this.2.2.2.2.2.2⟩
theorem MRest.extT {ts : List TypeId} (h : MRest w s q me M Y) (he : ExtT w w' ts) (ht : ∀ q ∈ ts, q ∉ MT) : MRest w' s q me M Y := by
  obtain ⟨Z, hz, hT⟩ := he
  have hno : ∀ {T : TypeId}, T ∈ MT → T ∉ ts := fun hc hx => ht _ hx hc
  refine ⟨ownT hz hT h.own (hno (by simp)), ownT hz hT h.el (hno (by simp)), h.md.extY hz hT (fun t hx => ?_), h.A⟩
  have := ht t hx
  simp only [MT, List.mem_cons, List.not_mem_nil, or_false, not_or] at this
  exact ⟨this.2.2.1, this.2.2.2.1, this.2.2.2.2⟩
theorem Sides.extT {ts : List TypeId} (h : Sides w x l t d e D F A s q me M Y L0 S N lo) (he : ExtT w w' ts) (ht : ∀ q ∈ ts, q ∉ SideT) : Sides w' x l t d e D F A s q me M Y L0 S N lo :=
  ⟨h.rest.extT he (fun q hq hx => ht q hq (List.mem_append.2 (.inl hx))), h.mrest.extT he (fun q hq hx => ht q hq (List.mem_append.2 (.inr hx))), h.ok, h.path, h.fin, h.A0, h.H, h.aok, h.log, h.slen, h.ge⟩
theorem Sides.ext0 (h : Sides w x l t d e D F A s q me M Y L0 S N lo) (he : Ext [] w w') : Sides w' x l t d e D F A s q me M Y L0 S N lo := h.extT (ts := []) (ExtT.nil he _) (fun q hq => by cases hq)
theorem Sides.mono {N' : Int} (h : Sides w x l t d e D F A s q me M Y L0 S N lo) (hn : N ≤ N') : Sides w x l t d e D F A s q me M Y L0 S N' lo := ⟨h.rest, h.mrest, h.ok, h.path.mono (fun x hx => hx) hn, h.fin, h.A0, h.H, h.aok, h.log, h.slen, h.ge⟩
theorem Sides.hlen (h : Sides w x l t d e D F A s q me M Y L0 S N lo) : M.H.length = S.length := by simpa using congrArg List.length h.H
/-- What a cut leaves. -/
theorem Sides.cut (h : Sides w x l t d e D F A s q me M Y L0 S N lo) (a : Int) : Good (img (cutI D a.toNat)) N ∧ ∃ A' L', L' ∈ L0 :: S ∧ Holds A' L' ∧ LikeI (cutI D a.toNat) A' ∧ (a ≤ 0 → L' = L0) ∧ ((D.log.length : Int) ≤ a → L' = finL L0 S) := by
  have hall : Good (img (cutI D a.toNat)) N ∧ PV (L0 :: S) (cutI D a.toNat) := by
    by_cases c : a.toNat ≤ D.log.length
    · exact h.path.all _ c
    · rw [cutI_over (by omega)]
      exact h.path.all _ (Nat.le_refl _)
  obtain ⟨hg, A', L', hin, hh, hl⟩ := hall
  have okL := h.aok L' hin
  refine ⟨hg, A', L', hin, hh, hl, fun h0 => ?_, fun h1 => ?_⟩
  · have e0 : a.toNat = 0 := by omega
    have e1 : cutI D 0 = D.mark := by unfold cutI; simp
    rw [e0, e1] at hl
    obtain ⟨A2, L2, hin2, hh2, hl2⟩ := h.path.first L0 rfl
    simp at hin2
    subst hin2
    exact holds_uniq hl hl2 hh hh2 okL (h.aok _ (by simp))
  · have e1 : cutI D a.toNat = D.now := by rw [cutI_over (by omega), h.path.fin]
    rw [e1] at hl
    have r := h.rest.real
    rw [h.fin] at r
    exact holds_uniq hl r.st.like hh r.holds okL r.ok
end
end Go.Proofs.Qxb6500433aGreat
