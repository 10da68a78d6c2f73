/-
  synclaw: the compares and the looks.
-/
import Derived.Test.Qxb6500433aGreatSyR
import Derived.Test.Qxb6500433aGreatScript
set_option linter.unusedVariables false
set_option linter.unusedSimpArgs false
open Go.Vc
namespace Go.Proofs.Qxb6500433aGreat
section
variable {w w' : World}
theorem sameEntry_ok {a0 b0 : Int} {a1 b1 : ByteArray} {R : Bool → World → Prop} (hR : ∀ x w', (x = true ↔ ((a0, a1) : EntV) = (b0, b1)) → Ext [] w w' → R x w') : synclaw_SameEntry.Call a0 a1 b0 b1 w R := by
  apply synclaw_SameEntry.sound
  unfold synclaw_SameEntry.B0
  refine New.mk fun a w1 e1 s1 oa he1 => New.mk fun b w2 e2 s2 ob he2 => ?_
  have oa2 := he2.own oa (by simp)
  have E := he1.trans he2
  refine LdI.mk oa2 rfl (LdI.mk ob rfl ?_)
  by_cases c : a0 = b0
  · refine Bm.pos (by simpa using c) (LdS.mk oa2 rfl (LdS.mk ob rfl (hR _ w2 ?_ E)))
    rw [str_beq]
    exact ⟨fun e => by rw [c, e], fun e => (Prod.mk.inj e).2⟩
  · exact Bm.neg (by simpa using c) (hR false w2 ⟨fun e => (by cases e), fun e => absurd (Prod.mk.inj e).1 c⟩ E)
theorem sameEnts_ok {a b : Option Addr} {al ac bl bc : Nat} {E : List EntV} {R : Bool → World → Prop} (ha : EA w a al ac E) (hb : EA w b bl bc E) (hl : al ≤ 1000) (hR : ∀ w', Ext [] w w' → R true w') : synclaw_SameEnts.Call a al ac b bl bc w R := by
  apply synclaw_SameEnts.sound
  unfold synclaw_SameEnts.B0
  have l1 := EA.len ha
  have l2 := EA.len hb
  have l3 : al = bl := by omega
  subst l3
  refine Bm.neg (by simp) ?_
  unfold synclaw_SameEnts.L1
  refine ⟨fun m a' al' ac' b' bl' bc' i w' => ∃ n : Nat, n ≤ al ∧ m = al - n ∧ a = a' ∧ al = al' ∧ ac = ac' ∧ b = b' ∧ al = bl' ∧ bc = bc' ∧ i = (n : Int) ∧ Ext [] w w', _, ⟨0, by omega, rfl, rfl, rfl, rfl, rfl, rfl, rfl, rfl, Ext.refl _ _⟩, ?_⟩
  rintro m a' al' ac' b' bl' bc' i w1 ⟨n, hn, rfl, rfl, rfl, rfl, rfl, rfl, rfl, rfl, he1⟩
  unfold synclaw_SameEnts.L1b
  refine Bm.ite (fun hlt => ?_) fun hge => hR w1 he1
  have Ed := he1.trans (Ext.drew [] w1)
  obtain ⟨x, hx⟩ := get_lt' (L := E) (n := n) (by omega)
  refine (EA.ext0 ha Ed).ld hx ((EA.ext0 hb Ed).ld hx (sameEntry_ok fun y w2 hy he2 => ?_))
  rw [hy.2 rfl]
  exact Bm.neg rfl ⟨al - (n + 1), by omega, n + 1, by omega, rfl, rfl, rfl, rfl, rfl, rfl, rfl, by rw [w64 (by omega) (by omega)]; omega, Ed.trans he2⟩
theorem sameMsg_ok {m : MsgV} {a b : Option Addr} {al ac bl bc : Nat} {R : Bool → World → Prop} (ha : EA w a al ac m.ents) (hb : EA w b bl bc m.ents) (hl : al ≤ 1000) (hR : ∀ w', Ext [] w w' → R true w') : synclaw_SameMsg.Call m.kind m.fr m.to m.term m.idx m.lt m.cm m.ok a al ac m.data m.kind m.fr m.to m.term m.idx m.lt m.cm m.ok b bl bc m.data w R := by
  apply synclaw_SameMsg.sound
  unfold synclaw_SameMsg.B0
  refine New.mk fun a1 w1 e1 s1 oa he1 => New.mk fun b1 w2 e2 s2 ob he2 => ?_
  have oa2 : Own w2 a1 (msgC m a al ac).toArray T_api_Msg := he2.own oa (by simp)
  have ob2 : Own w2 b1 (msgC m b bl bc).toArray T_api_Msg := ob
  have E := he1.trans he2
  refine LdI.mk oa2 rfl (LdI.mk ob2 rfl (Bm.neg (by simp) (LdI.mk oa2 rfl (LdI.mk ob2 rfl (Bm.neg (by simp) (LdI.mk oa2 rfl (LdI.mk ob2 rfl (Bm.neg (by simp) (LdI.mk oa2 rfl (LdI.mk ob2 rfl ?_))))))))))
  rw [show (m.term != m.term) = false by simp]
  unfold synclaw_SameMsg.B1
  refine Bm.neg rfl (LdI.mk oa2 rfl (LdI.mk ob2 rfl (Bm.neg (by simp) (LdI.mk oa2 rfl (LdI.mk ob2 rfl (Bm.neg (by simp) (LdI.mk oa2 rfl (LdI.mk ob2 rfl ?_))))))))
  rw [show (m.cm != m.cm) = false by simp]
  unfold synclaw_SameMsg.B2
  refine Bm.neg rfl (LdB.mk oa2 rfl (LdB.mk ob2 rfl (Bm.neg (by simp) (LdS.mk oa2 rfl (LdS.mk ob2 rfl ?_)))))
  rw [str_self]
  unfold synclaw_SameMsg.B3
  exact Bm.neg rfl (LdL.mk oa2 rfl (LdL.mk ob2 rfl (sameEnts_ok (EA.ext0 ha E) (EA.ext0 hb E) hl fun w3 he3 => hR w3 (E.trans he3))))
/-- One message of a row. -/
theorem rowMsg {b : Option Addr} {l c n : Nat} {E : List ME} {x : ME} {Q : Int → Int → Int → Int → Int → Int → Int → Bool → Option Addr → Nat → Nat → ByteArray → Prop} (h : Row w b l c 10 T_api_Msg (E.flatMap meC)) (hx : E[n]? = some x) (hQ : Q x.1.kind x.1.fr x.1.to x.1.term x.1.idx x.1.lt x.1.cm x.1.ok x.2.1 x.1.ents.length x.2.2 x.1.data) :
    Pn b fun a => (0 ≤ (n : Int) ∧ (n : Int) < (l : Int)) ∧ LdI .i64 (Addr.add a ((n : Int).toNat * 10)) w fun x0 => LdI .i64 ((Addr.add a ((n : Int).toNat * 10)).add 1) w fun x1 => LdI .i64 ((Addr.add a ((n : Int).toNat * 10)).add 2) w fun x2 => LdI .i64 ((Addr.add a ((n : Int).toNat * 10)).add 3) w fun x3 => LdI .i64 ((Addr.add a ((n : Int).toNat * 10)).add 4) w fun x4 => LdI .i64 ((Addr.add a ((n : Int).toNat * 10)).add 5) w fun x5 => LdI .i64 ((Addr.add a ((n : Int).toNat * 10)).add 6) w fun x6 => LdB ((Addr.add a ((n : Int).toNat * 10)).add 7) w fun x7 => LdL ((Addr.add a ((n : Int).toNat * 10)).add 8) w fun x8 x9 x10 => LdS ((Addr.add a ((n : Int).toNat * 10)).add 9) w fun x11 => Q x0 x1 x2 x3 x4 x5 x6 x7 x8 x9 x10 x11 := by
  have h1 := h.1
  have h2 := flat_length meC_len E
  have hlt := (List.getElem?_eq_some_iff.1 hx).1
  obtain ⟨k, rfl, cs, ho, hc⟩ := h.at (i := n) (by omega) (by omega)
  have g : ∀ j, j < 10 → cs[n * 10 + j]? = (meC x)[j]? := fun j hj => by rw [hc j hj, flat_get meC_len hx hj]
  refine Pn.mk ⟨⟨by omega, by omega⟩, ?_⟩
  simp only [Int.toNat_natCast, add_mk, Nat.zero_add]
  exact LdI.mk ho (g 0 (by omega)) (LdI.mk ho (g 1 (by omega)) (LdI.mk ho (g 2 (by omega)) (LdI.mk ho (g 3 (by omega)) (LdI.mk ho (g 4 (by omega)) (LdI.mk ho (g 5 (by omega)) (LdI.mk ho (g 6 (by omega)) (LdB.mk ho (g 7 (by omega)) (LdL.mk ho (g 8 (by omega)) (LdS.mk ho (g 9 (by omega)) hQ)))))))))
theorem rowEnts {b : Option Addr} {l c n : Nat} {E : List ME} {x : ME} {Q : Option Addr → Nat → Nat → Prop} (h : Row w b l c 10 T_api_Msg (E.flatMap meC)) (hx : E[n]? = some x) (hQ : Q x.2.1 x.1.ents.length x.2.2) :
    Pn b fun a => (0 ≤ (n : Int) ∧ (n : Int) < (l : Int)) ∧ LdL ((Addr.add a ((n : Int).toNat * 10)).add 8) w Q := by
  have h1 := h.1
  have h2 := flat_length meC_len E
  have hlt := (List.getElem?_eq_some_iff.1 hx).1
  obtain ⟨k, rfl, cs, ho, hc⟩ := h.at (i := n) (by omega) (by omega)
  refine Pn.mk ⟨⟨by omega, by omega⟩, ?_⟩
  simp only [Int.toNat_natCast, add_mk, Nat.zero_add]
  exact LdL.mk ho (by rw [hc 8 (by omega), flat_get meC_len hx (by omega)]; rfl) hQ
theorem sameMsgs_ok {a b : Option Addr} {al ac bl bc lo lo2 : Nat} {E F : List ME} {R : Bool → World → Prop} (ha : ML w a al ac lo E) (hb : ML w b bl bc lo2 F) (hE : E.map (·.1) = F.map (·.1)) (hl : al ≤ 100) (he : ∀ x ∈ E, x.1.ents.length ≤ 1000) (hR : ∀ w', Ext [] w w' → R true w') : synclaw_SameMsgs.Call a al ac b bl bc w R := by
  apply synclaw_SameMsgs.sound
  unfold synclaw_SameMsgs.B0
  have l1 := ha.len
  have l2 := hb.len
  have l4 : E.length = F.length := by have := congrArg List.length hE; simpa using this
  have l3 : al = bl := by omega
  subst l3
  refine Bm.neg (by simp) ?_
  unfold synclaw_SameMsgs.L1
  refine ⟨fun m a' al' ac' b' bl' bc' i w' => ∃ n : Nat, n ≤ al ∧ m = al - n ∧ a = a' ∧ al = al' ∧ ac = ac' ∧ b = b' ∧ al = bl' ∧ bc = bc' ∧ i = (n : Int) ∧ Ext [] w w', _, ⟨0, by omega, rfl, rfl, rfl, rfl, rfl, rfl, rfl, rfl, Ext.refl _ _⟩, ?_⟩
  rintro m a' al' ac' b' bl' bc' i w1 ⟨n, hn, rfl, rfl, rfl, rfl, rfl, rfl, rfl, rfl, he1⟩
  unfold synclaw_SameMsgs.L1b
  refine Bm.ite (fun hlt => ?_) fun hge => hR w1 he1
  have Ed := he1.trans (Ext.drew [] w1)
  obtain ⟨x, hx⟩ := get_lt' (L := E) (n := n) (by omega)
  obtain ⟨y, hy⟩ := get_lt' (L := F) (n := n) (by omega)
  have hxy : x.1 = y.1 := by
    have h1 : (E.map (·.1))[n]? = some x.1 := by simp [hx]
    have h2 : (F.map (·.1))[n]? = some y.1 := by simp [hy]
    rw [hE, h2] at h1
    simpa using h1.symm
  have ha' := ha.ext0 Ed
  have hb' := hb.ext0 Ed
  have da := ha'.bd.dat x (List.mem_of_getElem? hx)
  have db := hb'.bd.dat y (List.mem_of_getElem? hy)
  have hxl := he x (List.mem_of_getElem? hx)
  refine rowMsg ha'.row hx (rowMsg hb'.row hy ?_)
  rw [← hxy] at db ⊢
  exact sameMsg_ok da db hxl fun w2 he2 => Bm.neg rfl ⟨al - (n + 1), by omega, n + 1, by omega, rfl, rfl, rfl, rfl, rfl, rfl, rfl, by rw [w64 (by omega) (by omega)]; omega, Ed.trans he2⟩
end
/-! ### the two sides' looks -/
section
variable {w w' : World} {s l t d e : Nat} {D : DiskS} {F : List Nat} {A : AbsS} {Y Z : YS} {s2 q e2 : Nat} {M : MSt}
theorem lawAt_ok {i : Int} {R : Bool → World → Prop} (h : Rest w s l t d e D F A Y) (hm : MRest w s2 q e2 M Z) (hk : LogOk Z.L) (hi : -9223372036854775808 ≤ i ∧ i ≤ 9223372036854775807) (hR : ∀ x w', (x = true ↔ atL Y.L i = atL Z.L i) → Ext [] w w' → R x w') : synclaw_SameAt.Call (some ⟨s, 0, none⟩) (some ⟨s2, 0, none⟩) i w R := by
  apply synclaw_SameAt.sound
  unfold synclaw_SameAt.B0
  refine at_ok h hi fun w1 he1 => NewSet.mk rfl rfl fun a w3 ha hs3 oa3 he3 => ?_
  have E3 : Ext [] w w3 := he1.trans he3
  refine mat_ok (hm.ext0 E3) hk hi fun w4 he4 => NewSet.mk rfl rfl fun b w6 hb hs6 ob6 he6 => ?_
  have oa6 := he6.own (he4.own oa3 (by simp)) (by simp)
  have E6 : Ext [] w w6 := (E3.trans he4).trans he6
  generalize atL Y.L i = x at hR oa6
  generalize atL Z.L i = y at hR ob6
  obtain ⟨⟨a1, a2⟩, a3⟩ := x
  obtain ⟨⟨b1, b2⟩, b3⟩ := y
  simp only at oa6 ob6 ⊢
  by_cases c : a3 = b3
  · refine Bm.pos (by simpa using c) (LdI.mk oa6 rfl (LdS.mk oa6 rfl (LdI.mk ob6 rfl (LdS.mk ob6 rfl (sameEntry_ok fun z w7 hz he7 => hR z w7 ?_ (E6.trans he7))))))
    rw [hz, c]
    exact ⟨fun e => by rw [e], fun e => (Prod.mk.inj e).1⟩
  · exact Bm.neg (by simpa using c) (hR false w6 ⟨fun e => (by cases e), fun e => absurd (Prod.mk.inj e).2 c⟩ E6)
theorem lawTermAt_ok {i : Int} {R : Bool → World → Prop} (h : Rest w s l t d e D F A Y) (hm : MRest w s2 q e2 M Z) (hk : LogOk Z.L) (hi : -9223372036854775808 ≤ i ∧ i ≤ 9223372036854775807) (hR : ∀ x w', (x = true ↔ termL Y.L i = termL Z.L i) → Ext [] w w' → R x w') : synclaw_SameTermAt.Call (some ⟨s, 0, none⟩) (some ⟨s2, 0, none⟩) i w R := by
  apply synclaw_SameTermAt.sound
  unfold synclaw_SameTermAt.B0
  refine termAt_ok h hi fun w1 he1 => mtermAt_ok (hm.ext0 he1) hk hi fun w2 he2 => ?_
  have E2 := he1.trans he2
  generalize termL Y.L i = x at hR
  generalize termL Z.L i = y at hR
  obtain ⟨a1, a2⟩ := x
  obtain ⟨b1, b2⟩ := y
  by_cases c : a2 = b2
  · refine Bm.pos (by simpa using c) (hR _ w2 ?_ E2)
    rw [beq_iff_eq, c]
    exact ⟨fun e => Prod.ext e rfl, fun e => (Prod.mk.inj e).1⟩
  · exact Bm.neg (by simpa using c) (hR false w2 ⟨fun e => (by cases e), fun e => absurd (Prod.mk.inj e).2 c⟩ E2)
structure VEq (Y Z : YS) : Prop where
  term : Y.e.term = Z.e.term
  vote : Y.e.vote = Z.e.vote
  base : Y.L.base = Z.L.base
  bterm : Y.L.bterm = Z.L.bterm
  last : Y.L.last = Z.L.last
  snap : Y.L.snap = Z.L.snap
theorem sameViews_ok {k1 k2 : Nat} {R : Bool → World → Prop} (h1 : Own w k1 (viewC Y) T_api_SyncView) (h2 : Own w k2 (viewC Z) T_api_SyncView) (hR : ∀ x w', (x = true → VEq Y Z) → (Y = Z → x = true) → Ext [] w w' → R x w') : synclaw_SameViews.Call (some ⟨k1, 0, none⟩) (some ⟨k2, 0, none⟩) w R := by
  apply synclaw_SameViews.sound
  unfold synclaw_SameViews.B0
  have no : ∀ {wx : World}, Ext [] w wx → Y ≠ Z → R false wx := fun he hn => hR false _ (fun e => (by cases e)) (fun e => absurd e hn) he
  have b1 : ∀ {wx : World}, Ext [] w wx → Y ≠ Z → synclaw_SameViews.B1 (some ⟨k1, 0, none⟩) (some ⟨k2, 0, none⟩) true wx R := fun he hn => by unfold synclaw_SameViews.B1; exact Bm.pos rfl (no he hn)
  have b2 : ∀ {wx : World}, Ext [] w wx → Y ≠ Z → synclaw_SameViews.B2 (some ⟨k1, 0, none⟩) (some ⟨k2, 0, none⟩) true wx R := fun he hn => by unfold synclaw_SameViews.B2; exact Bm.pos rfl (no he hn)
  have b3 : ∀ {wx : World}, Ext [] w wx → Y ≠ Z → synclaw_SameViews.B3 (some ⟨k1, 0, none⟩) (some ⟨k2, 0, none⟩) true wx R := fun he hn => by unfold synclaw_SameViews.B3; exact Bm.pos rfl (no he hn)
  have b4 : ∀ {wx : World}, Ext [] w wx → Y ≠ Z → synclaw_SameViews.B4 (some ⟨k1, 0, none⟩) (some ⟨k2, 0, none⟩) true wx R := fun he hn => by unfold synclaw_SameViews.B4; exact Bm.pos rfl (no he hn)
  have E1 : Ext [] w w.drew := Ext.drew _ _
  have o1 : Own w.drew k1 (viewC Y) T_api_SyncView := h1
  have p1 : Own w.drew k2 (viewC Z) T_api_SyncView := h2
  have E2 := E1.trans (Ext.drew [] w.drew)
  have o2 : Own w.drew.drew k1 (viewC Y) T_api_SyncView := h1
  have p2 : Own w.drew.drew k2 (viewC Z) T_api_SyncView := h2
  have E3 := E2.trans (Ext.drew [] w.drew.drew)
  have o3 : Own w.drew.drew.drew k1 (viewC Y) T_api_SyncView := h1
  have p3 : Own w.drew.drew.drew k2 (viewC Z) T_api_SyncView := h2
  have E4 := E3.trans (Ext.drew [] w.drew.drew.drew)
  have o4 : Own w.drew.drew.drew.drew k1 (viewC Y) T_api_SyncView := h1
  have p4 : Own w.drew.drew.drew.drew k2 (viewC Z) T_api_SyncView := h2
  have I : ∀ {wx : World} {k : Nat} {cs : Array Value} {o : Nat} {v : Int} {K : Int → Prop}, Own wx k cs T_api_SyncView → cs[o]? = some (.int .i64 v) → K v → Pn (some (⟨k, 0, none⟩ : Addr)) fun a => LdI .i64 (Addr.add a o) wx K := fun ho hc hk => Pn.mk (by rw [add_mk, Nat.zero_add]; exact LdI.mk ho hc hk)
  refine Pn.mk (LdI.mk o1 rfl (Pn.mk (LdI.mk p1 rfl ?_)))
  by_cases c1 : Y.e.id = Z.e.id
  rotate_left
  · exact Bm.pos (by simpa using c1) (b1 E1 fun e => c1 (by rw [e]))
  refine Bm.neg (by simpa using c1) (I (o := 1) o1 rfl (I (o := 1) p1 rfl ?_))
  by_cases c2 : Y.e.term = Z.e.term
  rotate_left
  · exact Bm.pos (by simpa using c2) (b1 E1 fun e => c2 (by rw [e]))
  refine Bm.neg (by simpa using c2) (I (o := 2) o1 rfl (I (o := 2) p1 rfl ?_))
  by_cases c3 : Y.e.vote = Z.e.vote
  rotate_left
  · rw [show (Y.e.vote != Z.e.vote) = true by simpa using c3]; exact b1 E1 fun e => c3 (by rw [e])
  rw [show (Y.e.vote != Z.e.vote) = false by simpa using c3]
  unfold synclaw_SameViews.B1
  refine Bm.neg rfl (I (o := 3) o2 rfl (I (o := 3) p2 rfl ?_))
  by_cases c4 : Y.e.role = Z.e.role
  rotate_left
  · exact Bm.pos (by simpa using c4) (b2 E2 fun e => c4 (by rw [e]))
  refine Bm.neg (by simpa using c4) (I (o := 4) o2 rfl (I (o := 4) p2 rfl ?_))
  by_cases c5 : Y.e.leader = Z.e.leader
  rotate_left
  · exact Bm.pos (by simpa using c5) (b2 E2 fun e => c5 (by rw [e]))
  refine Bm.neg (by simpa using c5) (I (o := 5) o2 rfl (I (o := 5) p2 rfl ?_))
  by_cases c6 : Y.e.clock = Z.e.clock
  rotate_left
  · rw [show (Y.e.clock != Z.e.clock) = true by simpa using c6]; exact b2 E2 fun e => c6 (by rw [e])
  rw [show (Y.e.clock != Z.e.clock) = false by simpa using c6]
  unfold synclaw_SameViews.B2
  refine Bm.neg rfl (I (o := 9) o3 rfl (I (o := 9) p3 rfl ?_))
  by_cases c7 : Y.cm = Z.cm
  rotate_left
  · exact Bm.pos (by simpa using c7) (b3 E3 fun e => c7 (by rw [e]))
  refine Bm.neg (by simpa using c7) (I (o := 10) o3 rfl (I (o := 10) p3 rfl ?_))
  by_cases c8 : Y.L.base = Z.L.base
  rotate_left
  · exact Bm.pos (by simpa using c8) (b3 E3 fun e => c8 (by rw [e]))
  refine Bm.neg (by simpa using c8) (I (o := 11) o3 rfl (I (o := 11) p3 rfl ?_))
  by_cases c9 : Y.L.bterm = Z.L.bterm
  rotate_left
  · rw [show (Y.L.bterm != Z.L.bterm) = true by simpa using c9]; exact b3 E3 fun e => c9 (by rw [e])
  rw [show (Y.L.bterm != Z.L.bterm) = false by simpa using c9]
  unfold synclaw_SameViews.B3
  refine Bm.neg rfl (I (o := 12) o4 rfl (I (o := 12) p4 rfl ?_))
  by_cases c10 : Y.L.last = Z.L.last
  rotate_left
  · exact Bm.pos (by simpa using c10) (b4 E4 fun e => c10 (by rw [e]))
  refine Bm.neg (by simpa using c10) (Pn.mk ?_)
  rw [add_mk]
  refine LdS.mk o4 rfl (Pn.mk ?_)
  rw [add_mk]
  refine LdS.mk p4 rfl ?_
  by_cases c11 : Y.L.snap = Z.L.snap
  rotate_left
  · have : (Y.L.snap.toList == Z.L.snap.toList) = false := by
      cases hb : (Y.L.snap.toList == Z.L.snap.toList) with
      | false => rfl
      | true => exact absurd ((str_beq _ _).1 hb) c11
    rw [this]
    exact b4 E4 fun e => c11 (by rw [e])
  rw [c11, str_self]
  unfold synclaw_SameViews.B4
  refine Bm.neg rfl ?_
  have veq : VEq Y Z := ⟨c2, c3, c8, c9, c10, c11⟩
  unfold synclaw_SameViews.L1
  refine ⟨fun m a' b' p w' => ∃ n : Nat, n ≤ 3 ∧ m = 3 - n ∧ some ⟨k1, 0, none⟩ = a' ∧ some ⟨k2, 0, none⟩ = b' ∧ p = (n : Int) ∧ Ext [] w w', _, ⟨0, by omega, rfl, rfl, rfl, rfl, E4⟩, ?_⟩
  rintro m a' b' p wa ⟨n, hn, rfl, rfl, rfl, rfl, hea⟩
  unfold synclaw_SameViews.L1b
  refine Bm.ite (fun hlt => ?_) fun hge => hR true wa (fun _ => veq) (fun _ => rfl) hea
  have Ead := hea.trans (Ext.drew [] wa)
  have oa : Own wa.drew k1 (viewC Y) T_api_SyncView := Ead.own h1 (by simp)
  have pa : Own wa.drew k2 (viewC Z) T_api_SyncView := Ead.own h2 (by simp)
  have ix : (0 : Int) ≤ (n : Int) ∧ (n : Int) < ((3 : Nat) : Int) := ⟨by omega, by omega⟩
  have g : ∀ W : YS, (viewC W)[6 + n]? = some (.bool (El.gotB W.e (n : Int))) ∧ (viewC W)[14 + n]? = some (.int .i64 (W.nx n)) ∧ (viewC W)[17 + n]? = some (.int .i64 (W.mt n)) := fun W => by
    have : n = 0 ∨ n = 1 ∨ n = 2 := by omega
    rcases this with rfl | rfl | rfl <;> exact ⟨rfl, rfl, rfl⟩
  have b5 : Y ≠ Z → ∀ N1, synclaw_SameViews.B5 (some ⟨k1, 0, none⟩) (some ⟨k2, 0, none⟩) (n : Int) true wa.drew N1 R := fun hn N1 => by unfold synclaw_SameViews.B5; exact Bm.pos rfl (no Ead hn)
  refine Pn.mk ⟨ix, ?_⟩
  rw [adk]
  refine LdB.mk oa (g Y).1 (Pn.mk ⟨ix, ?_⟩)
  rw [adk]
  refine LdB.mk pa (g Z).1 ?_
  by_cases d1 : El.gotB Y.e (n : Int) = El.gotB Z.e (n : Int)
  rotate_left
  · exact Bm.pos (by simpa using d1) (b5 (fun e => d1 (by rw [e])) _)
  refine Bm.neg (by simpa using d1) (Pn.mk ⟨ix, ?_⟩)
  rw [adk]
  refine LdI.mk oa (g Y).2.1 (Pn.mk ⟨ix, ?_⟩)
  rw [adk]
  refine LdI.mk pa (g Z).2.1 ?_
  by_cases d2 : Y.nx n = Z.nx n
  rotate_left
  · exact Bm.pos (by simpa using d2) (b5 (fun e => d2 (by rw [e])) _)
  refine Bm.neg (by simpa using d2) (Pn.mk ⟨ix, ?_⟩)
  rw [adk]
  refine LdI.mk oa (g Y).2.2 (Pn.mk ⟨ix, ?_⟩)
  rw [adk]
  refine LdI.mk pa (g Z).2.2 ?_
  by_cases d3 : Y.mt n = Z.mt n
  rotate_left
  · rw [show (Y.mt n != Z.mt n) = true by simpa using d3]; exact b5 (fun e => d3 (by rw [e])) _
  rw [show (Y.mt n != Z.mt n) = false by simpa using d3]
  unfold synclaw_SameViews.B5
  exact Bm.neg rfl ⟨3 - (n + 1), by omega, n + 1, by omega, rfl, rfl, rfl, by rw [w64 (by omega) (by omega)]; omega, Ead⟩
theorem lawView_ok {R : Bool → World → Prop} (h : Rest w s l t d e D F A Y) (hm : MRest w s2 q e2 M Z) (hY : YsOk Y) (hk : LogOk Z.L) (hR : ∀ x w', (x = true → VEq Y Z) → (Y = Z → x = true) → Ext [] w w' → R x w') : synclaw_SameView.Call (some ⟨s, 0, none⟩) (some ⟨s2, 0, none⟩) w R := by
  apply synclaw_SameView.sound
  unfold synclaw_SameView.B0
  refine view_ok h hY.e fun k1 w1 hk1 o1 he1 => mview_ok (hm.ext0 he1) hk fun k2 w2 hk2 o2 he2 => sameViews_ok (he2.own o1 (by simp)) o2 fun x w3 h1 h2 he3 => hR x w3 h1 h2 ((he1.trans he2).trans he3)
theorem lawAlike_ok {R : Bool → World → Prop} (h : Rest w s l t d e D F A Y) (hm : MRest w s2 q e2 M Z) (hY : YsOk Y) (hZ : YsOk Z) (hR : ∀ x w', (x = true → Y.L = Z.L) → (Y = Z → x = true) → Ext [] w w' → R x w') : synclaw_Alike.Call (some ⟨s, 0, none⟩) (some ⟨s2, 0, none⟩) w R := by
  apply synclaw_Alike.sound
  unfold synclaw_Alike.B0
  have hk := hZ.L
  have hb := hk.base
  have hla : Z.L.base + (Z.L.ents.length : Int) ≤ 72057594037927936 := hk.last
  have elast : Z.L.last = Z.L.base + (Z.L.ents.length : Int) := rfl
  have no : ∀ {wx : World}, Ext [] w wx → Y ≠ Z → R false wx := fun he hn => hR false _ (fun e => (by cases e)) (fun e => absurd e hn) he
  refine lawView_ok h hm hY hk fun x1 w1 g1 g2 he1 => ?_
  cases x1 with
  | false => exact Bm.pos rfl (no he1 fun e => by have := g2 e; cases this)
  | true =>
  have veq := g1 rfl
  refine Bm.neg rfl (mview_ok (hm.ext0 he1) hk fun k w2 hk2 o2 he2 => Pn.mk ?_)
  rw [add_mk]
  refine LdI.mk o2 rfl ?_
  have E2 := he1.trans he2
  show synclaw_Alike.L1 (some ⟨s, 0, none⟩) (some ⟨s2, 0, none⟩) (some ⟨k, 0, none⟩) (IntKind.i64.wrap (Z.L.base - 1)) w2 R
  rw [w64 (by omega) (by omega)]
  unfold synclaw_Alike.L1
  refine ⟨fun m a b v i w' => some ⟨s, 0, none⟩ = a ∧ some ⟨s2, 0, none⟩ = b ∧ some ⟨k, 0, none⟩ = v ∧ Z.L.base - 1 ≤ i ∧ i ≤ Z.L.last + 2 ∧ m = (Z.L.last + 2 - i).toNat ∧ Ext [] w2 w' ∧ ∀ k : Int, Z.L.base - 1 ≤ k → k < i → atL Y.L k = atL Z.L k, _, ⟨rfl, rfl, rfl, by omega, by omega, rfl, Ext.refl _ _, fun k h1 h2 => by omega⟩, ?_⟩
  rintro m a b v i w8 ⟨rfl, rfl, rfl, i0, i1, rfl, hE, hall⟩
  unfold synclaw_Alike.L1b
  have E8 := E2.trans hE
  refine Pn.mk ?_
  rw [add_mk]
  refine LdI.mk (hE.own o2 (by simp)) rfl ?_
  show Bm (decide (i ≤ IntKind.i64.wrap (Z.L.last + 1))) _ _
  rw [w64 (by omega) (by omega)]
  refine Bm.ite (fun hc => ?_) fun hc => ?_
  · refine lawAt_ok (h.ext0 E8) (hm.ext0 E8) hk (by omega) fun x9 w9 hx9 e9' => ?_
    have e9 := E8.trans e9'
    cases x9 with
    | false => exact Bm.pos rfl (no e9 fun e => by have := hx9.2 (by rw [e]); cases this)
    | true =>
    refine Bm.neg rfl (lawTermAt_ok (h.ext0 e9) (hm.ext0 e9) hk (by omega) fun x10 w10 hx10 e10' => ?_)
    have e10 := e9.trans e10'
    cases x10 with
    | false => exact Bm.pos rfl (no e10 fun e => by have := hx10.2 (by rw [e]); cases this)
    | true =>
    refine Bm.neg rfl ?_
    rw [w64 (by omega) (by omega)]
    refine ⟨(Z.L.last + 2 - (i + 1)).toNat, by omega, rfl, rfl, rfl, by omega, by omega, rfl, (hE.trans e9').trans e10', fun k h1 h2 => ?_⟩
    by_cases e : k = i
    · rw [e]; exact hx9.1 rfl
    · exact hall k h1 (by omega)
  · refine hR true w8 (fun _ => ?_) (fun _ => rfl) E8
    exact LogS.ext' (by rw [← hY.term, ← hZ.term]; exact veq.term) (by rw [← hY.vote, ← hZ.vote]; exact veq.vote) veq.base veq.bterm veq.snap (ents_eq veq.base veq.last fun k h1 h2 => hall k h1 (by omega))
end
end Go.Proofs.Qxb6500433aGreat
