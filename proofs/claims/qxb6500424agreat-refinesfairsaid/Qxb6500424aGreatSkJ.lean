/-
  sock: Free of the real table.
-/
import Derived.Test.Qxb6500424aGreatSkI
set_option linter.unusedVariables false
open Go.Vc
namespace Go.Proofs.Qxb6500424aGreat.Sk

section
variable {w : World} {b : Nat} {S : SkS} {T : Tbl} {F : List Nat} {C : Nat → List Nat} {occ : Nat → Bool}
theorem orp_none {a : AE} (hS : SkOk S) (ha : a ∈ S.E) (hk : a.1.kind = 2) : (delE a.1.sd S.E).map (orp a.1.sd) = delE a.1.sd S.E := by
  conv => rhs; rw [← List.map_id (delE a.1.sd S.E)]
  refine List.map_congr_left fun c hc => ?_
  have hcm := (List.mem_filter.1 hc).1
  unfold orp
  rw [if_neg]
  · rfl
  · intro z
    have h0 : c.1.par ≠ 0 := by have := hS.ei.sd a ha; omega
    obtain ⟨l, hl, k1, k2, _⟩ := hS.ei.par c hcm h0
    have := hS.ei.uniq hl ha (by rw [k2, z])
    rw [this, hk] at k1
    omega
theorem Lr_congr_at {T T' : Tbl} {i : Nat} (hr : ∀ j, j < 6 → j ≠ i → (T'.rows j).used = (T.rows j).used ∧ (T'.rows j).e = (T.rows j).e) (hi' : (T'.rows i).used = false) : Lr T' = Lr (updR T i { T.rows i with used := false }) := by
  unfold Lr Lri
  refine flat_congr' fun j hj => ?_
  have hj6 := List.mem_range.1 hj
  by_cases hji : j = i
  · subst hji
    rw [updR_eq]
    unfold lvr
    rw [hi']
    rfl
  · rw [updR_ne hji]
    have := hr j hj6 hji
    unfold lvr
    rw [this.1, this.2]
/-- A row gone, plainly. -/
theorem perm_del {T' : Tbl} {i : Nat} (hi : i < 6) {e : Ent} (hu : (T.rows i).used = true ∧ (T.rows i).e = e) {X : List Ent} (hp : (Lr T).Perm (e :: X)) (hr : ∀ j, j < 6 → j ≠ i → (T'.rows j).used = (T.rows j).used ∧ (T'.rows j).e = (T.rows j).e) (hi' : (T'.rows i).used = false) : (Lr T').Perm X := by
  have h0 : Lr T' = Lr (updR T i { T.rows i with used := false }) := Lr_congr_at hr hi'
  have h1 := Lr_upd (T := T) (T' := updR T i { T.rows i with used := false }) hi (fun q hq => updR_ne hq)
  rw [updR_eq] at h1
  have e1 : lvr (T.rows i) = [e] := by unfold lvr; rw [hu.1, hu.2]; rfl
  have e2 : lvr { T.rows i with used := false } = [] := rfl
  rw [e1, e2, List.nil_append] at h1
  rw [h0]
  exact List.Perm.cons_inv (h1.trans hp)
/-- The parent's count and queue when its child goes. -/
theorem orphan_ok {i : Nat} {a : AE} {T0 : Tbl} {R : World → Prop} (ht : TAt w b T) (hr : Rel T0 S F C occ) (hS : SkOk S) (hi : i < 6) (u : (T0.rows i).used = true) (ha : a ∈ S.E) (ea : a.1 = (T0.rows i).e) (hk : a.1.kind = 2) (hport : T.port = T0.port) (hei : (T.rows i).e = (T0.rows i).e) (hlr : ∀ j, (T0.rows j).e.kind = 1 → T.rows j = T0.rows j)
    (hR : ∀ w' T', TAt w' b T' → T'.free = T.free → T'.bkt = T.bkt → T'.port = T.port → T'.blk = T.blk → T'.lis = T.lis → T'.nsd = T.nsd → T'.eph = T.eph → (∀ j, j < 6 → (T'.rows j).used = (T.rows j).used ∧ (T'.rows j).e = (T.rows j).e ∧ (T'.rows j).next = (T.rows j).next) → (∀ j, j < 6 → (T0.rows j).used = true → (T0.rows j).e.kind = 1 → RingOk (T'.rows j) (delE a.1.sd S.E)) → Ext [b] w w' → R w') : sock_Table_orphan.Call (some ⟨b, 0, none⟩) (i : Int) w R := by
  apply sock_Table_orphan.sound
  unfold sock_Table_orphan.B0
  obtain ⟨p1, _⟩ := turn_perm hS.ei ha accG
  have hasd := hS.ei.sd a ha
  have other : ∀ j, j < 6 → (T0.rows j).used = true → (T0.rows j).e.kind = 1 → a.1.par ≠ (T0.rows j).e.sd → RingOk (T0.rows j) (delE a.1.sd S.E) := fun j hj uj kj hne => by
    refine (hr.ring j hj uj kj).perm ?_ ?_
    · rw [((filt_perm (kidOf (T0.rows j).e.sd) p1).2 (by simp [kidOf, hne])).length_eq]
    · exact (filt_perm (rdyOf (T0.rows j).e.sd) p1).2 (by simp [rdyOf, hne])
  refine Pn.mk ⟨⟨by omega, by omega⟩, ht.ldPar hi ?_⟩
  rw [hei, ← ea]
  by_cases hpar : a.1.par = 0
  · refine Bm.pos (by simp [hpar]) (hR w T ht rfl rfl rfl rfl rfl rfl rfl (fun j _ => ⟨rfl, rfl, rfl⟩) (fun j hj uj kj => ?_) (Ext.refl _ _))
    rw [hlr j kj]
    refine other j hj uj kj fun z => ?_
    obtain ⟨c, hc, ec⟩ := hr.toE hj uj
    have := hS.ei.sd c hc
    rw [ec] at this
    omega
  refine Bm.neg (by simp [hpar]) (Pn.mk ⟨⟨by omega, by omega⟩, ht.ldLp hi (listenerRow_ok ht ?_)⟩)
  have hlrow : lrow T (T.rows i).e.lp = lrow T0 a.1.lp := by unfold lrow; rw [hport, hei, ← ea]
  rw [hlrow]
  obtain ⟨l0, hl0, lk, lsd, llp⟩ := hS.ei.par a ha hpar
  rcases port_of hr hS a.1.lp with ⟨e1, e2⟩ | ⟨l, c, hl6, e1, lu, lk2, elp, hc, ec, e2, hp1, hp8⟩
  · have := lisE_some hS.ei hl0 (lisP_iff.2 ⟨lk, llp⟩)
    have := hS.ei.sd l0 hl0
    omega
  have hcl : c = l0 := hS.ei.uniq hc hl0 (hS.ei.prt c hc l0 hl0 (by rw [ec]; exact lk2) lk (by rw [ec, elp, llp]))
  subst hcl
  rw [e1]
  have hli : l ≠ i := fun z => by rw [z, ← ea, hk] at lk2; omega
  have hsdl : (T0.rows l).e.sd = a.1.par := by rw [← ec]; exact lsd
  have hTl : T.rows l = T0.rows l := hlr l lk2
  obtain ⟨hnext, hkids, hd, L, hd2, hhd, hasc, hperm, hn, hrg⟩ := hr.ring l hl6 lu lk2
  rw [hsdl] at hperm hkids
  have kq := ((filt_perm (kidOf a.1.par) p1).1 (by simp [kidOf])).length_eq
  simp only [List.length_cons] at kq
  have hk2 := hS.ei.kid a.1.par hpar
  refine Bm.neg (by simp) (Pn.mk ⟨⟨by omega, by omega⟩, ht.drew.ldKids hl6 (Pn.mk ⟨⟨by omega, by omega⟩, ht.drew.stKids hl6 fun w1 hs1 h1 he1 => Pn.mk ⟨⟨by omega, by omega⟩, ?_⟩⟩)⟩)
  rw [hTl, hkids, w64 (by omega) (by omega)] at h1
  generalize hr1 : ({ T0.rows l with kids := ((S.E.filter (kidOf a.1.par)).length : Int) - 1 } : Row) = r1 at h1
  have s1 : r1.used = (T0.rows l).used ∧ r1.e = (T0.rows l).e ∧ r1.next = (T0.rows l).next ∧ r1.r0 = (T0.rows l).r0 ∧ r1.r1 = (T0.rows l).r1 ∧ r1.head = (T0.rows l).head ∧ r1.n = (T0.rows l).n ∧ r1.kids = ((S.E.filter (kidOf a.1.par)).length : Int) - 1 := by
    subst hr1
    exact ⟨rfl, rfl, rfl, rfl, rfl, rfl, rfl, rfl⟩
  have hrowi : (updR T l r1).rows i = T.rows i := updR_ne (fun y => hli y.symm)
  refine h1.ldRdy hi ?_
  rw [hrowi, hei, ← ea]
  have rings : ∀ (T' : Tbl) (r : Row), (∀ j, T'.rows j = if j = l then r else T.rows j) → RingOk r (delE a.1.sd S.E) → ∀ j, j < 6 → (T0.rows j).used = true → (T0.rows j).e.kind = 1 → RingOk (T'.rows j) (delE a.1.sd S.E) := fun T' r hrow hok j hj uj kj => by
    rw [hrow]
    by_cases hjl : j = l
    · rw [if_pos hjl]; exact hok
    · rw [if_neg hjl, hlr j kj]
      exact other j hj uj kj fun z => hjl (hr.uniq hS j l hj hl6 uj lu (by rw [← z, hsdl]))
  have samer : ∀ (T' : Tbl) (r : Row), (∀ j, T'.rows j = if j = l then r else T.rows j) → r.used = (T0.rows l).used ∧ r.e = (T0.rows l).e ∧ r.next = (T0.rows l).next → ∀ j, j < 6 → (T'.rows j).used = (T.rows j).used ∧ (T'.rows j).e = (T.rows j).e ∧ (T'.rows j).next = (T.rows j).next := fun T' r hrow hs j hj => by
    rw [hrow]
    by_cases hjl : j = l
    · rw [if_pos hjl, hjl, hTl]; exact hs
    · rw [if_neg hjl]; exact ⟨rfl, rfl, rfl⟩
  have kidsx : ((delE a.1.sd S.E).filter (kidOf a.1.par)).length = (S.E.filter (kidOf a.1.par)).length - 1 := by omega
  cases hrd : a.1.rdy with
  | false =>
    refine Bm.neg rfl (hR w1 (updR T l r1) h1 rfl rfl rfl rfl rfl rfl rfl (samer _ r1 (fun j => rfl) ⟨s1.1, s1.2.1, s1.2.2.1⟩) (rings _ r1 (fun j => rfl) ?_) ((Ext.drew _ _).trans he1))
    refine ⟨by rw [s1.2.2.1]; exact hnext, ?_, hd, L, hd2, by rw [s1.2.2.2.2.2.1]; exact hhd, hasc, ?_, by rw [s1.2.2.2.2.2.2.1]; exact hn, fun k y hy => ?_⟩
    · rw [s1.2.1, hsdl, s1.2.2.2.2.2.2.2, kidsx]
      omega
    · rw [s1.2.1, hsdl]
      exact hperm.trans ((filt_perm (rdyOf a.1.par) p1).2 (by simp [rdyOf, hrd]))
    · have := hrg k y hy
      unfold rg at this ⊢
      rw [s1.2.2.2.1, s1.2.2.2.2.1]
      exact this
  | true =>
    refine Bm.pos rfl (Pn.mk ⟨⟨by omega, by omega⟩, h1.ldSd hi ?_⟩)
    rw [hrowi, hei, ← ea]
    have haL : a ∈ L := hperm.symm.subset (List.mem_filter.2 ⟨ha, rdyOf_iff.2 ⟨rfl, hrd⟩⟩)
    obtain ⟨P, Q, rfl⟩ := List.append_of_mem haL
    have hLlen : (P ++ a :: Q).length ≤ 2 := by
      have h1 := hperm.length_eq
      have hle : (S.E.filter (rdyOf a.1.par)).length ≤ (S.E.filter (kidOf a.1.par)).length := by
        have : S.E.filter (rdyOf a.1.par) = (S.E.filter (kidOf a.1.par)).filter fun x => x.1.rdy := by
          rw [List.filter_filter]
          congr 1
          funext x
          simp [rdyOf, kidOf, Bool.and_comm]
        rw [this]
        exact List.length_filter_le ..
      omega
    have hPne : ∀ y ∈ P, y.1.sd ≠ a.1.sd := fun y hy z => by
      have hym := (List.mem_filter.1 (hperm.subset (List.mem_append.2 (.inl hy)))).1
      have := hS.ei.uniq hym ha z
      subst this
      have := (List.pairwise_append.1 hasc).2.2 y hy y (List.mem_cons_self ..)
      simp only at this
      omega
    have hrl : (updR T l r1).rows l = r1 := updR_eq ..
    refine leave_ok (hd := hd) (P := P) (Q := Q) (a := a) h1 hl6 (by rw [hrl, s1.2.2.2.2.2.1]; exact hhd) hd2 (by rw [hrl, s1.2.2.2.2.2.2.1]; exact hn) hLlen (fun k y hy => ?_) hPne fun w2 r2 h2 hs2 hrg2 he2 => ?_
    · rw [hrl]
      have := hrg k y hy
      unfold rg at this ⊢
      rw [s1.2.2.2.1, s1.2.2.2.2.1]
      exact this
    rw [updR_updR] at h2
    rw [hrl] at hs2
    refine hR w2 (updR T l r2) h2 rfl rfl rfl rfl rfl rfl rfl (samer _ r2 (fun j => rfl) ⟨by rw [hs2.1]; exact s1.1, by rw [hs2.2.1]; exact s1.2.1, by rw [hs2.2.2.1]; exact s1.2.2.1⟩) (rings _ r2 (fun j => rfl) ?_) (((Ext.drew _ _).trans he1).trans he2)
    refine ⟨by rw [hs2.2.2.1, s1.2.2.1]; exact hnext, ?_, hd, P ++ Q, hd2, hs2.2.2.2.2.1, ?_, ?_, hs2.2.2.2.2.2, hrg2⟩
    · rw [hs2.2.1, s1.2.1, hsdl, hs2.2.2.2.1, s1.2.2.2.2.2.2.2, kidsx]
      omega
    · have := List.pairwise_append.1 hasc
      exact List.pairwise_append.2 ⟨this.1, (List.pairwise_cons.1 this.2.1).2, fun x hx y hy => this.2.2 x hx y (List.mem_cons_of_mem _ hy)⟩
    · rw [hs2.2.1, s1.2.1, hsdl]
      have r1' := (filt_perm (rdyOf a.1.par) p1).1 (by simp [rdyOf, hrd])
      have : (a :: (P ++ Q)).Perm (a :: (delE a.1.sd S.E).filter (rdyOf a.1.par)) := (List.perm_middle.symm.trans hperm).trans r1'
      exact List.Perm.cons_inv this
def orpE (sd : Int) (e : Ent) : Ent := if e.par = sd then { e with par := 0, rdy := false } else e
def orpR (sd : Int) (r : Row) : Row := if r.used = true ∧ r.e.par = sd then { r with e := { r.e with par := 0, rdy := false } } else r
def orpT (sd : Int) (T : Tbl) (n : Nat) : Tbl := { T with rows := fun j => if j < n then orpR sd (T.rows j) else T.rows j }
theorem orpR_same (sd : Int) (r : Row) : (orpR sd r).used = r.used ∧ (orpR sd r).next = r.next ∧ (orpR sd r).kids = r.kids ∧ (orpR sd r).r0 = r.r0 ∧ (orpR sd r).r1 = r.r1 ∧ (orpR sd r).head = r.head ∧ (orpR sd r).n = r.n ∧ Alike r.e (orpR sd r).e := by
  unfold orpR
  split <;> exact ⟨rfl, rfl, rfl, rfl, rfl, rfl, rfl, ⟨rfl, rfl, rfl, rfl, rfl, rfl⟩⟩
theorem orpT_succ (sd : Int) (T : Tbl) (n : Nat) (r : Row) (hr : r = orpR sd (T.rows n)) : updR (orpT sd T n) n r = orpT sd T (n + 1) := by
  unfold updR orpT
  congr 1
  funext j
  by_cases h : j = n
  · subst h
    simp [hr]
  · by_cases h2 : j < n
    · simp [h, h2, show j < n + 1 by omega]
    · simp [h, h2, show ¬ j < n + 1 by omega]
theorem orpT_keep (sd : Int) (T : Tbl) (n : Nat) (hr : T.rows n = orpR sd (T.rows n)) : orpT sd T n = orpT sd T (n + 1) := by
  unfold orpT
  congr 1
  funext j
  by_cases h : j = n
  · subst h
    simp
    exact hr
  · by_cases h2 : j < n
    · simp [h2, show j < n + 1 by omega]
    · simp [h2, show ¬ j < n + 1 by omega]
theorem Lr_orp (sd : Int) (T : Tbl) : Lr (orpT sd T 6) = (Lr T).map (orpE sd) := by
  unfold Lr Lri
  rw [List.map_flatMap]
  refine flat_congr' fun j hj => ?_
  have hj6 := List.mem_range.1 hj
  show lvr (if j < 6 then orpR sd (T.rows j) else T.rows j) = (lvr (T.rows j)).map (orpE sd)
  rw [if_pos hj6]
  unfold lvr orpR orpE
  cases hu : (T.rows j).used with
  | false => simp [hu]
  | true =>
    by_cases hp : (T.rows j).e.par = sd
    · simp [hp]
    · simp [hu, hp]
theorem realFree_ok {sd : Int} {R : Int → World → Prop} (h : RAt w b S) (hS : SkOk S) (hR : ∀ w', RAt w' b (freeA sd S).2 → Ext [b] w w' → R (freeA sd S).1 w') : sock_Table_Free.Call (some ⟨b, 0, none⟩) sd w R := by
  apply sock_Table_Free.sound
  unfold sock_Table_Free.B0
  have hh := h
  obtain ⟨T, F, C, o, ht, hr⟩ := h
  refine hr.find hS ht ⟨fun i a hi u ha ea hsd => ?_, fun hno => ?_⟩
  rotate_left
  · have e : freeA sd S = (21, S) := by unfold freeA; rw [getE_none hno]
    rw [e] at hR
    exact Bm.pos rfl (hR w hh (Ext.refl _ _))
  subst hsd
  have e0 : freeA a.1.sd S = (0, { S with E := (delE a.1.sd S.E).map (orp a.1.sd) }) := by unfold freeA; rw [getE_some hS.ei ha]
  rw [e0] at hR
  obtain ⟨p1, _⟩ := turn_perm hS.ei ha accG
  have hasd := hS.ei.sd a ha
  refine Bm.neg (by simp) (Pn.mk ⟨⟨by omega, by omega⟩, ht.ldKind hi ?_⟩)
  rw [← ea]
  rcases (hS.ei.ok a ha).kind with hk | hk
  · -- a listener
    have hlo := (hS.ei.ok a ha).lis hk
    have hki : (T.rows i).e.kind = 1 := by rw [← ea]; exact hk
    obtain ⟨p, hp⟩ : ∃ p : Nat, a.1.lp = p := ⟨a.1.lp.toNat, by omega⟩
    refine Bm.pos (by simp [hk]) (Pn.mk ⟨⟨by omega, by omega⟩, ht.drew.ldLp hi ?_⟩)
    rw [← ea, hp]
    refine Pn.mk ⟨⟨by omega, by omega⟩, ht.drew.stPort (by omega) fun w1 hs1 h1 he1 => Pn.mk (h1.ldLis (Pn.mk (h1.stLis fun w2 hs2 h2 he2 => ?_)))⟩
    have hlis : T.lis = ((S.E.filter isL).length : Int) := hr.lis
    have hlis2 := hS.ei.lis
    have hl1 := ((filt_perm isL p1).1 (by simp [isL, hk])).length_eq
    simp only [List.length_cons] at hl1
    have hT2 : IntKind.i64.wrap (({ T with port := updN T.port p (-1) } : Tbl).lis - 1) = (((delE a.1.sd S.E).filter isL).length : Int) := by
      show IntKind.i64.wrap (T.lis - 1) = _
      rw [w64 (by omega) (by omega)]
      omega
    rw [hT2] at h2
    generalize hTT : ({ T with port := updN T.port p (-1), lis := (((delE a.1.sd S.E).filter isL).length : Int) } : Tbl) = T2 at h2
    have t2 : T2.rows = T.rows ∧ T2.free = T.free ∧ T2.bkt = T.bkt ∧ T2.port = updN T.port p (-1) ∧ T2.blk = T.blk ∧ T2.lis = (((delE a.1.sd S.E).filter isL).length : Int) ∧ T2.nsd = T.nsd ∧ T2.eph = T.eph := by
      subst hTT
      exact ⟨rfl, rfl, rfl, rfl, rfl, rfl, rfl, rfl⟩
    have z0 : orpT a.1.sd T2 0 = T2 := by
      unfold orpT
      cases T2
      simp
    refine ⟨fun m t' sd' i' k w' => ∃ n : Nat, n ≤ 6 ∧ m = 6 - n ∧ some ⟨b, 0, none⟩ = t' ∧ a.1.sd = sd' ∧ (i : Int) = i' ∧ k = (n : Int) ∧ TAt w' b (orpT a.1.sd T2 n) ∧ Ext [b] w w', _, ⟨0, by omega, rfl, rfl, rfl, rfl, rfl, by rw [z0]; exact h2, ((Ext.drew _ _).trans he1).trans he2⟩, ?_⟩
    rintro m t' sd' i' k w' ⟨n, hn6, rfl, rfl, rfl, rfl, rfl, h3, he3⟩
    unfold sock_Table_Free.L1b
    refine Bm.ite (fun hlt => Pn.mk ⟨⟨by omega, by omega⟩, h3.ldUsed (by omega) ?_⟩) fun hge => ?_
    · have hrown : (orpT a.1.sd T2 n).rows n = T2.rows n := by simp [orpT]
      rw [hrown]
      have skip : T2.rows n = orpR a.1.sd (T2.rows n) → sock_Table_Free.B1 (some ⟨b, 0, none⟩) a.1.sd (i : Int) (n : Int) false w' (fun t' sd' i' k w' => ∃ m', m' < 6 - n ∧ ∃ n : Nat, n ≤ 6 ∧ m' = 6 - n ∧ some ⟨b, 0, none⟩ = t' ∧ a.1.sd = sd' ∧ (i : Int) = i' ∧ k = (n : Int) ∧ TAt w' b (orpT a.1.sd T2 n) ∧ Ext [b] w w') R := fun hsame => by
        unfold sock_Table_Free.B1 sock_Table_Free.B2
        exact Bm.neg rfl ⟨6 - (n + 1), by omega, n + 1, by omega, rfl, rfl, rfl, rfl, by rw [w64 (by omega) (by omega)]; omega, by rw [← orpT_keep _ _ _ hsame]; exact h3, he3⟩
      refine Bm.mk (fun un => Pn.mk ⟨⟨by omega, by omega⟩, h3.ldPar (by omega) ?_⟩) fun un => skip (by unfold orpR; rw [if_neg (by rw [un]; simp)])
      rw [hrown]
      by_cases hpn : (T2.rows n).e.par = a.1.sd
      · rw [show ((T2.rows n).e.par == a.1.sd) = true by simp [hpn]]
        unfold sock_Table_Free.B1 sock_Table_Free.B2
        refine Bm.pos rfl (Pn.mk ⟨⟨by omega, by omega⟩, h3.stPar (by omega) fun w4 hs4 h4 he4 => Pn.mk ⟨⟨by omega, by omega⟩, h4.stRdy (by omega) fun w5 hs5 h5 he5 => ⟨6 - (n + 1), by omega, n + 1, by omega, rfl, rfl, rfl, rfl, by rw [w64 (by omega) (by omega)]; omega, ?_, (he3.trans he4).trans he5⟩⟩⟩)
        rw [updR_updR, updR_eq, hrown, orpT_succ _ _ _ _ (by unfold orpR; rw [if_pos ⟨un, hpn⟩])] at h5
        exact h5
      · rw [show ((T2.rows n).e.par == a.1.sd) = false by simp [hpn]]
        exact skip (by unfold orpR; rw [if_neg (fun z => hpn z.2)])
    · have hn : n = 6 := by omega
      subst hn
      refine give_ok h3 hi fun w4 h4 he4 => hR w4 ⟨_, i :: F, C, o, h4, ?_⟩ (he3.trans he4)
      have rowj : ∀ j, j < 6 → j ≠ i → (giveT (orpT a.1.sd T2 6) i).rows j = orpR a.1.sd (T.rows j) := fun j hj hji => by
        show (if j = i then _ else (orpT a.1.sd T2 6).rows j) = _
        rw [if_neg hji]
        show (if j < 6 then orpR a.1.sd (T2.rows j) else _) = _
        rw [if_pos hj, t2.1]
      have rowi : (giveT (orpT a.1.sd T2 6) i).rows i = ⟨false, zE, T.free, 0, 0, 0, 0, 0⟩ := by
        show (if i = i then _ else _) = _
        rw [if_pos rfl]
        show (⟨false, zE, T2.free, 0, 0, 0, 0, 0⟩ : Row) = _
        rw [t2.2.1]
      have hai : orpE a.1.sd a.1 = a.1 := by unfold orpE; rw [if_neg (by rw [hlo.2.2.2.2.2.1]; omega)]
      have hoi : orpR a.1.sd (T.rows i) = T.rows i := by unfold orpR; rw [if_neg (by rw [← ea, hlo.2.2.2.2.2.1]; omega)]
      refine ⟨?_, hr.rs.delLis hi u hki (p := p) (by rw [← ea]; exact hp) (by omega) (by omega) (fun j hj uj kj lj => ?_) (fun j hj hji => ?_) ?_ rfl t2.2.2.1 t2.2.2.2.1 t2.2.2.2.2.1, fun j hj uj kj => ?_, ?_, ?_, ?_⟩
      · have hp6 : (Lr (orpT a.1.sd T2 6)).Perm (a.1 :: ((delE a.1.sd S.E).map (orp a.1.sd)).map fun x : AE => x.1) := by
          rw [Lr_orp]
          have hLT : Lr T2 = Lr T := by unfold Lr Lri; rw [t2.1]
          rw [hLT]
          have := (hr.perm.trans (p1.map fun x : AE => x.1)).map (orpE a.1.sd)
          rw [List.map_cons, List.map_cons, hai] at this
          have e2 : ((delE a.1.sd S.E).map fun x : AE => x.1).map (orpE a.1.sd) = ((delE a.1.sd S.E).map (orp a.1.sd)).map fun x : AE => x.1 := by
            rw [List.map_map, List.map_map]
            refine List.map_congr_left fun x _ => ?_
            show orpE a.1.sd x.1 = (orp a.1.sd x).1
            unfold orpE orp
            split <;> rfl
          rw [e2] at this
          exact this
        refine perm_del hi ⟨?_, ?_⟩ hp6 (fun j hj hji => ?_) (by rw [rowi])
        · show (if i < 6 then orpR a.1.sd (T2.rows i) else _).used = true
          rw [if_pos hi, t2.1, hoi]; exact u
        · show (if i < 6 then orpR a.1.sd (T2.rows i) else _).e = a.1
          rw [if_pos hi, t2.1, hoi]; exact ea.symm
        · rw [rowj j hj hji]
          show _ = (if j < 6 then orpR a.1.sd (T2.rows j) else _).used ∧ _ = (if j < 6 then orpR a.1.sd (T2.rows j) else _).e
          rw [if_pos hj, t2.1]
          exact ⟨rfl, rfl⟩
      · obtain ⟨c, hc, ec⟩ := hr.toE hj uj
        have := hS.ei.prt c hc a ha (by rw [ec]; exact kj) hk (by rw [ec, lj, hp])
        exact hr.uniq hS j i hj hi uj u (by rw [← ec, ← ea]; exact this)
      · rw [rowj j hj hji]
        have q := orpR_same a.1.sd (T.rows j)
        exact ⟨q.1, q.2.1, q.2.2.2.2.2.2.2.kind, q.2.2.2.2.2.2.2.lp, q.2.2.2.2.2.2.2.rh, q.2.2.2.2.2.2.2.rp, q.2.2.2.2.2.2.2.slot⟩
      · rw [rowi]; exact ⟨rfl, rfl⟩
      · have hji : j ≠ i := fun z => by rw [z, rowi] at uj; cases uj
        rw [rowj j hj hji] at uj kj ⊢
        have q := orpR_same a.1.sd (T.rows j)
        rw [q.1] at uj
        rw [q.2.2.2.2.2.2.2.kind] at kj
        obtain ⟨c, hc, ec⟩ := hr.toE hj uj
        have hcs := hS.ei.sd c hc
        rw [ec] at hcs
        have hne : (T.rows j).e.sd ≠ a.1.sd := fun z => hji (hr.uniq hS j i hj hi uj u (by rw [z, ea]))
        have hf := filter_orp (sd := a.1.sd) (l := (T.rows j).e.sd) hne (by omega) (delE a.1.sd S.E)
        have hpa : a.1.par ≠ (T.rows j).e.sd := by rw [hlo.2.2.2.2.2.1]; omega
        refine ring_ext (r := T.rows j) ((hr.ring j hj uj kj).perm ?_ ?_) q.2.2.2.2.2.2.2.sd q.2.1 q.2.2.2.2.2.1 q.2.2.2.2.2.2.1 q.2.2.2.1 q.2.2.2.2.1 q.2.2.1
        · show (((delE a.1.sd S.E).map (orp a.1.sd)).filter (kidOf (T.rows j).e.sd)).length = _
          rw [hf.1, ((filt_perm (kidOf (T.rows j).e.sd) p1).2 (by simp [kidOf, hpa])).length_eq]
        · show (S.E.filter (rdyOf (T.rows j).e.sd)).Perm (((delE a.1.sd S.E).map (orp a.1.sd)).filter (rdyOf (T.rows j).e.sd))
          rw [hf.2]
          exact (filt_perm (rdyOf (T.rows j).e.sd) p1).2 (by simp [rdyOf, hpa])
      · show T2.lis = ((((delE a.1.sd S.E).map (orp a.1.sd)).filter isL).length : Int)
        rw [t2.2.2.2.2.2.1, filter_isL]
      · show T2.nsd = _
        rw [t2.2.2.2.2.2.2.1]; exact hr.nsd
      · show T2.eph = _
        rw [t2.2.2.2.2.2.2.2]; exact hr.eph
  · -- a connection
    have hco := (hS.ei.ok a ha).con hk
    have hki : (T.rows i).e.kind = 2 := by rw [← ea]; exact hk
    have hlt : hE (T.rows i).e < 4 := hsh_lt _ _ _
    have himem : i ∈ C (hE (T.rows i).e) := (hr.rs.cmem _ hlt i).2 ⟨hi, u, hki, rfl⟩
    obtain ⟨P, Q, hC⟩ := List.append_of_mem himem
    obtain ⟨s, hs⟩ : ∃ s : Nat, a.1.slot = s := ⟨a.1.slot.toNat, by omega⟩
    have hclen := hr.rs.clen hlt
    rw [hC, List.length_append, List.length_cons] at hclen
    have hchl := hr.rs.ch _ hlt
    have hcnd := hr.rs.cnd _ hlt
    rw [hC] at hchl hcnd
    rw [orp_none hS ha hk] at hR
    -- behind unlink
    have rest : ∀ w1 T1, TAt w1 b T1 → Ext [b] w w1 → T1.free = T.free → T1.port = T.port → T1.blk = T.blk → T1.lis = T.lis → T1.nsd = T.nsd → T1.eph = T.eph → (∀ j, (T1.rows j).used = (T.rows j).used ∧ (T1.rows j).e = (T.rows j).e) → (∀ j, (T.rows j).e.kind = 1 → T1.rows j = T.rows j) →
        ((P = [] ∧ (∀ j, j ≠ i → (T1.rows j).next = (T.rows j).next) ∧ T1.bkt = updN T.bkt (hE (T.rows i).e) (T.rows i).next) ∨ (∃ P' j0, P = P' ++ [j0] ∧ (∀ j, j ≠ i → j ≠ j0 → (T1.rows j).next = (T.rows j).next) ∧ (T1.rows j0).next = (T.rows i).next ∧ T1.bkt = T.bkt)) →
        Pn (some ⟨b, 0, none⟩) fun a_5 => LdI .u8 (a_5.add 103) w1.drew fun x83 => Pn (some ⟨b, 0, none⟩) fun a_6 => (0 ≤ (i : Int) ∧ (i : Int) < ((6 : Nat) : Int)) ∧ LdI .i64 (((Addr.add a_6 ((i : Int).toNat * 15)).add 1).add 5) w1.drew fun x91 => sock_bitOf.Call x91 w1.drew fun r92 w5 => w5.cell? (a_5.add 103) = some (.int .u8 x83) ∧ Pn (some ⟨b, 0, none⟩) fun a_7 => Sts [.int .u8 (and8 x83 (not8 r92))] (a_7.add 103) 0 w5 fun w6 => sock_Table_orphan.Call (some ⟨b, 0, none⟩) (i : Int) w6 fun w7 => sock_Table_give.Call (some ⟨b, 0, none⟩) (i : Int) w7 fun w8 => R 0 w8 := by
      intro w1 T1 h1 he1 f1 f2 f3 f4 f5 f6 hrow hlrow hnx
      refine Pn.mk (h1.drew.ldBlk (Pn.mk ⟨⟨by omega, by omega⟩, h1.drew.ldSlot hi ?_⟩))
      rw [(hrow i).2, ← ea, hs]
      refine bitOf_ok (by omega) ⟨h1.drew.cellBlk, Pn.mk ?_⟩
      rw [f3, hr.rs.blk, blk_not o (by omega)]
      refine h1.drew.stBlk fun w2 hs2 h2 he2 => orphan_ok h2 hr hS hi u ha ea hk f2 (hrow i).2 hlrow fun w3 T3 h3 g1 g2 g3 g4 g5 g6 g7 hsame hring he3 => give_ok h3 hi fun w4 h4 he4 => hR w4 ⟨_, i :: F, updC C (hE (T.rows i).e) (P ++ Q), updB o s false, h4, ?_⟩ ((((he1.trans (Ext.drew _ _)).trans he2).trans he3).trans he4)
      have hsame' : ∀ j, j < 6 → (T3.rows j).used = (T.rows j).used ∧ (T3.rows j).e = (T.rows j).e ∧ (T3.rows j).next = (T1.rows j).next := fun j hj => by
        have := hsame j hj
        exact ⟨this.1.trans (hrow j).1, this.2.1.trans (hrow j).2, this.2.2⟩
      have rowj : ∀ j, j ≠ i → (giveT T3 i).rows j = T3.rows j := fun j hji => by
        show (if j = i then _ else T3.rows j) = _
        rw [if_neg hji]
      have rowi : (giveT T3 i).rows i = ⟨false, zE, T3.free, 0, 0, 0, 0, 0⟩ := by
        show (if i = i then _ else _) = _
        rw [if_pos rfl]
      refine ⟨?_, hr.rs.delConn hi u hki (s := s) (by rw [← ea]; exact hs) (by omega) (fun j hj uj kj sj => ?_) hC (fun j hj hji => ?_) ?_ ?_ rfl (g3.trans f2) g4, fun j hj uj kj => ?_, ?_, ?_, ?_⟩
      · refine perm_del (e := a.1) (T := T) hi ⟨u, ea.symm⟩ (hr.perm.trans (p1.map fun x : AE => x.1)) (fun j hj hji => ?_) (by rw [rowi])
        rw [rowj j hji]
        exact ⟨(hsame' j hj).1, (hsame' j hj).2.1⟩
      · obtain ⟨c, hc, ec⟩ := hr.toE hj uj
        have := hS.ei.slt c hc a ha (by rw [ec]; exact kj) hk (by rw [ec, sj, hs])
        exact hr.uniq hS j i hj hi uj u (by rw [← ec, ← ea]; exact this)
      · rw [rowj j hji, (hsame' j hj).1, (hsame' j hj).2.1]
        exact ⟨rfl, rfl, rfl, rfl, rfl, rfl⟩
      · rcases hnx with ⟨q1, q2, q3⟩ | ⟨P', j0, q1, q2, q3, q4⟩
        · exact .inl ⟨q1, fun j hj hji => by rw [rowj j hji, (hsame' j hj).2.2]; exact q2 j hji, g2.trans q3⟩
        · have hj0 := (hr.rs.cmem _ hlt j0).1 (by rw [hC, q1]; simp)
          have hj0i : j0 ≠ i := fun z => by
            subst z
            rw [q1] at hcnd
            have := (List.nodup_append.1 hcnd).2.2 j0 (by simp) j0 (by simp)
            exact this rfl
          exact .inr ⟨P', j0, q1, fun j hj hji hjj => by rw [rowj j hji, (hsame' j hj).2.2]; exact q2 j hji hjj, by rw [rowj j0 hj0i, (hsame' j0 hj0.1).2.2]; exact q3, g2.trans q4⟩
      · rw [rowi]
        exact ⟨rfl, by show T3.free = T.free; rw [g1]; exact f1⟩
      · have hji : j ≠ i := fun z => by rw [z, rowi] at uj; cases uj
        rw [rowj j hji] at uj kj ⊢
        rw [(hsame' j hj).1] at uj
        rw [(hsame' j hj).2.1] at kj
        exact hring j hj uj kj
      · show T3.lis = (((delE a.1.sd S.E).filter isL).length : Int)
        have hl1 := ((filt_perm isL p1).2 (by simp [isL, hk])).length_eq
        rw [← hl1, ← hr.lis, g5]; exact f4
      · show T3.nsd = S.nsd
        rw [g6, ← hr.nsd]; exact f5
      · show T3.eph = S.eph
        rw [g7, ← hr.eph]; exact f6
    refine Bm.neg (by simp [hk]) (unlink_ok ht hi hchl hcnd (fun x hx => ((hr.rs.cmem _ hlt x).1 (by rw [hC]; simp [hx])).1) (by omega) (fun hP w1 h1 he1 => ?_) fun P' j0 hP w1 h1 he1 => ?_)
    · exact rest w1 _ h1 he1 rfl rfl rfl rfl rfl rfl (fun j => ⟨rfl, rfl⟩) (fun j _ => rfl) (.inl ⟨hP, fun j _ => rfl, rfl⟩)
    · have hj0 := (hr.rs.cmem _ hlt j0).1 (by rw [hC, hP]; simp)
      refine rest w1 _ h1 he1 rfl rfl rfl rfl rfl rfl (fun j => ?_) (fun j hj => ?_) (.inr ⟨P', j0, hP, fun j _ hjj => ?_, ?_, rfl⟩)
      · by_cases e : j = j0
        · subst e; rw [updR_eq]; exact ⟨rfl, rfl⟩
        · rw [updR_ne e]; exact ⟨rfl, rfl⟩
      · rw [updR_ne (fun e => by rw [e, hj0.2.2.1] at hj; omega)]
      · rw [updR_ne hjj]
      · rw [updR_eq]
end
end Go.Proofs.Qxb6500424aGreat.Sk
