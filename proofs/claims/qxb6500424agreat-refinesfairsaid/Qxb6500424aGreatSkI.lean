/-
  sock: Accept, Free of the real table.
-/
import Derived.Test.Qxb6500424aGreatSkH
set_option linter.unusedVariables false
open Go.Vc
namespace Go.Proofs.Qxb6500424aGreat.Sk

section
variable {w : World} {b : Nat} {S : SkS} {T : Tbl} {F : List Nat} {C : Nat → List Nat} {occ : Nat → Bool}
theorem dequeue_ok {l hd nn : Nat} {R : Int → World → Prop} (ht : TAt w b T) (hl : l < 6) (hh : (T.rows l).head = (hd : Int)) (hd2 : hd < 2) (hn : (T.rows l).n = ((nn + 1 : Nat) : Int)) (hn2 : nn < 2)
    (hR : ∀ w', TAt w' b (updR T l { T.rows l with head := (((hd + 1) % 2 : Nat) : Int), n := (nn : Int) }) → Ext [b] w w' → R (rg (T.rows l) hd) w') : sock_Table_dequeue.Call (some ⟨b, 0, none⟩) (l : Int) w R := by
  apply sock_Table_dequeue.sound
  unfold sock_Table_dequeue.B0
  refine Pn.mk ⟨⟨by omega, by omega⟩, ht.ldHead hl ?_⟩
  rw [hh]
  refine Pn.mk ⟨⟨by omega, by omega⟩, ⟨by omega, by omega⟩, ht.ldRing hl hd2 (Pn.mk ?_)⟩
  rw [w64 (by omega) (by omega), show (hd : Int) + 1 = ((hd + 1 : Nat) : Int) by omega]
  refine wrap_ok (by omega) ⟨⟨by omega, by omega⟩, ht.drew.stHead hl fun w1 hs1 h1 he1 => Pn.mk ⟨⟨by omega, by omega⟩, h1.drew.ldN hl (Pn.mk ⟨⟨by omega, by omega⟩, h1.drew.stN hl fun w2 hs2 h2 he2 => hR w2 ?_ ((((Ext.drew _ _).trans he1).trans (Ext.drew _ _)).trans he2)⟩)⟩⟩
  rw [updR_updR, updR_eq] at h2
  have hnn : ({ T.rows l with head := (((hd + 1) % 2 : Nat) : Int) } : Row).n = ((nn + 1 : Nat) : Int) := hn
  rw [hnn, w64 (by omega) (by omega), show (((nn + 1 : Nat) : Int)) - 1 = (nn : Int) by omega] at h2
  exact h2
theorem realAccept_ok {lsd : Int} {R : Int → Int → World → Prop} (h : RAt w b S) (hS : SkOk S) (hR : ∀ w', RAt w' b (acceptA lsd S).2 → Ext [b] w w' → R (acceptA lsd S).1.1 (acceptA lsd S).1.2 w') : sock_Table_Accept.Call (some ⟨b, 0, none⟩) lsd w R := by
  apply sock_Table_Accept.sound
  unfold sock_Table_Accept.B0
  have hh := h
  obtain ⟨T, F, C, o, ht, hr⟩ := h
  refine hr.find hS ht ⟨fun l c hl6 lu hc ec hsd => ?_, fun hno => ?_⟩
  rotate_left
  · have e : acceptA lsd S = ((0, 21), S) := by unfold acceptA; rw [getE_none hno]
    rw [e] at hR
    refine Bm.pos rfl ?_
    unfold sock_Table_Accept.B1
    exact Bm.pos rfl (hR w hh (Ext.refl _ _))
  subst hsd
  have hget := getE_some hS.ei hc
  refine Bm.neg (by simp) (Pn.mk ⟨⟨by omega, by omega⟩, ht.ldKind hl6 ?_⟩)
  rw [← ec]
  by_cases hk : c.1.kind = 1
  rotate_left
  · rw [show (c.1.kind != 1) = true by simp [hk]]
    have e : acceptA c.1.sd S = ((0, 21), S) := by unfold acceptA; rw [hget]; show (if c.1.kind ≠ 1 then _ else _) = _; rw [if_pos hk]
    rw [e] at hR
    unfold sock_Table_Accept.B1
    exact Bm.pos rfl (hR w hh (Ext.refl _ _))
  rw [show (c.1.kind != 1) = false by simp [hk]]
  unfold sock_Table_Accept.B1
  have lk : (T.rows l).e.kind = 1 := by rw [← ec]; exact hk
  obtain ⟨hnext, hkids, hd, L, hd2, hhd, hasc, hperm, hn, hrg⟩ := hr.ring l hl6 lu lk
  rw [← ec] at hperm hkids
  have hLq := qE_uniq hS.ei hasc hperm
  refine Bm.neg rfl (Pn.mk ⟨⟨by omega, by omega⟩, ht.ldN hl6 ?_⟩)
  rw [hn]
  cases L with
  | nil =>
    have e : acceptA c.1.sd S = ((0, 14), S) := by unfold acceptA; rw [hget]; show (if c.1.kind ≠ 1 then _ else match qE S.E c.1.sd with | [] => _ | q :: _ => _) = _; rw [if_neg (by omega), ← hLq]
    rw [e] at hR
    exact Bm.pos rfl (hR w hh (Ext.refl _ _))
  | cons q L' =>
    have e : acceptA c.1.sd S = ((q.1.sd, 0), { S with E := turnE q.1.sd accG S.E }) := by unfold acceptA; rw [hget]; show (if c.1.kind ≠ 1 then _ else match qE S.E c.1.sd with | [] => _ | q :: _ => _) = _; rw [if_neg (by omega), ← hLq]
    rw [e] at hR
    have hqm := List.mem_filter.1 (hperm.subset (List.mem_cons_self ..))
    have hqr := rdyOf_iff.1 hqm.2
    obtain ⟨p1, p2⟩ := turn_perm hS.ei hqm.1 accG
    have hcsd := hS.ei.sd c hc
    have kq := ((filt_perm (kidOf c.1.sd) p1).1 (by simp [kidOf, hqr.1])).length_eq
    have kq' := ((filt_perm (kidOf c.1.sd) p2).2 (show decide ((0 : Int) = c.1.sd) = false from decide_eq_false (by omega))).length_eq
    have rq := (filt_perm (rdyOf c.1.sd) p1).1 (by simp [rdyOf, hqr.1, hqr.2])
    have rq' := (filt_perm (rdyOf c.1.sd) p2).2 (by simp [rdyOf, accG])
    have hk2 := hS.ei.kid c.1.sd (by omega)
    have hLlen : L'.length < 2 := by
      have h1 := hperm.length_eq
      have hle : (S.E.filter (rdyOf c.1.sd)).length ≤ (S.E.filter (kidOf c.1.sd)).length := by
        have : S.E.filter (rdyOf c.1.sd) = (S.E.filter (kidOf c.1.sd)).filter fun x => x.1.rdy := by
          rw [List.filter_filter]
          congr 1
          funext x
          simp [rdyOf, kidOf, Bool.and_comm]
        rw [this]
        exact List.length_filter_le ..
      simp only [List.length_cons] at h1
      omega
    simp only [List.length_cons] at kq
    refine Bm.neg (by simp; omega) (dequeue_ok (hd := hd) (nn := L'.length) ht hl6 hhd hd2 (by rw [hn]; rfl) hLlen fun w1 h1 he1 => ?_)
    have hhead : rg (T.rows l) hd = q.1.sd := by
      have := hrg 0 q rfl
      rwa [Nat.add_zero, Nat.mod_eq_of_lt hd2] at this
    rw [hhead]
    refine Pn.mk ⟨⟨by omega, by omega⟩, h1.drew.ldKids hl6 (Pn.mk ⟨⟨by omega, by omega⟩, h1.drew.stKids hl6 fun w2 hs2 h2 he2 => ?_⟩)⟩
    rw [updR_updR, updR_eq] at h2
    have hkk : ({ T.rows l with head := (((hd + 1) % 2 : Nat) : Int), n := (L'.length : Int) } : Row).kids = ((S.E.filter (kidOf c.1.sd)).length : Int) := hkids
    rw [hkk, w64 (by omega) (by omega)] at h2
    generalize hr1 : ({ T.rows l with head := (((hd + 1) % 2 : Nat) : Int), n := (L'.length : Int), kids := ((S.E.filter (kidOf c.1.sd)).length : Int) - 1 } : Row) = r1 at h2
    have s1 : r1.used = (T.rows l).used ∧ r1.e = (T.rows l).e ∧ r1.next = (T.rows l).next ∧ r1.r0 = (T.rows l).r0 ∧ r1.r1 = (T.rows l).r1 ∧ r1.head = (((hd + 1) % 2 : Nat) : Int) ∧ r1.n = (L'.length : Int) ∧ r1.kids = ((S.E.filter (kidOf c.1.sd)).length : Int) - 1 := by
      subst hr1
      exact ⟨rfl, rfl, rfl, rfl, rfl, rfl, rfl, rfl⟩
    have rowsE : ∀ j, ((updR T l r1).rows j).used = (T.rows j).used ∧ ((updR T l r1).rows j).e = (T.rows j).e := fun j => by
      by_cases hjl : j = l
      · subst hjl; rw [updR_eq]; exact ⟨s1.1, s1.2.1⟩
      · rw [updR_ne hjl]; exact ⟨rfl, rfl⟩
    refine find_ok h2 (fun x y hx hy ux uy e => ?_) ⟨fun i hi ui esd => ?_, fun hno => ?_⟩
    · rw [(rowsE x).1] at ux
      rw [(rowsE y).1] at uy
      rw [(rowsE x).2, (rowsE y).2] at e
      exact hr.uniq hS x y hx hy ux uy e
    rotate_left
    · obtain ⟨i, hi, ui, ei⟩ := hr.toT hqm.1
      exact absurd (by rw [(rowsE i).2, ei]) (hno i hi (by rw [(rowsE i).1]; exact ui))
    rw [(rowsE i).1] at ui
    rw [(rowsE i).2] at esd
    obtain ⟨z, hz, ez⟩ := hr.toE hi ui
    have hzq : z = q := hS.ei.uniq hz hqm.1 (by rw [ez]; exact esd)
    subst hzq
    have hqk : z.1.kind = 2 := by
      rcases hS.ei.ok z hz with y | y
      · rw [y.2.2.2.2.2.2.2] at hqr; cases hqr.2
      · exact y.1
    have hli : l ≠ i := fun y => by rw [y, ← ez, hqk] at lk; omega
    have hrowi : (updR T l r1).rows i = T.rows i := updR_ne (fun y => hli y.symm)
    refine Bm.pos (by simp) (Pn.mk ⟨⟨by omega, by omega⟩, h2.stPar hi fun w3 hs3 h3 he3 => Pn.mk ⟨⟨by omega, by omega⟩, h3.stRdy hi fun w4 hs4 h4 he4 => hR w4 ⟨_, F, C, o, h4, ?_⟩ ((((he1.trans (Ext.drew _ _)).trans he2).trans he3).trans he4)⟩⟩)
    rw [updR_updR, updR_eq, hrowi]
    have hrow : ∀ j, j ≠ i → j ≠ l → (updR (updR T l r1) i { T.rows i with e := { (T.rows i).e with par := 0, rdy := false } }).rows j = T.rows j := fun j h1 h2 => by rw [updR_ne h1, updR_ne h2]
    have hrowl : (updR (updR T l r1) i { T.rows i with e := { (T.rows i).e with par := 0, rdy := false } }).rows l = r1 := by rw [updR_ne hli, updR_eq]
    have hrowi2 : (updR (updR T l r1) i { T.rows i with e := { (T.rows i).e with par := 0, rdy := false } }).rows i = { T.rows i with e := { (T.rows i).e with par := 0, rdy := false } } := updR_eq ..
    show Rel (updR (updR T l r1) i { T.rows i with e := { (T.rows i).e with par := 0, rdy := false } }) _ _ _ _
    refine ⟨hr.perm_turn hi ui ez p1 p2 (fun j hj => ?_) ?_, hr.rs.congr (fun j hj => ?_) rfl rfl rfl rfl, fun j hj uj kj => ?_, ?_, hr.nsd, hr.eph⟩
    · rw [updR_ne hj]; exact rowsE j
    · rw [hrowi2]
      exact ⟨ui, by rw [← ez]; rfl⟩
    · by_cases hji : j = i
      · subst hji
        rw [hrowi2]
        exact ⟨rfl, rfl, rfl, rfl, rfl, rfl, rfl⟩
      · by_cases hjl : j = l
        · subst hjl
          rw [hrowl]
          exact ⟨s1.1, s1.2.2.1, by rw [s1.2.1], by rw [s1.2.1], by rw [s1.2.1], by rw [s1.2.1], by rw [s1.2.1]⟩
        · rw [hrow j hji hjl]
          exact ⟨rfl, rfl, rfl, rfl, rfl, rfl, rfl⟩
    · by_cases hji : j = i
      · subst hji
        rw [hrowi2] at kj
        have : (T.rows j).e.kind = 1 := kj
        rw [← ez, hqk] at this
        omega
      · by_cases hjl : j = l
        · subst hjl
          rw [hrowl]
          have esd' : r1.e.sd = c.1.sd := by rw [s1.2.1, ← ec]
          refine ⟨by rw [s1.2.2.1]; exact hnext, ?_, (hd + 1) % 2, L', by omega, s1.2.2.2.2.2.1, (List.pairwise_cons.1 hasc).2, ?_, s1.2.2.2.2.2.2.1, fun k y hy => ?_⟩
          · rw [esd', s1.2.2.2.2.2.2.2, kq', kq]
            omega
          · rw [esd']
            exact (List.Perm.cons_inv (hperm.trans rq)).trans rq'.symm
          · have := hrg (k + 1) y (by simpa using hy)
            have hrr : rg r1 (((hd + 1) % 2 + k) % 2) = rg (T.rows j) ((hd + (k + 1)) % 2) := by
              rw [show ((hd + 1) % 2 + k) % 2 = (hd + (k + 1)) % 2 by omega]
              unfold rg
              rw [s1.2.2.2.1, s1.2.2.2.2.1]
            rw [hrr]
            exact this
        · rw [hrow j hji hjl] at uj kj ⊢
          have hne : (T.rows j).e.sd ≠ c.1.sd := fun y => hjl (hr.uniq hS j l hj hl6 uj lu (by rw [y, ec]))
          obtain ⟨g, hg, eg⟩ := hr.toE hj uj
          have hgs := hS.ei.sd g hg
          rw [eg] at hgs
          exact ring_other (hr.ring j hj uj kj) p1 p2 (fun y => hne (by rw [← y, hqr.1])) (fun y => by have : (0 : Int) = (T.rows j).e.sd := y; omega)
    · show T.lis = (((turnE z.1.sd accG S.E).filter isL).length : Int)
      rw [hr.lis, lis_turn p1 p2 rfl]
/-! ### leave -/
theorem leave_ok {l hd : Nat} {P Q : List AE} {a : AE} {R : World → Prop} (ht : TAt w b T) (hl : l < 6) (hh : (T.rows l).head = (hd : Int)) (hd2 : hd < 2) (hn : (T.rows l).n = ((P ++ a :: Q).length : Int)) (hn2 : (P ++ a :: Q).length ≤ 2)
    (hrg : ∀ (k : Nat) (y : AE), (P ++ a :: Q)[k]? = some y → rg (T.rows l) ((hd + k) % 2) = y.1.sd) (hP : ∀ y ∈ P, y.1.sd ≠ a.1.sd)
    (hR : ∀ w' r, TAt w' b (updR T l r) → r.used = (T.rows l).used ∧ r.e = (T.rows l).e ∧ r.next = (T.rows l).next ∧ r.kids = (T.rows l).kids ∧ r.head = (hd : Int) ∧ r.n = ((P ++ Q).length : Int) → (∀ (k : Nat) (y : AE), (P ++ Q)[k]? = some y → rg r ((hd + k) % 2) = y.1.sd) → Ext [b] w w' → R w') : sock_Table_leave.Call (some ⟨b, 0, none⟩) (l : Int) a.1.sd w R := by
  apply sock_Table_leave.sound
  unfold sock_Table_leave.B0
  have hlen : (P ++ a :: Q).length = P.length + Q.length + 1 := by simp; omega
  refine Pn.mk ⟨⟨by omega, by omega⟩, ht.drew.ldHead hl (Pn.mk ⟨⟨by omega, by omega⟩, ht.drew.ldN hl ?_⟩)⟩
  rw [hh, hn]
  refine ⟨fun m t' l' sd' h' n' k' w' => ∃ k : Nat, k ≤ P.length ∧ m = P.length - k ∧ some ⟨b, 0, none⟩ = t' ∧ (l : Int) = l' ∧ a.1.sd = sd' ∧ (hd : Int) = h' ∧ ((P ++ a :: Q).length : Int) = n' ∧ k' = (k : Int) ∧ Ext [] w w', _, ⟨0, Nat.zero_le _, rfl, rfl, rfl, rfl, rfl, rfl, rfl, Ext.drew _ _⟩, ?_⟩
  rintro m t' l' sd' h' n' k' w' ⟨k, hk, rfl, rfl, rfl, rfl, rfl, rfl, rfl, he⟩
  have ht' := ht.ext0 he
  unfold sock_Table_leave.L1b
  refine Bm.pos (decide_eq_true (by omega)) (Pn.mk ⟨⟨by omega, by omega⟩, ?_⟩)
  rw [w64 (by omega) (by omega), show (hd : Int) + (k : Int) = ((hd + k : Nat) : Int) by omega]
  refine wrap_ok (by omega) ⟨⟨by omega, by omega⟩, ht'.drew.ldRing hl (by omega) ?_⟩
  by_cases hkP : k < P.length
  · obtain ⟨y, hy⟩ : ∃ y, P[k]? = some y := ⟨_, List.getElem?_eq_getElem hkP⟩
    have := hrg k y (by rw [List.getElem?_append_left hkP]; exact hy)
    have hne := hP y (List.mem_of_getElem? hy)
    rw [this, show (y.1.sd != a.1.sd) = true by simp [hne]]
    unfold sock_Table_leave.B1
    exact Bm.pos rfl ⟨P.length - (k + 1), by omega, k + 1, by omega, rfl, rfl, rfl, rfl, rfl, rfl, by rw [w64 (by omega) (by omega)]; omega, he.trans (Ext.drew _ _)⟩
  · have hkP' : k = P.length := by omega
    subst hkP'
    have := hrg P.length a (by rw [List.getElem?_append_right (Nat.le_refl _), Nat.sub_self]; rfl)
    rw [this, show (a.1.sd != a.1.sd) = false by simp]
    unfold sock_Table_leave.B1
    refine Bm.neg rfl (Bm.neg (by simp; omega) ⟨fun m t' l' h' n' k' w' => ∃ (d : Nat) (r : Row), d ≤ Q.length ∧ m = Q.length - d ∧ some ⟨b, 0, none⟩ = t' ∧ (l : Int) = l' ∧ (hd : Int) = h' ∧ ((P ++ a :: Q).length : Int) = n' ∧ k' = ((P.length + d : Nat) : Int) ∧ TAt w' b (updR T l r) ∧ (r.used = (T.rows l).used ∧ r.e = (T.rows l).e ∧ r.next = (T.rows l).next ∧ r.kids = (T.rows l).kids ∧ r.head = (hd : Int) ∧ r.n = ((P ++ a :: Q).length : Int)) ∧ (∀ (q : Nat) (y : AE), q < P.length + d → (P ++ Q)[q]? = some y → rg r ((hd + q) % 2) = y.1.sd) ∧ (∀ (q : Nat) (y : AE), P.length + d < q → (P ++ a :: Q)[q]? = some y → rg r ((hd + q) % 2) = y.1.sd) ∧ Ext [b] w w', Q.length,
      ⟨0, T.rows l, Nat.zero_le _, rfl, rfl, rfl, rfl, rfl, rfl, ?_, ⟨rfl, rfl, rfl, rfl, hh, hn⟩, fun q y hq hy => ?_, fun q y _ hy => hrg q y hy, (he.trans (Ext.drew _ _)).nil⟩, ?_⟩)
    · have : updR T l (T.rows l) = T := by
        unfold updR
        cases T
        congr 1
        funext j
        by_cases e : j = l <;> simp [e]
      rw [this]
      exact ht'.drew
    · refine hrg q y ?_
      rw [List.getElem?_append_left (by omega)] at hy ⊢
      exact hy
    clear he ht' this
    rintro m t' l' h' n' k' w' ⟨d, r, hdQ, rfl, rfl, rfl, rfl, rfl, rfl, h1, hsame, hlo, hhi, he⟩
    unfold sock_Table_leave.L2b
    rw [w64 (x := ((P.length + d : Nat) : Int) + 1) (by omega) (by omega)]
    refine Bm.ite (fun hlt => ?_) fun hge => ?_
    · have hd0 : d < Q.length := by omega
      rw [w64 (x := (hd : Int) + ((P.length + d : Nat) : Int)) (by omega) (by omega), w64 (by omega) (by omega), show (hd : Int) + ((P.length + d : Nat) : Int) = ((hd + (P.length + d) : Nat) : Int) by omega]
      refine wrap_ok (by omega) ?_
      rw [show ((hd + (P.length + d) : Nat) : Int) + 1 = ((hd + (P.length + d) + 1 : Nat) : Int) by omega]
      refine wrap_ok (by omega) (Pn.mk ⟨⟨by omega, by omega⟩, ⟨by omega, by omega⟩, h1.drew.ldRing hl (by omega) (Pn.mk ⟨⟨by omega, by omega⟩, ⟨by omega, by omega⟩, h1.drew.stRing hl (by omega) fun w2 hs2 h2 he2 => ?_⟩)⟩)
      rw [updR_updR, updR_eq] at h2
      obtain ⟨y, hy⟩ : ∃ y, Q[d]? = some y := ⟨_, List.getElem?_eq_getElem hd0⟩
      have hgy : (P ++ a :: Q)[P.length + d + 1]? = some y := by
        rw [List.getElem?_append_right (by omega), show P.length + d + 1 - P.length = d + 1 by omega]
        simpa using hy
      have hval := hhi (P.length + d + 1) y (by omega) hgy
      rw [show (hd + (P.length + d + 1)) % 2 = (hd + (P.length + d) + 1) % 2 by omega] at hval
      rw [hval] at h2
      have hss := setRg_same r ((hd + (P.length + d)) % 2) y.1.sd
      refine ⟨Q.length - (d + 1), by omega, d + 1, _, by omega, rfl, rfl, rfl, rfl, rfl, by omega, h2, ⟨by rw [hss.1]; exact hsame.1, by rw [hss.2.1]; exact hsame.2.1, by rw [hss.2.2.1]; exact hsame.2.2.1, by rw [hss.2.2.2.1]; exact hsame.2.2.2.1, by rw [hss.2.2.2.2.1]; exact hsame.2.2.2.2.1, by rw [hss.2.2.2.2.2]; exact hsame.2.2.2.2.2⟩, fun q z hq hz => ?_, fun q z hq hz => ?_, (he.trans (Ext.drew _ _)).trans he2⟩
      · rw [rg_set _ _ _ _ (by omega) (by omega)]
        by_cases hqe : q = P.length + d
        · subst hqe
          rw [if_pos rfl]
          rw [List.getElem?_append_right (by omega), show P.length + d - P.length = d by omega, hy] at hz
          cases hz
          rfl
        · rw [if_neg (by omega)]
          exact hlo q z (by omega) hz
      · have := (List.getElem?_eq_some_iff.1 hz).1
        omega
    · have hdQ' : d = Q.length := by omega
      subst hdQ'
      refine Pn.mk ⟨⟨by omega, by omega⟩, h1.drew.ldN hl (Pn.mk ⟨⟨by omega, by omega⟩, h1.drew.stN hl fun w2 hs2 h2 he2 => ?_⟩)⟩
      rw [updR_updR, updR_eq, hsame.2.2.2.2.2, w64 (by omega) (by omega)] at h2
      refine hR w2 _ h2 ⟨hsame.1, hsame.2.1, hsame.2.2.1, hsame.2.2.2.1, hsame.2.2.2.2.1, by simp; omega⟩ (fun q y hy => ?_) ((he.trans (Ext.drew _ _)).trans he2)
      have hq := (List.getElem?_eq_some_iff.1 hy).1
      rw [List.length_append] at hq
      exact hlo q y (by omega) hy
end
end Go.Proofs.Qxb6500424aGreat.Sk
