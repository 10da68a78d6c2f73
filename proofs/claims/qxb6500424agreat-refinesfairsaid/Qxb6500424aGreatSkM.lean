/-
  sock: the real side's building and its plain observers: New, Next, Get, Queue, List.
-/
import Derived.Test.Qxb6500424aGreatSkL
set_option linter.unusedVariables false
set_option linter.unusedSimpArgs false
open Go.Vc
namespace Go.Proofs.Qxb6500424aGreat.Sk

/-! ### lists of numbers -/
def iv (x : Int) : Value := .int .i64 x
def IAt (w : World) (r : Nat) (L : List Int) : Prop := Own w r (L.map iv).toArray T_int
section
variable {w : World} {r : Nat} {L : List Int}
theorem IAt.ext {w' : World} {S : List Nat} (h : IAt w r L) (he : Ext S w w') (hb : r ∉ S) : IAt w' r L := he.own h hb
theorem IAt.lt (h : IAt w r L) : r < w.heap.size := Own.lt h
theorem IAt.ld {A : Addr} {k : Nat} {x : Int} {K : Int → Prop} (h : IAt w r L) (hA : A = ⟨r, k, none⟩) (hx : L[k]? = some x) (hk : K x) : LdI .i64 A w K := by
  subst hA
  exact LdI.mk h (by simp [hx, iv]) hk
theorem IAt.st {A : Addr} {k : Nat} {x : Int} {K : World → Prop} (h : IAt w r L) (hA : A = ⟨r, k, none⟩) (hl : k < L.length) (hk : ∀ w', w'.heap.size = w.heap.size → IAt w' r (L.set k x) → Ext [r] w w' → K w') : Sts [.int .i64 x] A 0 w K := by
  subst hA
  refine Sts.mk h (by simp; omega) rfl fun w' hs ho he => hk w' hs ?_ he
  have e : putArr (L.map iv).toArray k [.int .i64 x] = ((L.set k x).map iv).toArray := by
    show (L.map iv).toArray.setIfInBounds k (iv x) = _
    rw [List.setIfInBounds_toArray, List.map_set]
  rw [e] at ho
  exact ho
theorem IAt.make {n : Nat} {K : Nat → World → Prop} (hn : n ≤ 100) (hk : ∀ r w', r = w.heap.size → w'.heap.size = r + 1 → IAt w' r (List.replicate n 0) → Ext [] w w' → K r w') : Make T_int (.int .i64 0) 1 8 (n : Int) (n : Int) w K :=
  Make.mk (by omega) (by omega) (by omega) (by omega) fun r w' e1 e2 ho he => hk r w' e1 e2 (by
    rw [show Value.cells (.int .i64 0) = #[.int .i64 0] from rfl, madeCells_one, Nat.mul_one, Int.toNat_natCast] at ho
    unfold IAt
    rw [List.map_replicate, List.toArray_replicate]
    exact ho) he
theorem addr_k (r : Nat) (k : Nat) : Addr.add ⟨r, 0, none⟩ ((k : Int).toNat * 1) = ⟨r, k, none⟩ := by
  rw [add_mk, Int.toNat_natCast]; simp
end
/-! ### New -/
def zR (nx : Int) : Row := ⟨false, zE, nx, 0, 0, 0, 0, 0⟩
def T0 : Tbl := ⟨fun _ => zR 0, 0, fun _ => 0, fun _ => 0, 0, 0, 1, 8⟩
def nT (n : Nat) : Tbl := { T0 with rows := fun j => if j < n then zR ((j : Int) + 1) else zR 0 }
theorem nT_succ (n : Nat) : updR (nT n) n { (nT n).rows n with next := (n : Int) + 1 } = nT (n + 1) := by
  unfold nT updR
  simp only [Tbl.mk.injEq, and_true, true_and]
  funext j
  by_cases e : j = n
  · subst e
    have h1 : ¬ j < j := by omega
    have h2 : j < j + 1 := by omega
    simp [h1, h2, zR]
  · rw [if_neg e]
    by_cases e2 : j < n
    · rw [if_pos e2, if_pos (by omega)]
    · rw [if_neg e2, if_neg (by omega)]
def T1 : Tbl := { T0 with rows := fun j => if j = 5 then zR (-1) else if j < 6 then zR ((j : Int) + 1) else zR 0 }
def bT (n : Nat) : Tbl := { T1 with bkt := fun j => if j < n then -1 else 0 }
def pT (n : Nat) : Tbl := { T1 with bkt := fun j => if j < 4 then -1 else 0, port := fun j => if j < n then -1 else 0 }
theorem updN_lt (n : Nat) : updN (fun j => if j < n then (-1 : Int) else 0) n (-1) = fun j => if j < n + 1 then -1 else 0 := by
  funext j
  unfold updN
  by_cases e : j = n
  · subst e
    rw [if_pos rfl, if_pos (by omega)]
  · rw [if_neg e]
    show (if j < n then (-1 : Int) else 0) = _
    by_cases e2 : j < n
    · rw [if_pos e2, if_pos (by omega)]
    · rw [if_neg e2, if_neg (by omega)]
def S0 : SkS := ⟨[], 1, 8, 0⟩
theorem S0_ok : SkOk S0 :=
  ⟨List.Pairwise.nil, ⟨fun a ha => (by cases ha), List.Pairwise.nil, fun a ha => (by cases ha), fun a ha => (by cases ha), fun a ha => (by cases ha), fun a ha => (by cases ha), fun a ha => (by cases ha), by decide, fun l hl => by simp [S0], fun a ha => (by cases ha), fun a ha => (by cases ha)⟩, by decide, by decide⟩
theorem pT_used (j : Nat) : ((pT 8).rows j).used = false := by
  show (if j = 5 then zR (-1) else if j < 6 then zR ((j : Int) + 1) else zR 0).used = false
  split
  · rfl
  · split <;> rfl
theorem pT_rel : Rel (pT 8) S0 [0, 1, 2, 3, 4, 5] (fun _ => []) (fun _ => false) := by
  have no : ∀ {j : Nat} {P : Prop}, ((pT 8).rows j).used = true → P := fun {j P} h => by rw [pT_used] at h; cases h
  refine ⟨?_, ⟨?_, by decide, fun i => ?_, fun b hb => ?_, fun b hb => List.nodup_nil, fun b hb i => ⟨fun h => (by cases h), fun h => no h.2.1⟩, rfl, fun p h1 h2 => .inl ⟨?_, fun i hi hu => no hu⟩, rfl, fun s hs => ⟨fun h => (by cases h), fun ⟨i, hi, hu, _⟩ => no hu⟩⟩, fun i hi hu => no hu, rfl, rfl, rfl⟩
  · have : Lr (pT 8) = [] := by
      rw [List.eq_nil_iff_forall_not_mem]
      intro e he
      obtain ⟨i, hi, hu, _⟩ := mem_Lr.1 he
      exact no hu
    rw [this]
    exact List.Perm.refl _
  · exact ⟨rfl, rfl, rfl, rfl, rfl, rfl, rfl⟩
  · constructor
    · intro h
      exact ⟨by simp at h; omega, pT_used i⟩
    · rintro ⟨h, _⟩
      have : i = 0 ∨ i = 1 ∨ i = 2 ∨ i = 3 ∨ i = 4 ∨ i = 5 := by omega
      rcases this with rfl | rfl | rfl | rfl | rfl | rfl <;> simp
  · show (if b < 4 then (-1 : Int) else 0) = -1
    rw [if_pos hb]
  · show (if p < 8 then (-1 : Int) else 0) = -1
    rw [if_pos h2]
theorem realNew_ok {w : World} {R : Option Addr → World → Prop} (hR : ∀ r w', w.heap.size ≤ r → r < w'.heap.size → RAt w' r S0 → Ext [] w w' → R (some ⟨r, 0, none⟩) w') : sock_New.Call w R := by
  apply sock_New.sound
  unfold sock_New.B0
  refine New.mk fun r w1 e1 s1 o1 he1 => ?_
  have h1 : TAt w1 r (nT 0) := by
    unfold TAt
    exact o1
  unfold sock_New.L1
  refine ⟨fun m t i w' => ∃ n : Nat, n ≤ 6 ∧ m = 6 - n ∧ r = t ∧ i = (n : Int) ∧ TAt w' r (nT n) ∧ Ext [r] w1 w', _, ⟨0, by omega, rfl, rfl, rfl, h1, Ext.refl _ _⟩, ?_⟩
  rintro m t i w' ⟨n, hn, rfl, rfl, rfl, h', he'⟩
  unfold sock_New.L1b
  refine Bm.ite (fun hlt => ⟨⟨by omega, by omega⟩, ?_⟩) fun hge => ⟨⟨by omega, by omega⟩, ?_⟩
  · rw [w64 (by omega) (by omega)]
    refine h'.stNext (i := n) (by omega) fun w2 hs2 h2 he2 => ⟨6 - (n + 1), by omega, n + 1, by omega, rfl, rfl, by omega, ?_, he'.trans he2⟩
    rw [← nT_succ]
    exact h2
  · have e6 : n = 6 := by omega
    subst e6
    refine h'.stR (i := 5) (j := 9) (zR (-1)) (by omega) (by simp) rfl rfl (fun k hk => by
      match k, hk with
      | 0, _ | 1, _ | 2, _ | 3, _ | 4, _ | 5, _ | 6, _ | 7, _ | 8, _ | 9, _ | 10, _ | 11, _ | 12, _ | 13, _ | 14, _ => rfl) fun w2 hs2 h2 he2 => ?_
    have e2 : updR (nT 6) 5 (zR (-1)) = bT 0 := by
      unfold nT updR bT T1
      simp only [Tbl.mk.injEq, and_true, true_and]
      funext j
      simp
      rfl
    rw [e2] at h2
    unfold sock_New.L2
    refine ⟨fun m t i w' => ∃ n : Nat, n ≤ 4 ∧ m = 4 - n ∧ r = t ∧ i = (n : Int) ∧ TAt w' r (bT n) ∧ Ext [r] w1 w', _, ⟨0, by omega, rfl, rfl, rfl, h2, he'.trans he2⟩, ?_⟩
    rintro m t i w3 ⟨n, hn3, rfl, rfl, rfl, h3, he3⟩
    unfold sock_New.L2b
    refine Bm.ite (fun hlt => ⟨⟨by omega, by omega⟩, ?_⟩) fun hge => ?_
    · have e91 : (⟨r, 91, none⟩ : Addr) = Addr.add ⟨r, 0, none⟩ 91 := by rw [add_mk]
      rw [e91]
      refine h3.stBkt (i := n) (by omega) fun w4 hs4 h4 he4 => ⟨4 - (n + 1), by omega, n + 1, by omega, rfl, rfl, by rw [w64 (by omega) (by omega)]; omega, ?_, he3.trans he4⟩
      have : ({ bT n with bkt := updN (bT n).bkt n (-1) } : Tbl) = bT (n + 1) := by
        unfold bT
        rw [updN_lt]
      rw [← this]
      exact h4
    · have e4 : n = 4 := by omega
      subst e4
      have h3' : TAt w3 r (pT 0) := by
        have : bT 4 = pT 0 := by
          unfold bT pT
          simp only [Tbl.mk.injEq, and_true, true_and]
          funext j
          simp
          rfl
        rw [← this]
        exact h3
      unfold sock_New.L3
      refine ⟨fun m t i w' => ∃ n : Nat, n ≤ 8 ∧ m = 8 - n ∧ r = t ∧ i = (n : Int) ∧ TAt w' r (pT n) ∧ Ext [r] w1 w', _, ⟨0, by omega, rfl, rfl, rfl, h3', he3⟩, ?_⟩
      rintro m t i w5 ⟨n, hn5, rfl, rfl, rfl, h5, he5⟩
      unfold sock_New.L3b
      refine Bm.ite (fun hlt => ⟨⟨by omega, by omega⟩, ?_⟩) fun hge => ?_
      · have e95 : (⟨r, 95, none⟩ : Addr) = Addr.add ⟨r, 0, none⟩ 95 := by rw [add_mk]
        rw [e95]
        refine h5.stPort (i := n) (by omega) fun w6 hs6 h6 he6 => ⟨8 - (n + 1), by omega, n + 1, by omega, rfl, rfl, by rw [w64 (by omega) (by omega)]; omega, ?_, he5.trans he6⟩
        have : ({ pT n with port := updN (pT n).port n (-1) } : Tbl) = pT (n + 1) := by
          unfold pT
          rw [updN_lt]
        rw [← this]
        exact h6
      · have e8 : n = 8 := by omega
        subst e8
        refine hR r w5 (by omega) h5.lt ⟨_, _, _, _, h5, pT_rel⟩ ?_
        exact he1.trans' he5 (fun x hx hlt => by simp at hx; omega)
/-! ### the plain observers -/
section
variable {w : World} {b : Nat} {S : SkS}
def getV (E : List AE) (sd : Int) : Ent × Int := match getE E sd with
  | none => (zE, 21)
  | some a => (a.1, 0)
theorem ldEntB {a : Nat} {e : Ent} {t : TypeId} {K : Int → Int → Int → Int → Int → Int → Int → Bool → Prop} (h : Own w a (entVs e).toArray t) (hk : K e.sd e.kind e.lp e.rh e.rp e.slot e.par e.rdy) :
    LdI .i64 ⟨a, 0, none⟩ w fun x0 => LdI .i64 ⟨a, 1, none⟩ w fun x1 => LdI .i64 ⟨a, 2, none⟩ w fun x2 => LdI .i64 ⟨a, 3, none⟩ w fun x3 => LdI .i64 ⟨a, 4, none⟩ w fun x4 => LdI .i64 ⟨a, 5, none⟩ w fun x5 => LdI .i64 ⟨a, 6, none⟩ w fun x6 => LdB ⟨a, 7, none⟩ w fun x7 => K x0 x1 x2 x3 x4 x5 x6 x7 :=
  LdI.mk h rfl (LdI.mk h rfl (LdI.mk h rfl (LdI.mk h rfl (LdI.mk h rfl (LdI.mk h rfl (LdI.mk h rfl (LdB.mk h rfl hk)))))))
theorem realGet_ok {sd : Int} {R : Int → Int → Int → Int → Int → Int → Int → Bool → Int → World → Prop} (h : RAt w b S) (hS : SkOk S)
    (hR : ∀ w', Ext [] w w' → R (getV S.E sd).1.sd (getV S.E sd).1.kind (getV S.E sd).1.lp (getV S.E sd).1.rh (getV S.E sd).1.rp (getV S.E sd).1.slot (getV S.E sd).1.par (getV S.E sd).1.rdy (getV S.E sd).2 w') : sock_Table_Get.Call (some ⟨b, 0, none⟩) sd w R := by
  apply sock_Table_Get.sound
  unfold sock_Table_Get.B0
  obtain ⟨T, F, C, occ, ht, hr⟩ := h
  refine New.mk fun r w1 e1 s1 o1 he1 => ?_
  have fin : ∀ w2, Ext [r] w1 w2 → Ext [] w w2 := fun w2 h2 => he1.trans' h2 (fun x hx hlt => by simp at hx; omega)
  refine hr.find hS (ht.ext0 he1) ⟨fun i a hi hu ha ea esd => ?_, fun hn => ?_⟩
  · have eg : getV S.E sd = (a.1, 0) := by unfold getV; rw [← esd, getE_some hS.ei ha]
    refine Bm.neg (by simp) (Pn.mk ⟨⟨by omega, by omega⟩, (ht.ext0 he1).ldEnt hi ?_⟩)
    refine Sts.full (vs := entVs (T.rows i).e) o1 rfl rfl fun w2 hs2 o2 he2 => ldEntB o2 ?_
    have := hR w2 (fin w2 he2)
    rw [eg, ea] at this
    exact this
  · have eg : getV S.E sd = (zE, 21) := by unfold getV; rw [getE_none hn]
    refine Bm.pos rfl (Sts.full (vs := entVs zE) o1 rfl rfl fun w2 hs2 o2 he2 => ldEntB o2 ?_)
    have := hR w2 (fin w2 he2)
    rw [eg] at this
    exact this
end
end Go.Proofs.Qxb6500424aGreat.Sk
