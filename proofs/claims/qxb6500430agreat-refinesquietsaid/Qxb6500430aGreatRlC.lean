/-
  rlog: the real layer on the heap: its mirror, its observers, SetTerm and Append.
-/
import Derived.Test.Qxb6500430aGreatRlB
set_option linter.unusedVariables false
set_option linter.unusedSimpArgs false
open Go.Vc
namespace Go.Proofs.Qxb6500430aGreat

structure RlR where
  t : Nat
  term : Int
  vote : Int
  base : Int
  bterm : Int
  snap : ByteArray
  last : Int
  tf : Nat → Int
  df : Nat → ByteArray
def rlF (X : RlR) (o : Nat) : Value := if o = 0 then .pointer (some ⟨X.t, 0, none⟩) else if o = 1 then .int .i64 X.term else if o = 2 then .int .i64 X.vote else if o = 3 then .int .i64 X.base else if o = 4 then .int .i64 X.bterm else if o = 5 then .string X.snap else if o = 6 then .int .i64 X.last else if o < 13 then .int .i64 (X.tf (o - 7)) else .string (X.df (o - 13))
def RlAt (w : World) (l : Nat) (X : RlR) : Prop := Own w l (fnArr 19 (rlF X)) T_rlog_Log
section
variable {w w' : World} {l : Nat} {X : RlR}
theorem RlAt.ldT {K : Option Addr → Prop} (h : RlAt w l X) (hk : K (some ⟨X.t, 0, none⟩)) : LdP ⟨l, 0, none⟩ w K := LdP.fn (o := 0) h (by omega) rfl hk
theorem RlAt.ldI {o : Nat} {v : Int} {K : Int → Prop} (h : RlAt w l X) (ho : o < 19) (hv : rlF X o = .int .i64 v) (hk : K v) : LdI .i64 (Addr.add ⟨l, 0, none⟩ o) w K := by
  rw [add_mk, Nat.zero_add]
  exact LdI.fn h ho hv hk
theorem RlAt.ldSn {K : ByteArray → Prop} (h : RlAt w l X) (hk : K X.snap) : LdS (Addr.add ⟨l, 0, none⟩ 5) w K := by
  rw [add_mk]
  exact LdS.fn (o := 5) h (by omega) rfl hk
theorem rlF_t {s : Nat} (hs : s < 6) : rlF X (7 + s) = .int .i64 (X.tf s) := by
  unfold rlF
  rw [if_neg (by omega), if_neg (by omega), if_neg (by omega), if_neg (by omega), if_neg (by omega), if_neg (by omega), if_neg (by omega), if_pos (by omega), show 7 + s - 7 = s by omega]
theorem rlF_d {s : Nat} (hs : s < 6) : rlF X (13 + s) = .string (X.df s) := by
  unfold rlF
  rw [if_neg (by omega), if_neg (by omega), if_neg (by omega), if_neg (by omega), if_neg (by omega), if_neg (by omega), if_neg (by omega), if_neg (by omega), show 13 + s - 13 = s by omega]
theorem adk (r o k : Nat) : Addr.add (Addr.add ⟨r, 0, none⟩ o) ((k : Int).toNat * 1) = ⟨r, o + k, none⟩ := by rw [add_mk, add_mk, Int.toNat_natCast]; simp
theorem RlAt.ldTf {s : Nat} {K : Int → Prop} (h : RlAt w l X) (hs : s < 6) (hk : K (X.tf s)) : LdI .i64 (Addr.add (Addr.add ⟨l, 0, none⟩ 7) ((s : Int).toNat * 1)) w K := by
  rw [adk]
  exact LdI.fn h (by omega) (rlF_t hs) hk
theorem RlAt.ldDf {s : Nat} {K : ByteArray → Prop} (h : RlAt w l X) (hs : s < 6) (hk : K (X.df s)) : LdS (Addr.add (Addr.add ⟨l, 0, none⟩ 13) ((s : Int).toNat * 1)) w K := by
  rw [adk]
  exact LdS.fn h (by omega) (rlF_d hs) hk
theorem RlAt.st {K : World → Prop} {o : Nat} {v : Value} (X' : RlR) (h : RlAt w l X) (ho : o < 19) (h1 : [v].all Value.oneCell' = true) (hg : ∀ j, j < 19 → (if j = o then v else rlF X j) = rlF X' j) (hk : ∀ w', w'.heap.size = w.heap.size → RlAt w' l X' → Ext [l] w w' → K w') : Sts [v] ⟨l, o, none⟩ 0 w K := by
  refine Sts.fn (g := rlF X') h (by simp; omega) h1 (fun j hj => ?_) hk
  rw [← hg j hj]
  unfold fnPut
  by_cases e : j = o
  · subst e
    rw [if_pos (by simp), if_pos rfl]
    simp
  · rw [if_neg (by simp; omega), if_neg e]
theorem RlAt.stTerm {K : World → Prop} {v : Int} (h : RlAt w l X) (hk : ∀ w', w'.heap.size = w.heap.size → RlAt w' l { X with term := v } → Ext [l] w w' → K w') : Sts [.int .i64 v] (Addr.add ⟨l, 0, none⟩ 1) 0 w K := by
  rw [add_mk, Nat.zero_add]
  exact h.st _ (by omega) rfl (fun j hj => by
    by_cases e : j = 1
    · subst e; rfl
    · rw [if_neg e]; unfold rlF; simp only [if_neg e]) hk
theorem RlAt.stVote {K : World → Prop} {v : Int} (h : RlAt w l X) (hk : ∀ w', w'.heap.size = w.heap.size → RlAt w' l { X with vote := v } → Ext [l] w w' → K w') : Sts [.int .i64 v] (Addr.add ⟨l, 0, none⟩ 2) 0 w K := by
  rw [add_mk, Nat.zero_add]
  exact h.st _ (by omega) rfl (fun j hj => by
    by_cases e : j = 2
    · subst e; rfl
    · rw [if_neg e]; unfold rlF; simp only [if_neg e]) hk
theorem RlAt.stBase {K : World → Prop} {v : Int} (h : RlAt w l X) (hk : ∀ w', w'.heap.size = w.heap.size → RlAt w' l { X with base := v } → Ext [l] w w' → K w') : Sts [.int .i64 v] (Addr.add ⟨l, 0, none⟩ 3) 0 w K := by
  rw [add_mk, Nat.zero_add]
  exact h.st _ (by omega) rfl (fun j hj => by
    by_cases e : j = 3
    · subst e; rfl
    · rw [if_neg e]; unfold rlF; simp only [if_neg e]) hk
theorem RlAt.stBterm {K : World → Prop} {v : Int} (h : RlAt w l X) (hk : ∀ w', w'.heap.size = w.heap.size → RlAt w' l { X with bterm := v } → Ext [l] w w' → K w') : Sts [.int .i64 v] (Addr.add ⟨l, 0, none⟩ 4) 0 w K := by
  rw [add_mk, Nat.zero_add]
  exact h.st _ (by omega) rfl (fun j hj => by
    by_cases e : j = 4
    · subst e; rfl
    · rw [if_neg e]; unfold rlF; simp only [if_neg e]) hk
theorem RlAt.stSnap {K : World → Prop} {v : ByteArray} (h : RlAt w l X) (hk : ∀ w', w'.heap.size = w.heap.size → RlAt w' l { X with snap := v } → Ext [l] w w' → K w') : Sts [.string v] (Addr.add ⟨l, 0, none⟩ 5) 0 w K := by
  rw [add_mk, Nat.zero_add]
  exact h.st _ (by omega) rfl (fun j hj => by
    by_cases e : j = 5
    · subst e; rfl
    · rw [if_neg e]; unfold rlF; simp only [if_neg e]) hk
theorem RlAt.stLast {K : World → Prop} {v : Int} (h : RlAt w l X) (hk : ∀ w', w'.heap.size = w.heap.size → RlAt w' l { X with last := v } → Ext [l] w w' → K w') : Sts [.int .i64 v] (Addr.add ⟨l, 0, none⟩ 6) 0 w K := by
  rw [add_mk, Nat.zero_add]
  exact h.st _ (by omega) rfl (fun j hj => by
    by_cases e : j = 6
    · subst e; rfl
    · rw [if_neg e]; unfold rlF; simp only [if_neg e]) hk
theorem RlAt.stTf {K : World → Prop} {s : Nat} {v : Int} (h : RlAt w l X) (hs : s < 6) (hk : ∀ w', w'.heap.size = w.heap.size → RlAt w' l { X with tf := upd X.tf s v } → Ext [l] w w' → K w') : Sts [.int .i64 v] (Addr.add (Addr.add ⟨l, 0, none⟩ 7) ((s : Int).toNat * 1)) 0 w K := by
  rw [adk]
  refine h.st _ (by omega) rfl (fun j hj => ?_) hk
  by_cases e : j = 7 + s
  · subst e
    rw [if_pos rfl, rlF_t hs]
    show _ = Value.int .i64 (upd X.tf s v s)
    rw [upd_eq]
  · rw [if_neg e]
    by_cases h7 : 7 ≤ j ∧ j < 13
    · obtain ⟨q, rfl⟩ : ∃ q, j = 7 + q := ⟨j - 7, by omega⟩
      rw [rlF_t (by omega), rlF_t (by omega)]
      show _ = Value.int .i64 (upd X.tf s v q)
      rw [upd_ne _ _ (by omega)]
    · by_cases h13 : 13 ≤ j
      · obtain ⟨q, rfl⟩ : ∃ q, j = 13 + q := ⟨j - 13, by omega⟩
        rw [rlF_d (by omega), rlF_d (by omega)]
      · have : j = 0 ∨ j = 1 ∨ j = 2 ∨ j = 3 ∨ j = 4 ∨ j = 5 ∨ j = 6 := by omega
        rcases this with rfl | rfl | rfl | rfl | rfl | rfl | rfl <;> rfl
theorem RlAt.stDf {K : World → Prop} {s : Nat} {v : ByteArray} (h : RlAt w l X) (hs : s < 6) (hk : ∀ w', w'.heap.size = w.heap.size → RlAt w' l { X with df := upd X.df s v } → Ext [l] w w' → K w') : Sts [.string v] (Addr.add (Addr.add ⟨l, 0, none⟩ 13) ((s : Int).toNat * 1)) 0 w K := by
  rw [adk]
  refine h.st _ (by omega) rfl (fun j hj => ?_) hk
  by_cases e : j = 13 + s
  · subst e
    rw [if_pos rfl, rlF_d hs]
    show _ = Value.string (upd X.df s v s)
    rw [upd_eq]
  · rw [if_neg e]
    by_cases h7 : 7 ≤ j ∧ j < 13
    · obtain ⟨q, rfl⟩ : ∃ q, j = 7 + q := ⟨j - 7, by omega⟩
      rw [rlF_t (by omega), rlF_t (by omega)]
    · by_cases h13 : 13 ≤ j
      · obtain ⟨q, rfl⟩ : ∃ q, j = 13 + q := ⟨j - 13, by omega⟩
        rw [rlF_d (by omega), rlF_d (by omega)]
        show _ = Value.string (upd X.df s v q)
        rw [upd_ne _ _ (by omega)]
      · have : j = 0 ∨ j = 1 ∨ j = 2 ∨ j = 3 ∨ j = 4 ∨ j = 5 ∨ j = 6 := by omega
        rcases this with rfl | rfl | rfl | rfl | rfl | rfl | rfl <;> rfl
end
/-- The mirror shows the log L. -/
structure Mir (X : RlR) (t : Nat) (L : LogS) : Prop where
  t : X.t = t
  term : X.term = L.term
  vote : X.vote = L.vote
  base : X.base = L.base
  bterm : X.bterm = L.bterm
  snap : X.snap = L.snap
  last : X.last = L.last
  ring : ∀ (i : Nat) e, L.ents[i]? = some e → X.tf (sl (L.base + 1 + (i : Int))) = e.1 ∧ X.df (sl (L.base + 1 + (i : Int))) = e.2
structure Real (w : World) (l t d : Nat) (D : DiskS) (F : List Nat) (A : AbsS) (L : LogS) : Prop where
  st : St w t d D F A
  rl : ∃ X, RlAt w l X ∧ Mir X t L
  ok : LogOk L
  holds : Holds A L
  clean : Clean A L
theorem tmod6 {i : Int} (h : 0 ≤ i) : i.tmod 6 = (sl i : Int) := by
  rw [Int.tmod_eq_emod_of_nonneg h]
  unfold sl
  omega
theorem slotOf_ok {w : World} {i : Int} {R : Int → World → Prop} (h : 0 ≤ i) (hR : R (sl i : Int) w) : rlog_slotOf.Call i w R := by
  apply rlog_slotOf.sound
  unfold rlog_slotOf.B0
  refine ⟨by decide, ?_⟩
  rw [tmod6 h]
  exact hR
def atL (L : LogS) (i : Int) : (Int × ByteArray) × Int := if i ≤ L.base then ((0, estr), 7) else if L.last < i then ((0, estr), 2) else ((L.ents.getD (i - L.base - 1).toNat (0, estr)), 0)
def termL (L : LogS) (i : Int) : Int × Int := if i = L.base then (L.bterm, 0) else ((atL L i).1.1, (atL L i).2)
section
variable {w w' : World} {l t d : Nat} {D : DiskS} {F : List Nat} {A : AbsS} {L : LogS} {S : List LogS} {N : Int} {X : RlR}
theorem Real.ext0 (h : Real w l t d D F A L) (he : Ext [] w w') : Real w' l t d D F A L := by
  obtain ⟨X, h1, h2⟩ := h.rl
  exact ⟨h.st.ext0 he, ⟨X, he.own h1 (by simp), h2⟩, h.ok, h.holds, h.clean⟩
theorem Real.lt (h : Real w l t d D F A L) : l < w.heap.size := by
  obtain ⟨X, h1, h2⟩ := h.rl
  exact Own.lt h1
theorem rTerm_ok {R : Int → World → Prop} (h : Real w l t d D F A L) (hR : R L.term w) : rlog_Log_Term.Call (some ⟨l, 0, none⟩) w R := by
  apply rlog_Log_Term.sound
  unfold rlog_Log_Term.B0
  obtain ⟨X, h1, h2⟩ := h.rl
  rw [← h2.term] at hR
  exact Pn.mk (h1.ldI (o := 1) (by omega) rfl hR)
theorem rVote_ok {R : Int → World → Prop} (h : Real w l t d D F A L) (hR : R L.vote w) : rlog_Log_Vote.Call (some ⟨l, 0, none⟩) w R := by
  apply rlog_Log_Vote.sound
  unfold rlog_Log_Vote.B0
  obtain ⟨X, h1, h2⟩ := h.rl
  rw [← h2.vote] at hR
  exact Pn.mk (h1.ldI (o := 2) (by omega) rfl hR)
theorem rBase_ok {R : Int → World → Prop} (h : Real w l t d D F A L) (hR : R L.base w) : rlog_Log_Base.Call (some ⟨l, 0, none⟩) w R := by
  apply rlog_Log_Base.sound
  unfold rlog_Log_Base.B0
  obtain ⟨X, h1, h2⟩ := h.rl
  rw [← h2.base] at hR
  exact Pn.mk (h1.ldI (o := 3) (by omega) rfl hR)
theorem rBaseTerm_ok {R : Int → World → Prop} (h : Real w l t d D F A L) (hR : R L.bterm w) : rlog_Log_BaseTerm.Call (some ⟨l, 0, none⟩) w R := by
  apply rlog_Log_BaseTerm.sound
  unfold rlog_Log_BaseTerm.B0
  obtain ⟨X, h1, h2⟩ := h.rl
  rw [← h2.bterm] at hR
  exact Pn.mk (h1.ldI (o := 4) (by omega) rfl hR)
theorem rSnap_ok {R : ByteArray → World → Prop} (h : Real w l t d D F A L) (hR : R L.snap w) : rlog_Log_Snap.Call (some ⟨l, 0, none⟩) w R := by
  apply rlog_Log_Snap.sound
  unfold rlog_Log_Snap.B0
  obtain ⟨X, h1, h2⟩ := h.rl
  rw [← h2.snap] at hR
  exact Pn.mk (h1.ldSn hR)
theorem rLast_ok {R : Int → World → Prop} (h : Real w l t d D F A L) (hR : R L.last w) : rlog_Log_Last.Call (some ⟨l, 0, none⟩) w R := by
  apply rlog_Log_Last.sound
  unfold rlog_Log_Last.B0
  obtain ⟨X, h1, h2⟩ := h.rl
  rw [← h2.last] at hR
  exact Pn.mk (h1.ldI (o := 6) (by omega) rfl hR)
theorem getD_some' {L : List (Int × ByteArray)} {i : Nat} (h : i < L.length) : L[i]? = some (L.getD i (0, estr)) := by
  rw [List.getElem?_eq_getElem h]
  simp [List.getD, h]
theorem rAt_ok {i : Int} {R : Int → ByteArray → Int → World → Prop} (hi : -9223372036854775808 ≤ i ∧ i ≤ 9223372036854775807) (h1 : RlAt w l X) (h2 : Mir X t L) (hk : LogOk L) (hR : ∀ w', Ext [] w w' → R (atL L i).1.1 (atL L i).1.2 (atL L i).2 w') : rlog_Log_At.Call (some ⟨l, 0, none⟩) i w R := by
  apply rlog_Log_At.sound
  unfold rlog_Log_At.B0
  have hb := hk.base
  have hl := hk.last
  have hn := hk.len
  refine New.mk fun r w1 e1 s1 o1 he1 => ?_
  have g1 : RlAt w1 l X := he1.own h1 (by simp)
  have fin : ∀ w2, Ext [r] w1 w2 → Ext [] w w2 := fun w2 h => he1.trans' h (fun x hx hlt => by simp at hx; omega)
  unfold atL at hR
  refine Pn.mk (g1.ldI (o := 3) (by omega) rfl ?_)
  rw [h2.base]
  refine Bm.ite (fun hc => ?_) fun hc => Pn.mk (g1.ldI (o := 6) (by omega) rfl ?_)
  · rw [if_pos hc] at hR
    exact Sts.full (vs := [.int .i64 0, .string estr]) o1 rfl rfl fun w2 hs2 o2 he2 => LdI.mk o2 rfl (LdS.mk o2 rfl (hR w2 (fin w2 he2)))
  · rw [if_neg hc] at hR
    rw [h2.last]
    refine Bm.ite (fun hc2 => ?_) fun hc2 => ?_
    · rw [if_pos hc2] at hR
      exact Sts.full (vs := [.int .i64 0, .string estr]) o1 rfl rfl fun w2 hs2 o2 he2 => LdI.mk o2 rfl (LdS.mk o2 rfl (hR w2 (fin w2 he2)))
    · rw [if_neg hc2] at hR
      unfold LogS.last at hc2
      have hs := sl_lt i
      refine slotOf_ok (by omega) (Pn.mk ⟨⟨by omega, by omega⟩, RlAt.ldTf (w := w1.drew) g1 hs (Pn.mk ⟨⟨by omega, by omega⟩, RlAt.ldDf (w := w1.drew) g1 hs ?_⟩)⟩)
      have hq : (i - L.base - 1).toNat < L.ents.length := by omega
      have hg := h2.ring _ _ (getD_some' hq)
      rw [show L.base + 1 + (((i - L.base - 1).toNat : Nat) : Int) = i by omega] at hg
      rw [hg.1, hg.2]
      exact Sts.full (w := w1.drew) (vs := [.int .i64 (L.ents.getD (i - L.base - 1).toNat (0, estr)).1, .string (L.ents.getD (i - L.base - 1).toNat (0, estr)).2]) o1 rfl rfl fun w2 hs2 o2 he2 => LdI.mk o2 rfl (LdS.mk o2 rfl (hR w2 (fin w2 ((Ext.drew _ _).trans he2))))
theorem rTermAt_ok {i : Int} {R : Int → Int → World → Prop} (hi : -9223372036854775808 ≤ i ∧ i ≤ 9223372036854775807) (h1 : RlAt w l X) (h2 : Mir X t L) (hk : LogOk L) (hR : ∀ w', Ext [] w w' → R (termL L i).1 (termL L i).2 w') : rlog_Log_TermAt.Call (some ⟨l, 0, none⟩) i w R := by
  apply rlog_Log_TermAt.sound
  unfold rlog_Log_TermAt.B0
  unfold termL at hR
  refine Pn.mk (h1.ldI (o := 3) (by omega) rfl ?_)
  rw [h2.base]
  by_cases e : i = L.base
  · rw [if_pos e] at hR
    have := hR w (Ext.refl _ _)
    rw [← h2.bterm] at this
    exact Bm.pos (by simpa using e) (Pn.mk (h1.ldI (o := 4) (by omega) rfl this))
  · rw [if_neg e] at hR
    refine Bm.neg (by simpa using e) (rAt_ok hi h1 h2 hk fun w1 he1 => New.mk fun r w2 e2 s2 o2 he2 => Sts.full (vs := [.int .i64 (atL L i).1.1, .string (atL L i).1.2]) o2 rfl rfl fun w3 hs3 o3 he3 => LdI.mk o3 rfl (hR w3 ((he1.trans he2).trans' he3 (fun x hx hlt => by simp at hx; have := he1.size; omega))))
theorem indexIn_ok {s : Nat} {R : Int → World → Prop} (h1 : RlAt w l X) (h2 : Mir X t L) (hk : LogOk L) (hR : (∀ i : Nat, i < L.ents.length → s = sl (L.base + 1 + (i : Int)) → R (L.base + 1 + (i : Int)) w) ∧ ((∀ i : Nat, i < L.ents.length → s ≠ sl (L.base + 1 + (i : Int))) → R 0 w)) : rlog_Log_indexIn.Call (some ⟨l, 0, none⟩) (s : Int) w R := by
  apply rlog_Log_indexIn.sound
  unfold rlog_Log_indexIn.B0
  have hb := hk.base
  have hl := hk.last
  refine Pn.mk (h1.ldI (o := 3) (by omega) rfl ?_)
  rw [h2.base, w64 (by omega) (by omega)]
  unfold rlog_Log_indexIn.L1
  refine ⟨fun mm l' s' i w' => ∃ n : Nat, n ≤ L.ents.length ∧ mm = L.ents.length - n ∧ some ⟨l, 0, none⟩ = l' ∧ (s : Int) = s' ∧ i = L.base + 1 + (n : Int) ∧ w = w' ∧ ∀ j : Nat, j < n → s ≠ sl (L.base + 1 + (j : Int)), _, ⟨0, by omega, rfl, rfl, rfl, by omega, rfl, fun j hj => by omega⟩, ?_⟩
  rintro mm l' s' i w' ⟨n, hn, rfl, rfl, rfl, rfl, rfl, hno⟩
  unfold rlog_Log_indexIn.L1b
  refine Pn.mk (h1.ldI (o := 6) (by omega) rfl ?_)
  rw [h2.last]
  unfold LogS.last
  refine Bm.ite (fun hc => slotOf_ok (by omega) ?_) fun hc => hR.2 fun i hi => hno i (by omega)
  by_cases e : s = sl (L.base + 1 + (n : Int))
  · exact Bm.pos (by simp [e]) (hR.1 n (by omega) e)
  · refine Bm.neg (by simp; omega) ⟨L.ents.length - (n + 1), by omega, n + 1, by omega, rfl, rfl, rfl, by rw [w64 (by omega) (by omega)]; omega, rfl, fun j hj => ?_⟩
    by_cases ej : j = n
    · subst ej; exact e
    · exact hno j (by omega)
/-! ### what an op does -/
structure Did (w : World) (l t d : Nat) (D : DiskS) (F : List Nat) (N : Int) (P S : List LogS) (L' : LogS) (w' : World) : Prop where
  real : ∃ D' F' A', Real w' l t d D' F' A' L' ∧ Path D' (P ++ S) (N + 1) ∧ D'.log.length ≤ D.log.length + 20 ∧ Grew w F F' ∧ (S = [] → D' = D)
  ext : Ext (l :: t :: F) w w'
def setTermS (tm vt : Int) (L : LogS) : Int × List LogS := if tm < 0 ∨ 72057594037927936 < tm ∨ vt < -1 ∨ 3 ≤ vt then (1, []) else (0, [{ L with term := tm, vote := vt }])
def appendS (tm : Int) (dd : ByteArray) (L : LogS) : Int × List LogS := if tm < 0 ∨ 72057594037927936 < tm ∨ 24 < dd.size then (4, []) else if 6 ≤ L.ents.length ∨ 72057594037927936 ≤ L.last then (6, []) else (0, [{ L with ents := L.ents ++ [(tm, dd)] }])
def finL (L : LogS) (S : List LogS) : LogS := S.getLastD L
theorem head_app {L : LogS} {P S : List LogS} (h : L ∈ P) : (P ++ S).head? = P.head? := by
  cases P with
  | nil => cases h
  | cons a P => rfl
theorem Path.app {P : List LogS} (h : Path D P N) (hL : L ∈ P) (S : List LogS) : Path D (P ++ S) N := h.mono (fun x hx => List.mem_append.2 (.inl hx)) (Int.le_refl _) (head_app hL)
theorem Real.did0 {P : List LogS} (h : Real w l t d D F A L) (hp : Path D P N) (he : Ext [] w w') : Did w l t d D F N P [] L w' :=
  ⟨⟨D, F, A, h.ext0 he, hp.mono (T := P ++ []) (fun x hx => by simpa using hx) (by omega) (by simp), by omega, Grew.refl _ _, fun _ => rfl⟩, he.nil⟩
theorem realSetTerm_ok {P : List LogS} {tm vt : Int} {R : Int → World → Prop} (h : Real w l t d D F A L) (hp : Path D P N) (hLP : L ∈ P) (hN : N ≤ 4611686018427387904) (hl : D.log.length ≤ 1000)
    (hR : ∀ w', Did w l t d D F N P (setTermS tm vt L).2 (finL L (setTermS tm vt L).2) w' → R (setTermS tm vt L).1 w') : rlog_Log_SetTerm.Call (some ⟨l, 0, none⟩) tm vt w R := by
  apply rlog_Log_SetTerm.sound
  unfold rlog_Log_SetTerm.B0
  unfold setTermS at hR
  have bad : (tm < 0 ∨ 72057594037927936 < tm ∨ vt < -1 ∨ 3 ≤ vt) → rlog_Log_SetTerm.B1 (some ⟨l, 0, none⟩) tm vt true w R := fun hc => by
    unfold rlog_Log_SetTerm.B1
    rw [if_pos hc] at hR
    exact Bm.pos rfl (hR w (h.did0 hp (Ext.refl _ _)))
  refine Bm.ite (fun q => bad (.inl q)) fun a1 => Bm.ite (fun q => bad (.inr (.inl q))) fun a2 => Bm.ite (fun q => bad (.inr (.inr (.inl q)))) fun a3 => ?_
  by_cases a4 : vt ≥ 3
  · rw [decide_eq_true a4]; exact bad (.inr (.inr (.inr a4)))
  rw [decide_eq_false a4]
  have hno : ¬ (tm < 0 ∨ 72057594037927936 < tm ∨ vt < -1 ∨ 3 ≤ vt) := by omega
  rw [if_neg hno] at hR
  unfold rlog_Log_SetTerm.B1
  obtain ⟨X, x1, x2⟩ := h.rl
  have ht := x2.t
  refine Bm.neg rfl (Pn.mk (x1.ldT ?_))
  rw [ht]
  refine oMeta_ok h.st (hp.app hLP [{ L with term := tm, vote := vt }]) hN hl h.holds (List.mem_append.2 (.inl hLP)) (List.mem_append.2 (.inr (by simp))) (by unfold metaErr; rw [if_neg hno]) fun w1 D1 F1 s1 p1 q1 he1 hg1 => Bm.neg rfl (Pn.mk ?_)
  have g1 : RlAt w1 l X := ownT he1 h.st.tys x1 (by decide)
  refine g1.stTerm fun w2 hs2 g2 he2 => Pn.mk (g2.stVote fun w3 hs3 g3 he3 => hR w3 ⟨⟨D1, F1, _, ⟨(s1.extT he2 (Tys.one g1) (fun q hq => by simp at hq; subst hq; decide)).extT he3 (Tys.one g2) (fun q hq => by simp at hq; subst hq; decide), ⟨_, g3, ⟨ht, rfl, rfl, x2.base, x2.bterm, x2.snap, x2.last, x2.ring⟩⟩, ⟨by show 0 ≤ tm ∧ tm ≤ _; omega, by show -1 ≤ vt ∧ vt < 3; omega, h.ok.base, h.ok.bterm, h.ok.snap, h.ok.len, h.ok.last, h.ok.ent⟩, h.holds.meta tm vt, h.clean⟩, p1, by omega, hg1, fun q => (by simp at q)⟩, ?_⟩)
  exact ((he1.mono (fun x hx _ => List.mem_cons_of_mem _ hx)).trans (he2.mono (fun x hx _ => by simp at hx; simp [hx]))).trans (he3.mono (fun x hx _ => by simp at hx; simp [hx]))
theorem realAppend_ok {P : List LogS} {tm : Int} {dd : ByteArray} {R : Int → World → Prop} (h : Real w l t d D F A L) (hp : Path D P N) (hLP : L ∈ P) (hl : D.log.length ≤ 1000)
    (hR : ∀ w', Did w l t d D F N P (appendS tm dd L).2 (finL L (appendS tm dd L).2) w' → R (appendS tm dd L).1 w') : rlog_Log_Append.Call (some ⟨l, 0, none⟩) tm dd w R := by
  apply rlog_Log_Append.sound
  unfold rlog_Log_Append.B0
  unfold appendS at hR
  refine New.mk fun eb w1 e1 s1 o1 he1 => ?_
  have h1 := h.ext0 he1
  have hb := h.ok.base
  have hlast := h.ok.last
  have hn := h.ok.len
  have bad : (tm < 0 ∨ 72057594037927936 < tm ∨ 24 < dd.size) → rlog_Log_Append.B1 (some ⟨l, 0, none⟩) eb true w1 R := fun hc => by
    unfold rlog_Log_Append.B1
    rw [if_pos hc] at hR
    exact Bm.pos rfl (hR w1 (h.did0 hp he1))
  refine LdI.mk o1 rfl (Bm.ite (fun q => bad (.inl q)) fun a1 => LdI.mk o1 rfl (Bm.ite (fun q => bad (.inr (.inl q))) fun a2 => LdS.mk o1 rfl ?_))
  by_cases a3 : ((dd.size : Nat) : Int) > 24
  · rw [decide_eq_true a3]; exact bad (.inr (.inr (by omega)))
  rw [decide_eq_false a3]
  rw [if_neg (by omega)] at hR
  unfold rlog_Log_Append.B1
  have h1d := h1.ext0 (Ext.drew [] w1)
  have exd : Ext [] w w1.drew := he1.trans (Ext.drew _ _)
  obtain ⟨X, x1, x2⟩ := h1d.rl
  have ht := x2.t
  have elast : X.last = L.base + (L.ents.length : Int) := x2.last
  have full : (6 ≤ L.ents.length ∨ 72057594037927936 ≤ L.last) → rlog_Log_Append.B2 (some ⟨l, 0, none⟩) eb true w1.drew R := fun hc => by
    unfold rlog_Log_Append.B2
    rw [if_pos hc] at hR
    exact Bm.pos rfl (hR _ (h.did0 hp exd))
  refine Bm.neg rfl (Pn.mk (x1.ldI (o := 6) (by omega) rfl (Pn.mk (x1.ldI (o := 3) (by omega) rfl ?_))))
  rw [elast, x2.base, w64 (by omega) (by omega)]
  refine Bm.ite (fun q => full (.inl (by omega))) fun b1 => Pn.mk (x1.ldI (o := 6) (by omega) rfl ?_)
  rw [elast]
  by_cases b2 : L.base + (L.ents.length : Int) ≥ 72057594037927936
  · rw [decide_eq_true b2]; exact full (.inr b2)
  rw [decide_eq_false b2]
  rw [if_neg (by unfold LogS.last; omega)] at hR
  unfold rlog_Log_Append.B2
  have o1d : Own w1.drew eb #[.int .i64 tm, .string dd] T_api_Entry := o1
  refine Bm.neg rfl (Pn.mk (x1.ldI (o := 6) (by omega) rfl ?_))
  rw [elast, w64 (by omega) (by omega), show L.base + (L.ents.length : Int) + 1 = L.base + 1 + (L.ents.length : Int) by omega]
  refine slotOf_ok (by omega) (Pn.mk (RlAt.ldT (w := w1.drew.drew) x1 (LdI.mk (w := w1.drew.drew) o1d rfl (LdS.mk (w := w1.drew.drew) o1d rfl ?_))))
  rw [ht]
  have h1dd := h1d.ext0 (Ext.drew [] w1.drew)
  have hsl := sl_lt (L.base + 1 + (L.ents.length : Int))
  obtain ⟨ha, hcl⟩ := h.holds.append h.clean (by omega) tm dd
  refine oPut_ok h1dd.st (hp.app hLP [{ L with ents := L.ents ++ [(tm, dd)] }]) hl h.holds (List.mem_append.2 (.inl hLP)) hsl (h.clean.slot (by omega)) (by omega) (by omega) (by omega) ha (List.mem_append.2 (.inr (by simp))) fun w2 D2 F2 s2 p2 q2 he2 hg2 => Bm.neg rfl ?_
  have tdd := h1dd.st.tys
  have g2 : RlAt w2 l X := ownT he2 tdd (Own.drew x1) (by decide)
  have o2 : Own w2 eb #[.int .i64 tm, .string dd] T_api_Entry := ownT he2 tdd (Own.drew o1d) (by decide)
  have o2d : Own w2.drew eb #[.int .i64 tm, .string dd] T_api_Entry := o2
  refine LdI.mk o2d rfl (Pn.mk (slotOf_ok (by omega) ⟨o2d.cell rfl, ⟨by omega, by omega⟩, ?_⟩))
  refine RlAt.stTf (w := w2.drew) g2 hsl fun w3 hs3 g3 he3 => ?_
  have t3 : Tys w2.drew [l] [T_rlog_Log] := Tys.one (Own.drew g2)
  have o3 := ownT he3 t3 o2d (by decide)
  have o3d : Own w3.drew eb #[.int .i64 tm, .string dd] T_api_Entry := o3
  refine LdS.mk o3d rfl (Pn.mk (slotOf_ok (by omega) ⟨o3d.cell rfl, ⟨by omega, by omega⟩, ?_⟩))
  refine RlAt.stDf (w := w3.drew) g3 hsl fun w4 hs4 g4 he4 => Pn.mk ?_
  have t4 : Tys w3.drew [l] [T_rlog_Log] := Tys.one (Own.drew g3)
  refine g4.stLast fun w5 hs5 g5 he5 => hR w5 ⟨⟨D2, F2, _, ⟨(((s2.ext0 (Ext.drew [] _)).extT he3 t3 (fun q hq => by simp at hq; subst hq; decide)).ext0 (Ext.drew [] _)).extT he4 t4 (fun q hq => by simp at hq; subst hq; decide) |>.extT he5 (Tys.one g4) (fun q hq => by simp at hq; subst hq; decide), ⟨_, g5, ⟨ht, x2.term, x2.vote, x2.base, x2.bterm, x2.snap, ?_, ?_⟩⟩, ⟨h.ok.term, h.ok.vote, h.ok.base, h.ok.bterm, h.ok.snap, ?_, ?_, ?_⟩, ha, hcl⟩, p2.mono (fun x hx => hx) (by omega), by omega, fun k hk => ?_, fun q => (by simp at q)⟩, ?_⟩
  · show L.base + 1 + (L.ents.length : Int) = L.base + ((L.ents ++ [(tm, dd)]).length : Int)
    simp; omega
  · intro i e he
    have he' : (L.ents ++ [(tm, dd)])[i]? = some e := he
    show upd X.tf _ tm (sl (L.base + 1 + (i : Int))) = e.1 ∧ upd X.df _ dd (sl (L.base + 1 + (i : Int))) = e.2
    by_cases hi : i < L.ents.length
    · rw [List.getElem?_append_left hi] at he'
      have hne : sl (L.base + 1 + (i : Int)) ≠ sl (L.base + 1 + (L.ents.length : Int)) := fun q => by have := sl_ne (by omega) (by omega) q; omega
      rw [upd_ne _ _ hne, upd_ne _ _ hne]
      exact x2.ring i e he'
    · have hil := (List.getElem?_eq_some_iff.1 he').1
      rw [List.length_append, List.length_singleton] at hil
      have ei : i = L.ents.length := by omega
      subst ei
      rw [List.getElem?_append_right (Nat.le_refl _), Nat.sub_self] at he'
      simp at he'
      subst he'
      rw [upd_eq, upd_eq]
      exact ⟨rfl, rfl⟩
  · show (L.ents ++ [(tm, dd)]).length ≤ 6; simp; omega
  · show L.base + ((L.ents ++ [(tm, dd)]).length : Int) ≤ _; simp; omega
  · intro e he
    have he' : e ∈ L.ents ++ [(tm, dd)] := he
    rcases List.mem_append.1 he' with q | q
    · exact h.ok.ent e q
    · simp at q; subst q; exact ⟨by simp only; omega, by simp only; omega, by simp only; omega⟩
  · rcases hg2 k hk with q | q
    · exact .inl q
    · exact .inr (by have := exd.size; have : w1.drew.drew.heap.size = w1.drew.heap.size := rfl; omega)
  · have f2 : Ext (l :: t :: F) w w2 := ((exd.trans (Ext.drew _ _)).nil).trans (he2.mono (fun x hx _ => List.mem_cons_of_mem _ hx))
    exact (((f2.trans (Ext.drew _ _)).trans (he3.mono (fun x hx _ => by simp at hx; simp [hx]))).trans ((Ext.drew _ _).trans (he4.mono (fun x hx _ => by simp at hx; simp [hx])))).trans (he5.mono (fun x hx _ => by simp at hx; simp [hx]))
end
end Go.Proofs.Qxb6500430aGreat
