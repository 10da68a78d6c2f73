/-
  sync: the model (package syncm): its record, an event's state, the small calls.
-/
import Derived.Test.Qxb6500430aGreatSyM
set_option linter.unusedVariables false
set_option linter.unusedSimpArgs false
open Go.Vc
namespace Go.Proofs.Qxb6500430aGreat
structure SmR where
  q : Nat
  e : Nat
  cm : Int
  nx : Nat → Int
  mt : Nat → Int
def smF (X : SmR) (o : Nat) : Value := if o = 0 then .pointer (some ⟨X.q, 0, none⟩) else if o = 1 then .pointer (some ⟨X.e, 0, none⟩) else if o = 2 then .int .i64 X.cm else if o < 6 then .int .i64 (X.nx (o - 3)) else .int .i64 (X.mt (o - 6))
def SmAt (w : World) (s : Nat) (X : SmR) : Prop := Own w s (fnArr 9 (smF X)) T_syncm_Sync
theorem smF_nx {X : SmR} {p : Nat} (hp : p < 3) : smF X (3 + p) = .int .i64 (X.nx p) := by
  unfold smF
  rw [if_neg (by omega), if_neg (by omega), if_neg (by omega), if_pos (by omega), show 3 + p - 3 = p by omega]
theorem smF_mt {X : SmR} {p : Nat} : smF X (6 + p) = .int .i64 (X.mt p) := by
  unfold smF
  rw [if_neg (by omega), if_neg (by omega), if_neg (by omega), if_neg (by omega), show 6 + p - 6 = p by omega]
section
variable {w w' : World} {s : Nat} {X : SmR}
theorem SmAt.ldL {K : Option Addr → Prop} (h : SmAt w s X) (hk : K (some ⟨X.q, 0, none⟩)) : LdP ⟨s, 0, none⟩ w K := LdP.fn (o := 0) h (by omega) rfl hk
theorem SmAt.ldE {K : Option Addr → Prop} (h : SmAt w s X) (hk : K (some ⟨X.e, 0, none⟩)) : LdP (Addr.add ⟨s, 0, none⟩ 1) w K := by
  rw [add_mk]
  exact LdP.fn (o := 1) h (by omega) rfl hk
theorem SmAt.ldC {K : Int → Prop} (h : SmAt w s X) (hk : K X.cm) : LdI .i64 (Addr.add ⟨s, 0, none⟩ 2) w K := by
  rw [add_mk]
  exact LdI.fn (o := 2) h (by omega) rfl hk
theorem SmAt.ldNx {p : Nat} {K : Int → Prop} (h : SmAt w s X) (hp : p < 3) (hk : K (X.nx p)) : LdI .i64 (Addr.add (Addr.add ⟨s, 0, none⟩ 3) ((p : Int).toNat * 1)) w K := by
  rw [adk]
  exact LdI.fn h (by omega) (smF_nx hp) hk
theorem SmAt.ldMt {p : Nat} {K : Int → Prop} (h : SmAt w s X) (hp : p < 3) (hk : K (X.mt p)) : LdI .i64 (Addr.add (Addr.add ⟨s, 0, none⟩ 6) ((p : Int).toNat * 1)) w K := by
  rw [adk]
  exact LdI.fn h (by omega) smF_mt hk
theorem SmAt.st {K : World → Prop} {o : Nat} {v : Value} (X' : SmR) (h : SmAt w s X) (ho : o < 9) (h1 : [v].all Value.oneCell' = true) (hg : ∀ j, j < 9 → (if j = o then v else smF X j) = smF X' j) (hk : ∀ w', w'.heap.size = w.heap.size → SmAt w' s X' → Ext [s] w w' → K w') : Sts [v] ⟨s, o, none⟩ 0 w K := by
  refine Sts.fn (g := smF X') h (by simp; omega) h1 (fun j hj => ?_) hk
  rw [← hg j hj]
  unfold fnPut
  by_cases e : j = o
  · subst e
    rw [if_pos (by simp), if_pos rfl]
    simp
  · rw [if_neg (by simp; omega), if_neg e]
theorem SmAt.stCm {K : World → Prop} {v : Int} (h : SmAt w s X) (hk : ∀ w', w'.heap.size = w.heap.size → SmAt w' s { X with cm := v } → Ext [s] w w' → K w') : Sts [.int .i64 v] (Addr.add ⟨s, 0, none⟩ 2) 0 w K := by
  rw [add_mk, Nat.zero_add]
  exact h.st _ (by omega) rfl (fun j hj => by
    by_cases e : j = 2
    · subst e; rfl
    · rw [if_neg e]; unfold smF; simp only [if_neg e]) hk
theorem SmAt.stNx {K : World → Prop} {p : Nat} {v : Int} (h : SmAt w s X) (hp : p < 3) (hk : ∀ w', w'.heap.size = w.heap.size → SmAt w' s { X with nx := upN X.nx p v } → Ext [s] w w' → K w') : Sts [.int .i64 v] (Addr.add (Addr.add ⟨s, 0, none⟩ 3) ((p : Int).toNat * 1)) 0 w K := by
  rw [adk]
  exact h.st _ (by omega) rfl (fun j hj => by
    by_cases e : j = 3 + p
    · rw [if_pos e, e, smF_nx hp]
      show _ = Value.int .i64 (upN X.nx p v p)
      rw [upN_eq]
    · rw [if_neg e]
      by_cases c : 3 ≤ j ∧ j < 6
      · obtain ⟨q, rfl⟩ : ∃ q, j = 3 + q := ⟨j - 3, by omega⟩
        rw [smF_nx (by omega), smF_nx (by omega)]
        show _ = Value.int .i64 (upN X.nx p v q)
        rw [upN_ne (by omega)]
      · have : j < 3 ∨ 6 ≤ j := by omega
        rcases this with c | c
        · have : j = 0 ∨ j = 1 ∨ j = 2 := by omega
          rcases this with rfl | rfl | rfl <;> rfl
        · unfold smF
          simp only [if_neg (show ¬ (j < 6) by omega)]) hk
theorem SmAt.stMt {K : World → Prop} {p : Nat} {v : Int} (h : SmAt w s X) (hp : p < 3) (hk : ∀ w', w'.heap.size = w.heap.size → SmAt w' s { X with mt := upN X.mt p v } → Ext [s] w w' → K w') : Sts [.int .i64 v] (Addr.add (Addr.add ⟨s, 0, none⟩ 6) ((p : Int).toNat * 1)) 0 w K := by
  rw [adk]
  exact h.st _ (by omega) rfl (fun j hj => by
    by_cases e : j = 6 + p
    · rw [if_pos e, e, smF_mt]
      show _ = Value.int .i64 (upN X.mt p v p)
      rw [upN_eq]
    · rw [if_neg e]
      by_cases c : 6 ≤ j
      · obtain ⟨q, rfl⟩ : ∃ q, j = 6 + q := ⟨j - 6, by omega⟩
        rw [smF_mt, smF_mt]
        show _ = Value.int .i64 (upN X.mt p v q)
        rw [upN_ne (by omega)]
      · unfold smF
        simp only [if_pos (show j < 6 by omega)]) hk
end
def smX (q e : Nat) (Y : YS) : SmR := ⟨q, e, Y.cm, Y.nx, Y.mt⟩
abbrev MT : List TypeId := [T_syncm_Sync, T_electm_Elect, T_rlogm_Log, T_rlogm_state, PTS]
/-- The model in the midst of an event. -/
structure MvX (w0 : World) (s q e : Nat) (M0 : MSt) (L0 : LogS) (w : World) (M : MSt) (X : SmR) (L : LogS) (es : El.ES) (S : List LogS) : Prop where
  own : SmAt w s X
  xq : X.q = q
  xe : X.e = e
  el : El.ModAt w e es
  md : MdAt w q M
  A : M.A = gs L
  A0 : M.A0 = M0.A0
  H : M.H.map (·.2) = M0.H.map (·.2) ++ S.map gs
  grew : Grew w0 (M0.foot q) (M.foot q)
  fin : L = finL L0 S
  ok : LogOk L
  ext : Ext (s :: e :: M0.foot q) w0 w
section
variable {w0 w w' : World} {s q e : Nat} {M0 M M' : MSt} {L0 : LogS} {X X' : SmR} {L : LogS} {es es' : El.ES} {S T : List LogS}
theorem MvX.len (h : MvX w0 s q e M0 L0 w M X L es S) : M.H.length = M0.H.length + S.length := by
  have := congrArg List.length h.H
  simpa using this
theorem MvX.other {Z : List Nat} {ts : List TypeId} (h : MvX w0 s q e M0 L0 w M X L es S) (he : Ext Z w w') (hT : Tys w Z ts) (ht : ∀ t ∈ ts, t ∉ MT) (hg : ∀ y ∈ Z, w0.heap.size ≤ y) : MvX w0 s q e M0 L0 w' M X L es S := by
  have hno : ∀ {T : TypeId}, T ∈ MT → T ∉ ts := fun hc hx => ht _ hx hc
  refine ⟨ownT he hT h.own (hno (by simp)), h.xq, h.xe, ownT he hT h.el (hno (by simp)), h.md.extY he hT (fun t hx => ?_), h.A, h.A0, h.H, h.grew, h.fin, h.ok, h.ext.trans' he (fun y hy hl => by have := hg y hy; omega)⟩
  have := ht t hx
  simp only [MT, List.mem_cons, List.not_mem_nil, or_false, not_or] at this
  exact ⟨this.2.2.1, this.2.2.2.1, this.2.2.2.2⟩
theorem MvX.ext0 (h : MvX w0 s q e M0 L0 w M X L es S) (he : Ext [] w w') : MvX w0 s q e M0 L0 w' M X L es S := h.other (ts := []) he (Tys.nil _ _) (fun q hq => by cases hq) (fun y hy => by cases hy)
theorem MTs {T : TypeId} (h : T ∈ MT) {w w' : World} {k : Nat} {cs : Array Value} (ho : Own w k cs T) (he : Ext [k] w w') : ExtT w w' MT := (ExtT.of he (Tys.one ho)).mono (fun t ht => by simp only [List.mem_singleton] at ht; rw [ht]; exact h)
theorem MvX.st (h : MvX w0 s q e M0 L0 w M X L es S) (ho : SmAt w' s X') (hl : X'.q = X.q) (hx : X'.e = X.e) (he : Ext [s] w w') : MvX w0 s q e M0 L0 w' M X' L es S := by
  have hT := Tys.one h.own
  exact ⟨ho, by rw [hl, h.xq], by rw [hx, h.xe], ownT he hT h.el (by decide), h.md.extY he hT (fun q hq => by simp at hq; subst hq; decide), h.A, h.A0, h.H, h.grew, h.fin, h.ok, h.ext.trans (he.mono fun y hy _ => by simp at hy; simp [hy])⟩
theorem MvX.turn (h : MvX w0 s q e M0 L0 w M X L es S) (ho : El.ModAt w' e es') (he : Ext [e] w w') : MvX w0 s q e M0 L0 w' M X L es' S := by
  have hT := Tys.one h.el
  exact ⟨ownT he hT h.own (by decide), h.xq, h.xe, ho, h.md.extY he hT (fun q hq => by simp at hq; subst hq; decide), h.A, h.A0, h.H, h.grew, h.fin, h.ok, h.ext.trans (he.mono fun y hy _ => by simp at hy; simp [hy])⟩
theorem MvX.did (h : MvX w0 s q e M0 L0 w M X L es S) (dd : MDid w q M L T M' w') (hok : LogOk (finL L T)) : MvX w0 s q e M0 L0 w' M' X (finL L T) es (S ++ T) ∧ ExtT w w' MT := by
  have hT := h.md.tys
  refine ⟨⟨ownT dd.ext hT h.own (by decide), h.xq, h.xe, ownT dd.ext hT h.el (by decide), dd.at_, dd.A, by rw [dd.A0, h.A0], by rw [dd.H, h.H]; simp, h.grew.trans h.ext.size dd.grew, by rw [h.fin, finL_app], hok, h.ext.trans' dd.ext (fun y hy hl => ?_)⟩, (ExtT.of dd.ext hT).mono (fun t ht => by
    simp only [List.mem_cons, List.not_mem_nil, or_false] at ht
    rcases ht with e | e | e <;> subst e <;> decide)⟩
  rcases h.grew y hy with z | z
  · simp [z]
  · omega
end
def Mv (w0 : World) (s q e : Nat) (M0 : MSt) (L0 : LogS) (w : World) (Y : YS) (S : List LogS) : Prop := ∃ M, MvX w0 s q e M0 L0 w M (smX q e Y) Y.L Y.e S
section
variable {w0 w w' : World} {s q e : Nat} {M0 M M' : MSt} {L0 : LogS} {Y : YS} {S T : List LogS}
theorem Mv.other {Z : List Nat} {ts : List TypeId} (h : Mv w0 s q e M0 L0 w Y S) (he : Ext Z w w') (hT : Tys w Z ts) (ht : ∀ t ∈ ts, t ∉ MT) (hg : ∀ y ∈ Z, w0.heap.size ≤ y) : Mv w0 s q e M0 L0 w' Y S := by
  obtain ⟨M, h⟩ := h
  exact ⟨M, h.other he hT ht hg⟩
theorem Mv.ext0 (h : Mv w0 s q e M0 L0 w Y S) (he : Ext [] w w') : Mv w0 s q e M0 L0 w' Y S := by
  obtain ⟨M, h⟩ := h
  exact ⟨M, h.ext0 he⟩
theorem Mv.ok (h : Mv w0 s q e M0 L0 w Y S) : LogOk Y.L := by
  obtain ⟨M, h⟩ := h
  exact h.ok
theorem Mv.sz (h : Mv w0 s q e M0 L0 w Y S) : w0.heap.size ≤ w.heap.size := by
  obtain ⟨M, h⟩ := h
  exact h.ext.size
theorem Mv.own (h : Mv w0 s q e M0 L0 w Y S) : SmAt w s (smX q e Y) := by
  obtain ⟨M, h⟩ := h
  exact h.own
theorem Mv.el (h : Mv w0 s q e M0 L0 w Y S) : El.ModAt w e Y.e := by
  obtain ⟨M, h⟩ := h
  exact h.el
theorem Mv.turn {es' : El.ES} (h : Mv w0 s q e M0 L0 w Y S) (ho : El.ModAt w' e es') (he : Ext [e] w w') : Mv w0 s q e M0 L0 w' { Y with e := es' } S ∧ ExtT w w' MT := by
  obtain ⟨M, h⟩ := h
  exact ⟨⟨M, h.turn ho he⟩, MTs (by simp) h.el he⟩
theorem Mv.st {X' : SmR} {Y' : YS} (h : Mv w0 s q e M0 L0 w Y S) (ho : SmAt w' s X') (he : Ext [s] w w') (hL : Y'.L = Y.L) (hE : Y'.e = Y.e) (hX : X' = smX q e Y') : Mv w0 s q e M0 L0 w' Y' S ∧ ExtT w w' MT := by
  obtain ⟨M, h⟩ := h
  subst hX
  have h2 := h.st ho rfl rfl he
  rw [← hL, ← hE] at h2
  exact ⟨⟨M, h2⟩, MTs (by simp) h.own he⟩
theorem Mv.did (h : Mv w0 s q e M0 L0 w Y S) {M : MSt} (hx : MvX w0 s q e M0 L0 w M (smX q e Y) Y.L Y.e S) (dd : MDid w q M Y.L T M' w') (hok : LogOk (finL Y.L T)) : Mv w0 s q e M0 L0 w' (setL Y T) (S ++ T) ∧ ExtT w w' MT := by
  obtain ⟨f1, f2⟩ := hx.did dd hok
  exact ⟨⟨M', f1⟩, f2⟩
theorem Mv.cTerm {R : Int → World → Prop} (h : Mv w0 s q e M0 L0 w Y S) (hR : R Y.L.term w) : Pn (some (⟨s, 0, none⟩ : Addr)) fun a => LdP a w fun x => rlogm_Log_Term.Call x w R := by
  obtain ⟨M, h⟩ := h
  exact Pn.mk (h.own.ldL (mTerm_ok h.md h.A hR))
theorem Mv.cVote {R : Int → World → Prop} (h : Mv w0 s q e M0 L0 w Y S) (hR : R Y.L.vote w) : Pn (some (⟨s, 0, none⟩ : Addr)) fun a => LdP a w fun x => rlogm_Log_Vote.Call x w R := by
  obtain ⟨M, h⟩ := h
  exact Pn.mk (h.own.ldL (mVote_ok h.md h.A hR))
theorem Mv.cBase {R : Int → World → Prop} (h : Mv w0 s q e M0 L0 w Y S) (hR : R Y.L.base w) : Pn (some (⟨s, 0, none⟩ : Addr)) fun a => LdP a w fun x => rlogm_Log_Base.Call x w R := by
  obtain ⟨M, h⟩ := h
  exact Pn.mk (h.own.ldL (mBase_ok h.md h.A hR))
theorem Mv.cBaseTerm {R : Int → World → Prop} (h : Mv w0 s q e M0 L0 w Y S) (hR : R Y.L.bterm w) : Pn (some (⟨s, 0, none⟩ : Addr)) fun a => LdP a w fun x => rlogm_Log_BaseTerm.Call x w R := by
  obtain ⟨M, h⟩ := h
  exact Pn.mk (h.own.ldL (mBaseTerm_ok h.md h.A hR))
theorem Mv.cSnap {R : ByteArray → World → Prop} (h : Mv w0 s q e M0 L0 w Y S) (hR : R Y.L.snap w) : Pn (some (⟨s, 0, none⟩ : Addr)) fun a => LdP a w fun x => rlogm_Log_Snap.Call x w R := by
  obtain ⟨M, h⟩ := h
  exact Pn.mk (h.own.ldL (mSnap_ok h.md h.A hR))
theorem Mv.cLast {R : Int → World → Prop} (h : Mv w0 s q e M0 L0 w Y S) (hR : R Y.L.last w.drew) : Pn (some (⟨s, 0, none⟩ : Addr)) fun a => LdP a w fun x => rlogm_Log_Last.Call x w R := by
  obtain ⟨M, h⟩ := h
  exact Pn.mk (h.own.ldL (mLast_ok h.md h.A h.ok hR))
theorem Mv.cTermAt {i : Int} {R : Int → Int → World → Prop} (h : Mv w0 s q e M0 L0 w Y S) (hi : -9223372036854775808 ≤ i ∧ i ≤ 9223372036854775807) (hR : ∀ w', Ext [] w w' → R (termL Y.L i).1 (termL Y.L i).2 w') : Pn (some (⟨s, 0, none⟩ : Addr)) fun a => LdP a w fun x => rlogm_Log_TermAt.Call x i w R := by
  obtain ⟨M, h⟩ := h
  exact Pn.mk (h.own.ldL (mTermAt_ok hi h.md h.A h.ok hR))
theorem Mv.cAt {i : Int} {R : Int → ByteArray → Int → World → Prop} (h : Mv w0 s q e M0 L0 w Y S) (hi : -9223372036854775808 ≤ i ∧ i ≤ 9223372036854775807) (hR : ∀ w', Ext [] w w' → R (atL Y.L i).1.1 (atL Y.L i).1.2 (atL Y.L i).2 w') : Pn (some (⟨s, 0, none⟩ : Addr)) fun a => LdP a w fun x => rlogm_Log_At.Call x i w R := by
  obtain ⟨M, h⟩ := h
  exact Pn.mk (h.own.ldL (mAt_ok hi h.md h.A h.ok hR))
theorem Mv.eId {R : Int → World → Prop} (h : Mv w0 s q e M0 L0 w Y S) (hR : R Y.e.id w) : Pn (some (⟨s, 0, none⟩ : Addr)) fun a => LdP (Addr.add a 1) w fun x => electm_Elect_Id.Call x w R := Pn.mk (h.own.ldE (El.modId_ok h.el hR))
theorem Mv.eTerm {R : Int → World → Prop} (h : Mv w0 s q e M0 L0 w Y S) (hR : R Y.e.term w) : Pn (some (⟨s, 0, none⟩ : Addr)) fun a => LdP (Addr.add a 1) w fun x => electm_Elect_Term.Call x w R := Pn.mk (h.own.ldE (El.modTerm_ok h.el hR))
theorem Mv.eVote {R : Int → World → Prop} (h : Mv w0 s q e M0 L0 w Y S) (hR : R Y.e.vote w) : Pn (some (⟨s, 0, none⟩ : Addr)) fun a => LdP (Addr.add a 1) w fun x => electm_Elect_Vote.Call x w R := Pn.mk (h.own.ldE (El.modVote_ok h.el hR))
theorem Mv.eRole {R : Int → World → Prop} (h : Mv w0 s q e M0 L0 w Y S) (hR : R Y.e.role w) : Pn (some (⟨s, 0, none⟩ : Addr)) fun a => LdP (Addr.add a 1) w fun x => electm_Elect_Role.Call x w R := Pn.mk (h.own.ldE (El.modRole_ok h.el hR))
theorem Mv.eLeader {R : Int → World → Prop} (h : Mv w0 s q e M0 L0 w Y S) (hR : R Y.e.leader w) : Pn (some (⟨s, 0, none⟩ : Addr)) fun a => LdP (Addr.add a 1) w fun x => electm_Elect_Leader.Call x w R := Pn.mk (h.own.ldE (El.modLeader_ok h.el hR))
theorem Mv.eClock {R : Int → World → Prop} (h : Mv w0 s q e M0 L0 w Y S) (hR : R Y.e.clock w) : Pn (some (⟨s, 0, none⟩ : Addr)) fun a => LdP (Addr.add a 1) w fun x => electm_Elect_Clock.Call x w R := Pn.mk (h.own.ldE (El.modClock_ok h.el hR))
theorem mpersist_ok {R : World → Prop} (h : Mv w0 s q e M0 L0 w Y S) (hH : M0.H.length + S.length ≤ 500) (hR : ∀ w', Mv w0 s q e M0 L0 w' (persF Y) (S ++ persS Y) → ExtT w w' MT → R w') : syncm_Sync_persist.Call (some ⟨s, 0, none⟩) w R := by
  apply syncm_Sync_persist.sound
  unfold syncm_Sync_persist.B0
  refine h.eTerm (h.eVote (h.cTerm (h.cVote ?_)))
  have yes : (Y.e.term ≠ Y.L.term ∨ Y.e.vote ≠ Y.L.vote) → syncm_Sync_persist.B1 (some ⟨s, 0, none⟩) Y.e.term Y.e.vote true w R := fun hc => by
    unfold syncm_Sync_persist.B1
    have hh := h
    obtain ⟨M, hx⟩ := h
    refine Bm.pos rfl (Pn.mk (hx.own.ldL ?_))
    have hp : persS Y = (setTermS Y.e.term Y.e.vote Y.L).2 := by unfold persS; rw [if_pos hc]
    refine mSetTerm_ok hx.md hx.A (by rw [hx.len]; omega) fun M2 w2 d2 => ?_
    obtain ⟨h2, x2⟩ := hh.did hx d2 (ok_setTerm hx.ok)
    refine hR w2 ?_ x2
    unfold persF
    rw [hp]
    exact h2
  by_cases c1 : Y.e.term = Y.L.term
  · refine Bm.neg (by simpa using c1) ?_
    by_cases c2 : Y.e.vote = Y.L.vote
    · rw [show (Y.e.vote != Y.L.vote) = false by simpa using c2]
      unfold syncm_Sync_persist.B1
      have hp : persS Y = [] := by unfold persS; rw [if_neg (by simp [c1, c2])]
      refine Bm.neg rfl (hR w ?_ (ExtT.refl _ _))
      unfold persF
      rw [hp, List.append_nil]
      exact h
    · rw [show (Y.e.vote != Y.L.vote) = true by simpa using c2]
      exact yes (.inr c2)
  · exact Bm.pos (by simpa using c1) (yes (.inl c1))
/-- A message appended to a list. -/
theorem ML.push {b : Option Addr} {l c lo nb : Nat} {E : List ME} {x : ME} {K : Option Addr → Nat → World → Prop} (h : ML w b l c lo E) (hn : Own w nb (meC x).toArray T_api_Msg) (hd : EA w x.2.1 x.1.ents.length x.2.2 x.1.ents) (hg : ∀ k ∈ rowBlk x.2.1, lo ≤ k) (hap : ∀ y ∈ E, ∀ k ∈ rowBlk y.2.1, k ∉ rowBlk x.2.1) (hl : l ≤ 100) (hlo : lo ≤ w.heap.size)
    (hK : ∀ b' c' w', ML w' b' (l + 1) c' lo (E ++ [x]) → Ext (rowBlk b) w w' → Tys w (rowBlk b) [T_api_Msg] → K b' c' w') : Append T_api_Msg (.agg #[.int .i64 0, .int .i64 0, .int .i64 0, .int .i64 0, .int .i64 0, .int .i64 0, .int .i64 0, .bool false, .slice none 0 0, .string (ByteArray.mk #[])]) 10 104 b l c (some ⟨nb, 0, none⟩) 1 w K := by
  refine Vc.Append.mk (e := T_api_Msg) (news := meC x) h.row (CellsAt.own hn (fun j v hj => by simpa [meC, msgC] using hj)) rfl rfl rfl (by omega) (by omega) fun b' c' w' hr he hb => ?_
  have hT := Tys.row h.row
  refine hK b' c' w' ⟨by rw [List.flatMap_append]; simpa using hr, ⟨fun y hy => ?_, List.pairwise_append.2 ⟨h.bd.apart, List.pairwise_singleton _ _, fun y hy z hz => ?_⟩, fun y hy => ?_⟩, fun k hk => ?_⟩ he hT
  · rcases List.mem_append.1 hy with z | z
    · exact rowT (h.bd.dat y z) he hT (by decide)
    · simp at z
      subst z
      exact rowT hd he hT (by decide)
  · simp at hz
    subst hz
    exact hap y hy
  · rcases List.mem_append.1 hy with z | z
    · exact h.bd.ge y z
    · simp at z
      subst z
      exact hg
  · rcases hb k hk with z | z
    · exact h.blk k z
    · omega
end
end Go.Proofs.Qxb6500430aGreat
