/-
  rlog: the model (package rlogm).
-/
import Derived.Test.Qxb6500430aGreatRlE
set_option linter.unusedVariables false
set_option linter.unusedSimpArgs false
open Go.Vc
namespace Go.Proofs.Qxb6500430aGreat

abbrev ze : Int × ByteArray := (0, estr)
def gF (L : LogS) (n : Int) (j : Nat) : Value :=
  if j = 0 then .int .i64 L.term else if j = 1 then .int .i64 L.vote else if j = 2 then .int .i64 L.base else if j = 3 then .int .i64 L.bterm else if j = 4 then .string L.snap else if j = 5 then .int .i64 n
  else if j % 2 = 0 then .int .i64 (L.ents.getD ((j - 6) / 2) ze).1 else .string (L.ents.getD ((j - 6) / 2) ze).2
def LgAt (w : World) (s : Nat) (L : LogS) (n : Int) : Prop := Own w s (fnArr 18 (gF L n)) T_rlogm_state
theorem gF_hi (L : LogS) (n : Int) {j : Nat} (h : 6 ≤ j) : gF L n j = if j % 2 = 0 then .int .i64 (L.ents.getD ((j - 6) / 2) ze).1 else .string (L.ents.getD ((j - 6) / 2) ze).2 := by
  unfold gF
  rw [if_neg (by omega), if_neg (by omega), if_neg (by omega), if_neg (by omega), if_neg (by omega), if_neg (by omega)]
theorem gF_t (L : LogS) (n : Int) (i : Nat) : gF L n (6 + i * 2) = .int .i64 (L.ents.getD i ze).1 := by
  rw [gF_hi L n (by omega), if_pos (by omega), show (6 + i * 2 - 6) / 2 = i by omega]
theorem gF_d (L : LogS) (n : Int) (i : Nat) : gF L n (6 + i * 2 + 1) = .string (L.ents.getD i ze).2 := by
  rw [gF_hi L n (by omega), if_neg (by omega), show (6 + i * 2 + 1 - 6) / 2 = i by omega]
theorem fnPut1 {f : Nat → Value} {o j : Nat} {v : Value} : fnPut f o [v] j = if j = o then v else f j := by
  unfold fnPut
  by_cases e : j = o
  · subst e
    rw [if_pos (by simp), if_pos rfl]
    simp
  · rw [if_neg (by simp; omega), if_neg e]
theorem gput_lo {L L' : LogS} {n n' : Int} {o : Nat} {v : Value} (ho : gF L' n' o = v) (h : ∀ j, j < 18 → j ≠ o → gF L n j = gF L' n' j) : ∀ j, j < 18 → fnPut (gF L n) o [v] j = gF L' n' j := fun j hj => by
  rw [fnPut1]
  by_cases e : j = o
  · rw [if_pos e, e, ho]
  · rw [if_neg e]
    exact h j hj e
theorem gput_term (L : LogS) (n v : Int) : ∀ j, j < 18 → fnPut (gF L n) 0 [.int .i64 v] j = gF { L with term := v } n j := gput_lo rfl fun j _ e => by
  unfold gF
  rw [if_neg e, if_neg e]
theorem gput_vote (L : LogS) (n v : Int) : ∀ j, j < 18 → fnPut (gF L n) 1 [.int .i64 v] j = gF { L with vote := v } n j := gput_lo rfl fun j _ e => by
  unfold gF
  simp only [e, if_false]
theorem gput_base (L : LogS) (n v : Int) : ∀ j, j < 18 → fnPut (gF L n) 2 [.int .i64 v] j = gF { L with base := v } n j := gput_lo rfl fun j _ e => by
  unfold gF
  simp only [e, if_false]
theorem gput_bterm (L : LogS) (n v : Int) : ∀ j, j < 18 → fnPut (gF L n) 3 [.int .i64 v] j = gF { L with bterm := v } n j := gput_lo rfl fun j _ e => by
  unfold gF
  simp only [e, if_false]
theorem gput_snap (L : LogS) (n : Int) (v : ByteArray) : ∀ j, j < 18 → fnPut (gF L n) 4 [.string v] j = gF { L with snap := v } n j := gput_lo rfl fun j _ e => by
  unfold gF
  simp only [e, if_false]
theorem gput_n (L : LogS) (n v : Int) : ∀ j, j < 18 → fnPut (gF L n) 5 [.int .i64 v] j = gF L v j := gput_lo rfl fun j _ e => by
  unfold gF
  simp only [e, if_false]
theorem gput_ent (L : LogS) (n : Int) {i : Nat} (hi : i < 6) (e : Int × ByteArray) (E : List (Int × ByteArray)) (hE : ∀ q, q < 6 → E.getD q ze = if q = i then e else L.ents.getD q ze) : ∀ j, j < 18 → fnPut (gF L n) (6 + i * 2) [.int .i64 e.1, .string e.2] j = gF { L with ents := E } n j := by
  intro j hj
  unfold fnPut
  by_cases c : 6 + i * 2 ≤ j ∧ j < 6 + i * 2 + 2
  · rw [if_pos (by simpa using c), gF_hi _ _ (by omega)]
    have h3 : (j - 6) / 2 = i := by omega
    rw [h3]
    show _ = if j % 2 = 0 then Value.int .i64 (E.getD i ze).1 else .string (E.getD i ze).2
    rw [hE i hi, if_pos rfl]
    have : j = 6 + i * 2 ∨ j = 6 + i * 2 + 1 := by omega
    rcases this with rfl | rfl
    · rw [if_pos (by omega)]; simp
    · rw [if_neg (by omega), show 6 + i * 2 + 1 - (6 + i * 2) = 1 by omega]; rfl
  · rw [if_neg (by simpa using c)]
    by_cases c2 : j < 6
    · have : j = 0 ∨ j = 1 ∨ j = 2 ∨ j = 3 ∨ j = 4 ∨ j = 5 := by omega
      rcases this with rfl | rfl | rfl | rfl | rfl | rfl <;> rfl
    · rw [gF_hi _ _ (by omega), gF_hi _ _ (by omega)]
      show _ = if j % 2 = 0 then Value.int .i64 (E.getD ((j - 6) / 2) ze).1 else .string (E.getD ((j - 6) / 2) ze).2
      rw [hE _ (by omega), if_neg (show ¬ ((j - 6) / 2 = i) by omega)]
def vals12 (E : List (Int × ByteArray)) : List Value := [.int .i64 (E.getD 0 ze).1, .string (E.getD 0 ze).2, .int .i64 (E.getD 1 ze).1, .string (E.getD 1 ze).2, .int .i64 (E.getD 2 ze).1, .string (E.getD 2 ze).2, .int .i64 (E.getD 3 ze).1, .string (E.getD 3 ze).2, .int .i64 (E.getD 4 ze).1, .string (E.getD 4 ze).2, .int .i64 (E.getD 5 ze).1, .string (E.getD 5 ze).2]
theorem gput_all (L : LogS) (n : Int) (E : List (Int × ByteArray)) : ∀ j, j < 18 → fnPut (gF L n) 6 (vals12 E) j = gF { L with ents := E } n j := by
  intro j hj
  have : j = 0 ∨ j = 1 ∨ j = 2 ∨ j = 3 ∨ j = 4 ∨ j = 5 ∨ j = 6 ∨ j = 7 ∨ j = 8 ∨ j = 9 ∨ j = 10 ∨ j = 11 ∨ j = 12 ∨ j = 13 ∨ j = 14 ∨ j = 15 ∨ j = 16 ∨ j = 17 := by omega
  rcases this with rfl | rfl | rfl | rfl | rfl | rfl | rfl | rfl | rfl | rfl | rfl | rfl | rfl | rfl | rfl | rfl | rfl | rfl <;> rfl
structure GS where
  L : LogS
  n : Int
abbrev gs (L : LogS) : GS := ⟨L, (L.ents.length : Int)⟩
def StAt (w : World) (s : Nat) (A : GS) : Prop := LgAt w s A.L A.n
theorem cloneL_ok {w : World} {s : Nat} {A : GS} {R : Option Addr → World → Prop} (h : StAt w s A) (hR : ∀ k w', w.heap.size ≤ k → k < w'.heap.size → StAt w' k A → Ext [] w w' → R (some ⟨k, 0, none⟩) w') : rlogm_state_clone.Call (some ⟨s, 0, none⟩) w R := by
  apply rlogm_state_clone.sound
  unfold rlogm_state_clone.B0
  obtain ⟨L, n⟩ := A
  have hd : LgAt w.drew s L n := Own.drew h
  have ldI : ∀ {v : World} {o : Nat} {x : Int} {K : Int → Prop}, LgAt v s L n → o < 18 → gF L n o = .int .i64 x → K x → LdI .i64 ⟨s, o, none⟩ v K := fun {v o x K} hv ho hx hk => LdI.fn hv ho hx hk
  have ldS : ∀ {v : World} {o : Nat} {x : ByteArray} {K : ByteArray → Prop}, LgAt v s L n → o < 18 → gF L n o = .string x → K x → LdS ⟨s, o, none⟩ v K := fun {v o x K} hv ho hx hk => LdS.fn hv ho hx hk
  refine Pn.mk (ldI hd (by omega) rfl (Pn.mk (ldI (o := 1) hd (by omega) rfl (Pn.mk (ldI (o := 2) hd (by omega) rfl (Pn.mk (ldI (o := 3) hd (by omega) rfl (Pn.mk (ldS (o := 4) hd (by omega) rfl (Pn.mk (ldI (o := 5) hd (by omega) rfl (New.mk fun k w1 hk hs1 o1 he1 => ?_))))))))))))
  have hdz : w.drew.heap.size = w.heap.size := rfl
  have h1 : LgAt w1 s L n := he1.own hd (by simp)
  refine Pn.mk (ldI (o := 6) h1 (by omega) rfl (ldS (o := 7) h1 (by omega) rfl (ldI (o := 8) h1 (by omega) rfl (ldS (o := 9) h1 (by omega) rfl (ldI (o := 10) h1 (by omega) rfl (ldS (o := 11) h1 (by omega) rfl (ldI (o := 12) h1 (by omega) rfl (ldS (o := 13) h1 (by omega) rfl (ldI (o := 14) h1 (by omega) rfl (ldS (o := 15) h1 (by omega) rfl (ldI (o := 16) h1 (by omega) rfl (ldS (o := 17) h1 (by omega) rfl ?_))))))))))))
  have g1 : LgAt w1 k { L with ents := [] } n := o1
  refine Sts.fn (vs := vals12 L.ents) (g := gF L n) g1 (by simp [vals12]) rfl (fun j hj => gput_all _ _ _ j hj) fun w2 hs2 g2 he2 => hR k w2 (by omega) (Own.lt g2) g2 (((Ext.drew [] w).trans he1).trans' he2 (fun x hx hlt => by simp at hx; omega))

abbrev PTS : TypeId := 205
structure MSt where
  s : Nat
  mb : Nat
  hb : Option Addr
  hc : Nat
  A : GS
  A0 : GS
  H : List (Nat × GS)
def histV (H : List (Nat × GS)) : List Value := H.map fun e => .pointer (some ⟨e.1, 0, none⟩)
structure MdAt (w : World) (q : Nat) (M : MSt) : Prop where
  own : Own w q #[.pointer (some ⟨M.s, 0, none⟩), .pointer (some ⟨M.mb, 0, none⟩), .slice M.hb M.H.length M.hc] T_rlogm_Log
  cur : StAt w M.s M.A
  mark : StAt w M.mb M.A0
  row : Row w M.hb M.H.length M.hc 1 PTS (histV M.H)
  hist : ∀ e ∈ M.H, StAt w e.1 e.2
  ne : M.s ≠ M.mb
  neH : ∀ e ∈ M.H, e.1 ≠ M.s
def MSt.foot (M : MSt) (q : Nat) : List Nat := q :: M.s :: rowBlk M.hb
section
variable {w w' : World} {q : Nat} {M : MSt}
/-- Blocks of other types do no harm. -/
theorem MdAt.extT {S : List Nat} (h : MdAt w q M) (he : Ext S w w') (hs : ∀ k ∈ S, ∀ cs t, Own w k cs t → t ≠ T_rlogm_Log ∧ t ≠ T_rlogm_state ∧ t ≠ PTS) : MdAt w' q M :=
  ⟨he.own h.own (fun hk => (hs q hk _ _ h.own).1 rfl), he.own h.cur (fun hk => (hs _ hk _ _ h.cur).2.1 rfl), he.own h.mark (fun hk => (hs _ hk _ _ h.mark).2.1 rfl), h.row.ext he (fun k hk hS => by
    rcases h.row.2.2 with ⟨e, _⟩ | ⟨k', cs, e, ho, _⟩
    · rw [e] at hk; simp [rowBlk] at hk
    · rw [e] at hk; simp [rowBlk] at hk; subst hk; exact (hs _ hS _ _ ho).2.2 rfl), fun e hm => he.own (h.hist e hm) (fun hk => (hs _ hk _ _ (h.hist e hm)).2.1 rfl), h.ne, h.neH⟩
theorem MdAt.ext0 (h : MdAt w q M) (he : Ext [] w w') : MdAt w' q M := h.extT he (fun k hk => by cases hk)
theorem MdAt.rowT (h : MdAt w q M) {k : Nat} (hk : k ∈ rowBlk M.hb) : ∃ cs, Own w k cs PTS := by
  rcases h.row.2.2 with ⟨e, _⟩ | ⟨k', cs, e, ho, _⟩
  · rw [e] at hk; simp [rowBlk] at hk
  · rw [e] at hk; simp [rowBlk] at hk; subst hk; exact ⟨cs, ho⟩
theorem MdAt.lt (h : MdAt w q M) {k : Nat} (hk : k ∈ M.foot q) : k < w.heap.size := by
  simp only [MSt.foot, List.mem_cons] at hk
  rcases hk with e | e | e
  · rw [e]; exact h.own.lt
  · rw [e]; exact Own.lt h.cur
  · exact h.row.lt k e
theorem mdNew_ok {R : Option Addr → World → Prop} (hR : ∀ q M w', (∀ k ∈ M.foot q, w.heap.size ≤ k) → MdAt w' q M → M.A = (gs L0) → M.A0 = M.A → M.H = [] → Ext [] w w' → R (some ⟨q, 0, none⟩) w') : rlogm_New.Call w R := by
  apply rlogm_New.sound
  unfold rlogm_New.B0
  refine New.mk fun s w1 hs hs1 os1 he1 => New.mk fun q w2 hq hs2 oq2 he2 => LdP.mk oq2 rfl ?_
  have hst : StAt w2 s (gs L0) := he2.own os1 (by simp)
  refine cloneL_ok hst fun n w3 hn hn2 hst3 he3 => Sts.mk (he3.own oq2 (by simp)) (by simp) rfl fun w4 hs4 oq4 he4 => ?_
  refine hR q ⟨s, n, none, 0, (gs L0), (gs L0), []⟩ w4 (fun k hk => ?_) ⟨oq4, he4.own (he3.own hst (by simp)) (by simp; omega), he4.own hst3 (by simp; omega), Row.nil _ _ _, fun e he => (by cases he), by show s ≠ n; omega, fun e he => (by cases he)⟩ rfl rfl rfl (((he1.trans he2).trans he3).trans' he4 (fun x hx hlt => by simp at hx; omega))
  simp [MSt.foot, rowBlk] at hk
  omega
theorem mdSteps_ok {R : Int → World → Prop} (h : MdAt w q M) (hR : R (M.H.length : Int) w) : rlogm_Log_Steps.Call (some ⟨q, 0, none⟩) w R := by
  apply rlogm_Log_Steps.sound
  unfold rlogm_Log_Steps.B0
  exact Pn.mk (LdL.cell (by rw [add_mk]; exact h.own.cell rfl) hR)
theorem mdMark_ok {R : World → Prop} (h : MdAt w q M) (hR : ∀ n w', w.heap.size ≤ n → MdAt w' q { M with mb := n, A0 := M.A, H := [], hb := none, hc := 0 } → Ext [q] w w' → R w') : rlogm_Log_Mark.Call (some ⟨q, 0, none⟩) w R := by
  apply rlogm_Log_Mark.sound
  unfold rlogm_Log_Mark.B0
  have hql := h.own.lt
  have hsl := Own.lt h.cur
  have hqs : M.s ≠ q := Own.ne_type h.cur h.own (by decide)
  refine Pn.mk (LdP.mk h.own rfl (cloneL_ok h.cur fun n w1 hn hn2 hst1 he1 => Pn.mk ?_))
  rw [add_mk, Nat.zero_add]
  refine Sts.mk (he1.own h.own (by simp)) (by simp) rfl fun w2 hs2 oq2 he2 => Pn.mk ?_
  rw [add_mk, Nat.zero_add]
  refine Sts.mk oq2 (by simp [size_putArr]) rfl fun w3 hs3 oq3 he3 => ?_
  have E3 : Ext [q] w1 w3 := he2.trans he3
  exact hR n w3 hn ⟨oq3, E3.own (he1.own h.cur (by simp)) (by simpa using hqs), E3.own hst1 (by simp; omega), Row.nil _ _ _, fun e he => (by cases he), by show M.s ≠ n; omega, fun e he => (by cases he)⟩ (he1.nil.trans E3)
theorem mdStep_ok {R : World → Prop} (h : MdAt w q M) (hl : M.H.length ≤ 1000) (hR : ∀ n hb hc w', w.heap.size ≤ n → MdAt w' q { M with hb := hb, hc := hc, H := M.H ++ [(n, M.A)] } → Ext (q :: rowBlk M.hb) w w' → (∀ k ∈ rowBlk hb, k ∈ rowBlk M.hb ∨ w.heap.size ≤ k) → R w') : rlogm_Log_step.Call (some ⟨q, 0, none⟩) w R := by
  apply rlogm_Log_step.sound
  unfold rlogm_Log_step.B0
  have hql := h.own.lt
  have hsl := Own.lt h.cur
  have hqs : M.s ≠ q := Own.ne_type h.cur h.own (by decide)
  refine Pn.mk (LdP.mk h.own rfl (cloneL_ok h.cur fun n w1 hn hn2 hst1 he1 => ?_))
  have h1 := h.ext0 he1
  refine Pn.mk (LdL.cell (by rw [add_mk]; exact h1.own.cell rfl) (New.mk fun nb w2 hnb hs2 onb he2 => ?_))
  have h2 := h1.ext0 he2
  refine Vc.Append.mk (news := [.pointer (some ⟨n, 0, none⟩)]) h2.row (CellsAt.own onb (fun j v hj => by simpa using hj)) rfl rfl rfl (by omega) (by omega) fun hb hc w3 hrow3 hE3 hb3 => Pn.mk ?_
  have hqr : ∀ {k : Nat}, k ∈ rowBlk M.hb → ∃ cs, Own w2 k cs PTS := fun hk => h2.rowT hk
  have hown3 := hE3.own h2.own (fun hk => by obtain ⟨_, ho⟩ := hqr hk; exact Own.ne_type h2.own ho (by decide) rfl)
  have st3 : ∀ {k : Nat} {B : GS}, StAt w2 k B → StAt w3 k B := fun {k B} hk => hE3.own hk (fun hx => by obtain ⟨_, ho⟩ := hqr hx; exact Own.ne_type hk ho (by decide) rfl)
  rw [add_mk, Nat.zero_add]
  refine Sts.mk hown3 (by simp) rfl fun w4 hs4 oq4 he4 => ?_
  have st4 : ∀ {k : Nat} {B : GS}, StAt w2 k B → StAt w4 k B := fun {k B} hk => he4.own (st3 hk) (fun hx => by simp at hx; subst hx; exact Own.ne_type (st3 hk) hown3 (by decide) rfl)
  have hz1 := he1.size
  have hz2 := he2.size
  have hz3 := hE3.size
  refine hR n hb hc w4 hn ⟨?_, st4 h2.cur, st4 h2.mark, ?_, fun e he => ?_, h.ne, fun e he => ?_⟩ ?_ (fun k hk => ?_)
  · show Own w4 q #[_, _, .slice hb (M.H ++ [(n, M.A)]).length hc] _
    rw [List.length_append]
    exact oq4
  · show Row w4 hb (M.H ++ [(n, M.A)]).length hc 1 PTS (histV (M.H ++ [(n, M.A)]))
    have e1 : histV (M.H ++ [(n, M.A)]) = histV M.H ++ [.pointer (some ⟨n, 0, none⟩)] := by simp [histV]
    rw [List.length_append, e1]
    refine hrow3.ext he4 (fun k hk hx => ?_)
    simp at hx
    subst hx
    rcases hrow3.2.2 with ⟨e, _⟩ | ⟨k', cs, e, ho, _⟩
    · rw [e] at hk; simp [rowBlk] at hk
    · rw [e] at hk; simp [rowBlk] at hk; subst hk; exact Own.ne_type hown3 ho (by decide) rfl
  · rcases List.mem_append.1 he with he | he
    · exact st4 (h2.hist e he)
    · simp at he
      subst he
      exact st4 (he2.own hst1 (by simp))
  · rcases List.mem_append.1 he with he | he
    · exact h.neH e he
    · simp at he
      subst he
      show n ≠ M.s
      omega
  · have e1 : Ext (q :: rowBlk M.hb) w w2 := (he1.trans he2).nil
    exact (e1.trans (hE3.mono (fun x hx _ => List.mem_cons_of_mem _ hx))).trans (he4.mono (fun x hx _ => by simp at hx; simp [hx]))
  · rcases hb3 k hk with q1 | q1
    · exact .inl q1
    · exact .inr (by omega)
/-- A change of the current state. -/
theorem MdAt.stS {o : Nat} {vs : List Value} {A' : GS} {K : World → Prop} (h : MdAt w q M) (ho : o + vs.length ≤ 18) (h1 : vs.all Value.oneCell' = true) (hg : ∀ j, j < 18 → fnPut (gF M.A.L M.A.n) o vs j = gF A'.L A'.n j) (hK : ∀ w', w'.heap.size = w.heap.size → MdAt w' q { M with A := A' } → Ext [M.s] w w' → K w') : Sts vs ⟨M.s, o, none⟩ 0 w K := by
  refine Sts.fn h.cur ho h1 hg fun w' hs hc he => hK w' hs ⟨he.own h.own ?_, hc, he.own h.mark ?_, h.row.ext he (fun k hk hx => ?_), fun e hm => he.own (h.hist e hm) ?_, h.ne, h.neH⟩ he
  · have := Own.ne_type h.own h.cur (by decide)
    simpa using this
  · have := h.ne
    simp
    exact fun e => this e.symm
  · simp at hx
    subst hx
    obtain ⟨_, hoo⟩ := h.rowT hk
    exact Own.ne_type h.cur hoo (by decide) rfl
  · have := h.neH e hm
    simpa using this
/-- The model's state behind k of its steps. -/
def MSt.at (M : MSt) (k : Int) : GS := if k ≤ 0 then M.A0 else match M.H[(min k M.H.length - 1).toNat]? with
  | some e => e.2
  | none => M.A0
theorem mdAfter_ok {k : Int} {R : Option Addr → World → Prop} (h : MdAt w q M) (hl : M.H.length ≤ 1000) (hR : ∀ q' M' w', (∀ x ∈ M'.foot q', w.heap.size ≤ x) → MdAt w' q' M' → M'.A = M.at k → M'.A0 = M.at k → M'.H = [] → Ext [] w w' → R (some ⟨q', 0, none⟩) w') : rlogm_Log_After.Call (some ⟨q, 0, none⟩) k w R := by
  apply rlogm_Log_After.sound
  unfold rlogm_Log_After.B0
  have b2 : ∀ (s : Nat) (A : GS), StAt w s A → A = M.at k → rlogm_Log_After.B2 (some ⟨s, 0, none⟩) w R := fun s A hs hA => by
    unfold rlogm_Log_After.B2
    refine New.mk fun q' w1 hq' hs1 oq1 he1 => cloneL_ok (he1.own hs (by simp)) fun n1 w2 hn1 hn1' st2 he2 => Sts.mk (he2.own oq1 (by simp)) (by simp) rfl fun w3 hs3 oq3 he3 => ?_
    have E3 : Ext [] w w3 := (he1.trans he2).trans' he3 (fun x hx hlt => by simp at hx; omega)
    have hz1 := he1.size
    have hz2 := he2.size
    have st3 : StAt w3 n1 A := he3.own st2 (by simp; omega)
    refine cloneL_ok (E3.own hs (by simp)) fun n2 w4 hn2 hn2' st4 he4 => Sts.mk (he4.own oq3 (by simp)) (by simp [size_putArr]) rfl fun w5 hs5 oq5 he5 => ?_
    have hz4 := he4.size
    refine hR q' ⟨n1, n2, none, 0, A, A, []⟩ w5 (fun x hx => ?_) ⟨oq5, he5.own (he4.own st3 (by simp)) (by simp; omega), he5.own st4 (by simp; omega), Row.nil _ _ _, fun e he => (by cases he), by show n1 ≠ n2; omega, fun e he => (by cases he)⟩ hA hA rfl ((E3.trans he4).trans' he5 (fun x hx hlt => by simp at hx; omega))
    simp [MSt.foot, rowBlk] at hx
    omega
  have b1 : ∀ kk : Int, kk = min k M.H.length → kk ≤ M.H.length → rlogm_Log_After.B1 (some ⟨q, 0, none⟩) kk (some ⟨M.mb, 0, none⟩) w R := fun kk hk1 hk2 => by
    unfold rlogm_Log_After.B1
    refine Bm.ite (fun hp => ?_) (fun hp => b2 M.mb M.A0 h.mark ?_)
    · have hlt : (kk - 1).toNat < M.H.length := by omega
      have hg : M.H[(kk - 1).toNat]? = some M.H[(kk - 1).toNat] := List.getElem?_eq_getElem hlt
      have hm : M.H[(kk - 1).toNat] ∈ M.H := List.getElem_mem hlt
      generalize M.H[(kk - 1).toNat] = e at hg hm
      obtain ⟨rk, hrk, cs, hok, hc⟩ := h.row.at (i := (kk - 1).toNat) hlt (by omega)
      refine Pn.mk (LdL.cell (by rw [add_mk]; exact h.own.cell rfl) ?_)
      rw [hrk, w64 (by omega) (by omega)]
      refine Pn.mk ⟨⟨by omega, by omega⟩, LdP.cell (n := some ⟨e.1, 0, none⟩) ?_ (b2 e.1 e.2 (h.hist e hm) ?_)⟩
      · rw [add_mk, Nat.zero_add, hok.cell_eq]
        have := hc 0 (by omega)
        rw [Nat.add_zero] at this
        rw [this, Nat.mul_one]
        unfold histV
        rw [List.getElem?_map, hg]
        rfl
      · unfold MSt.at
        rw [if_neg (by omega), ← hk1, hg]
    · unfold MSt.at
      by_cases h0 : k ≤ 0
      · rw [if_pos h0]
      · rw [if_neg h0]
        have : M.H.length = 0 := by omega
        rw [List.getElem?_eq_none (by omega)]
  refine Pn.mk (LdP.cell (by rw [add_mk]; exact h.own.cell rfl) (Pn.mk (LdL.cell (by rw [add_mk]; exact h.own.cell rfl) (Bm.ite (fun hk => Pn.mk (LdL.cell (by rw [add_mk]; exact h.own.cell rfl) (b1 _ (by omega) (by omega)))) (fun hk => b1 _ (by omega) (by omega))))))
end
end Go.Proofs.Qxb6500430aGreat
