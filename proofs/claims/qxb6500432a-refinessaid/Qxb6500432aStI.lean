/-
  store: the model's calls.
-/
import Derived.Test.Qxb6500432aStH
set_option linter.unusedVariables false
set_option linter.unusedSimpArgs false
open Go.Vc
namespace Go.Proofs.Qxb6500432a

abbrev PTS : TypeId := 88
structure MSt where
  s : Nat
  mb : Nat
  hb : Option Addr
  hc : Nat
  A : AbsS
  A0 : AbsS
  H : List (Nat × AbsS)
def histV (H : List (Nat × AbsS)) : List Value := H.map fun e => .pointer (some ⟨e.1, 0, none⟩)
structure MdAt (w : World) (q : Nat) (M : MSt) : Prop where
  own : Own w q #[.pointer (some ⟨M.s, 0, none⟩), .pointer (some ⟨M.mb, 0, none⟩), .slice M.hb M.H.length M.hc] T_storem_Store
  cur : StAt w M.s M.A
  mark : StAt w M.mb M.A0
  row : Row w M.hb M.H.length M.hc 1 PTS (histV M.H)
  hist : ∀ e ∈ M.H, StAt w e.1 e.2
  ne : M.s ≠ M.mb
  neH : ∀ e ∈ M.H, e.1 ≠ M.s
def MSt.foot (M : MSt) (q : Nat) : List Nat := q :: M.s :: rowBlk M.hb
section
variable {w w' : World} {q : Nat} {M : MSt}
/-- Blocks of other types do no harm. -/
theorem MdAt.extT {S : List Nat} (h : MdAt w q M) (he : Ext S w w') (hs : ∀ k ∈ S, ∀ cs t, Own w k cs t → t ≠ T_storem_Store ∧ t ≠ T_storem_state ∧ t ≠ PTS) : MdAt w' q M :=
  ⟨he.own h.own (fun hk => (hs q hk _ _ h.own).1 rfl), he.own h.cur (fun hk => (hs _ hk _ _ h.cur).2.1 rfl), he.own h.mark (fun hk => (hs _ hk _ _ h.mark).2.1 rfl), h.row.ext he (fun k hk hS => by
    rcases h.row.2.2 with ⟨e, _⟩ | ⟨k', cs, e, ho, _⟩
    · rw [e] at hk; simp [rowBlk] at hk
    · rw [e] at hk; simp [rowBlk] at hk; subst hk; exact (hs _ hS _ _ ho).2.2 rfl), fun e hm => he.own (h.hist e hm) (fun hk => (hs _ hk _ _ (h.hist e hm)).2.1 rfl), h.ne, h.neH⟩
theorem MdAt.ext0 (h : MdAt w q M) (he : Ext [] w w') : MdAt w' q M := h.extT he (fun k hk => by cases hk)
theorem MdAt.rowT (h : MdAt w q M) {k : Nat} (hk : k ∈ rowBlk M.hb) : ∃ cs, Own w k cs PTS := by
  rcases h.row.2.2 with ⟨e, _⟩ | ⟨k', cs, e, ho, _⟩
  · rw [e] at hk; simp [rowBlk] at hk
  · rw [e] at hk; simp [rowBlk] at hk; subst hk; exact ⟨cs, ho⟩
theorem MdAt.lt (h : MdAt w q M) {k : Nat} (hk : k ∈ M.foot q) : k < w.heap.size := by
  simp only [MSt.foot, List.mem_cons] at hk
  rcases hk with e | e | e
  · rw [e]; exact h.own.lt
  · rw [e]; exact Own.lt h.cur
  · exact h.row.lt k e
theorem mdNew_ok {R : Option Addr → World → Prop} (hR : ∀ q M w', (∀ k ∈ M.foot q, w.heap.size ≤ k) → MdAt w' q M → M.A = ⟨0, -1, 0, 0, estr, fun _ => false, fun _ => ⟨0, 0, estr⟩⟩ → M.A0 = M.A → M.H = [] → Ext [] w w' → R (some ⟨q, 0, none⟩) w') : storem_New.Call w R := by
  apply storem_New.sound
  unfold storem_New.B0
  refine New.mk fun s w1 hs hs1 os1 he1 => New.mk fun q w2 hq hs2 oq2 he2 => LdP.mk oq2 rfl ?_
  have hst : StAt w2 s ⟨0, -1, 0, 0, estr, fun _ => false, fun _ => ⟨0, 0, estr⟩⟩ := he2.own os1 (by simp)
  refine clone_ok hst fun n w3 hn hn2 hst3 he3 => Sts.mk (he3.own oq2 (by simp)) (by simp) rfl fun w4 hs4 oq4 he4 => ?_
  refine hR q ⟨s, n, none, 0, ⟨0, -1, 0, 0, estr, fun _ => false, fun _ => ⟨0, 0, estr⟩⟩, ⟨0, -1, 0, 0, estr, fun _ => false, fun _ => ⟨0, 0, estr⟩⟩, []⟩ w4 (fun k hk => ?_) ⟨oq4, he4.own (he3.own hst (by simp)) (by simp; omega), he4.own hst3 (by simp; omega), Row.nil _ _ _, fun e he => (by cases he), by show s ≠ n; omega, fun e he => (by cases he)⟩ rfl rfl rfl (((he1.trans he2).trans he3).trans' he4 (fun x hx hlt => by simp at hx; omega))
  simp [MSt.foot, rowBlk] at hk
  omega
theorem mdSteps_ok {R : Int → World → Prop} (h : MdAt w q M) (hR : R (M.H.length : Int) w) : storem_Store_Steps.Call (some ⟨q, 0, none⟩) w R := by
  apply storem_Store_Steps.sound
  unfold storem_Store_Steps.B0
  exact Pn.mk (LdL.cell (by rw [add_mk]; exact h.own.cell rfl) hR)
theorem mdMeta_ok {R : Int → Int → World → Prop} (h : MdAt w q M) (hR : R M.A.term M.A.vote w.drew) : storem_Store_Meta.Call (some ⟨q, 0, none⟩) w R := by
  apply storem_Store_Meta.sound
  unfold storem_Store_Meta.B0
  have hd := h.ext0 (Ext.drew [] w)
  refine Pn.mk (LdP.mk hd.own rfl (Pn.mk (LdI.fn hd.cur (by omega) (show stCell M.A 0 = .int .i64 M.A.term from rfl) (Pn.mk (LdP.mk hd.own rfl (Pn.mk ?_))))))
  rw [add_mk, Nat.zero_add]
  exact LdI.fn hd.cur (by omega) (show stCell M.A 1 = .int .i64 M.A.vote from rfl) hR
theorem mdSnap_ok {R : Int → Int → ByteArray → World → Prop} (h : MdAt w q M) (hR : R M.A.sidx M.A.sterm M.A.snap w.drew) : storem_Store_Snap.Call (some ⟨q, 0, none⟩) w R := by
  apply storem_Store_Snap.sound
  unfold storem_Store_Snap.B0
  have hd := h.ext0 (Ext.drew [] w)
  simp only [Pn]
  refine LdP.mk hd.own rfl ?_
  simp only [Pn, add_mk, Nat.zero_add]
  refine LdI.fn hd.cur (by omega) (show stCell M.A 2 = .int .i64 M.A.sidx from rfl) (LdP.mk hd.own rfl ?_)
  simp only [Pn, add_mk, Nat.zero_add]
  refine LdI.fn hd.cur (by omega) (show stCell M.A 3 = .int .i64 M.A.sterm from rfl) (LdP.mk hd.own rfl ?_)
  simp only [Pn, add_mk, Nat.zero_add]
  exact LdS.fn hd.cur (by omega) (show stCell M.A 4 = .string M.A.snap from rfl) hR
def recAnsA (A : AbsS) (slot : Int) : RecS × Int := if slot < 0 ∨ 6 ≤ slot then (⟨0, 0, estr⟩, 1) else if A.used slot.toNat then (A.recs slot.toNat, 0) else (⟨0, 0, estr⟩, 2)
theorem mdRec_ok {slot : Int} {R : Int → Int → ByteArray → Int → World → Prop} (h : MdAt w q M) (hR : ∀ w', Ext [] w w' → R (recAnsA M.A slot).1.idx (recAnsA M.A slot).1.term (recAnsA M.A slot).1.data (recAnsA M.A slot).2 w') : storem_Store_Rec.Call (some ⟨q, 0, none⟩) slot w R := by
  apply storem_Store_Rec.sound
  unfold storem_Store_Rec.B0
  refine New.mk fun r w1 hr hs1 or1 he1 => ?_
  have h1 := h.ext0 he1
  have bad : (slot < 0 ∨ 6 ≤ slot) → storem_Store_Rec.B1 (some ⟨q, 0, none⟩) slot r true w1 R := fun hq => by
    have e : recAnsA M.A slot = (⟨0, 0, estr⟩, 1) := by unfold recAnsA; rw [if_pos hq]
    rw [e] at hR
    unfold storem_Store_Rec.B1
    exact Bm.pos rfl (Sts.full or1 rfl rfl fun w2 hs2 or2 he2 => LdI.mk or2 rfl (LdI.mk or2 rfl (LdS.mk or2 rfl (hR w2 (he1.trans' he2 fun x hx hl => by simp at hx; omega)))))
  refine Bm.ite (fun hq => bad (.inl hq)) (fun h0 => ?_)
  by_cases h6 : slot ≥ 6
  · rw [decide_eq_true h6]
    exact bad (.inr h6)
  rw [decide_eq_false h6]
  have hs6 : slot.toNat < 6 := by omega
  unfold storem_Store_Rec.B1
  refine Bm.neg rfl (Pn.mk (LdP.mk h1.own rfl (Pn.mk ⟨⟨by omega, by omega⟩, ?_⟩)))
  rw [add_mk, add_mk, Nat.mul_one, Nat.zero_add]
  refine LdB.fn h1.cur (by omega) (stCell_used _ hs6) (Bm.mk (fun hu => ?_) (fun hu => ?_))
  · have e : recAnsA M.A slot = (⟨0, 0, estr⟩, 2) := by unfold recAnsA; rw [if_neg (by omega), if_neg (by simpa using hu)]
    rw [e] at hR
    exact Sts.full or1 rfl rfl fun w2 hs2 or2 he2 => LdI.mk or2 rfl (LdI.mk or2 rfl (LdS.mk or2 rfl (hR w2 (he1.trans' he2 fun x hx hl => by simp at hx; omega))))
  · have e : recAnsA M.A slot = (M.A.recs slot.toNat, 0) := by unfold recAnsA; rw [if_neg (by omega), if_pos (by simpa using hu)]
    rw [e] at hR
    refine Pn.mk (LdP.mk h1.own rfl (Pn.mk ⟨⟨by omega, by omega⟩, ?_⟩))
    simp only [add_mk, Nat.zero_add]
    refine LdI.fn h1.cur (by omega) (stCell_idx _ _) (LdI.fn h1.cur (by omega) (stCell_term _ _) (LdS.fn h1.cur (by omega) (stCell_data _ _) ?_))
    exact Sts.full or1 rfl rfl fun w2 hs2 or2 he2 => LdI.mk or2 rfl (LdI.mk or2 rfl (LdS.mk or2 rfl (hR w2 (he1.trans' he2 fun x hx hl => by simp at hx; omega))))
theorem mdMark_ok {R : World → Prop} (h : MdAt w q M) (hR : ∀ n w', w.heap.size ≤ n → MdAt w' q { M with mb := n, A0 := M.A, H := [], hb := none, hc := 0 } → Ext [q] w w' → R w') : storem_Store_Mark.Call (some ⟨q, 0, none⟩) w R := by
  apply storem_Store_Mark.sound
  unfold storem_Store_Mark.B0
  have hql := h.own.lt
  have hsl := Own.lt h.cur
  have hqs : M.s ≠ q := Own.ne_type h.cur h.own (by decide)
  refine Pn.mk (LdP.mk h.own rfl (clone_ok h.cur fun n w1 hn hn2 hst1 he1 => Pn.mk ?_))
  rw [add_mk, Nat.zero_add]
  refine Sts.mk (he1.own h.own (by simp)) (by simp) rfl fun w2 hs2 oq2 he2 => Pn.mk ?_
  rw [add_mk, Nat.zero_add]
  refine Sts.mk oq2 (by simp [size_putArr]) rfl fun w3 hs3 oq3 he3 => ?_
  have E3 : Ext [q] w1 w3 := he2.trans he3
  exact hR n w3 hn ⟨oq3, E3.own (he1.own h.cur (by simp)) (by simpa using hqs), E3.own hst1 (by simp; omega), Row.nil _ _ _, fun e he => (by cases he), by show M.s ≠ n; omega, fun e he => (by cases he)⟩ (he1.nil.trans E3)
theorem mdStep_ok {R : World → Prop} (h : MdAt w q M) (hl : M.H.length ≤ 1000) (hR : ∀ n hb hc w', w.heap.size ≤ n → MdAt w' q { M with hb := hb, hc := hc, H := M.H ++ [(n, M.A)] } → Ext (q :: rowBlk M.hb) w w' → (∀ k ∈ rowBlk hb, k ∈ rowBlk M.hb ∨ w.heap.size ≤ k) → R w') : storem_Store_step.Call (some ⟨q, 0, none⟩) w R := by
  apply storem_Store_step.sound
  unfold storem_Store_step.B0
  have hql := h.own.lt
  have hsl := Own.lt h.cur
  have hqs : M.s ≠ q := Own.ne_type h.cur h.own (by decide)
  refine Pn.mk (LdP.mk h.own rfl (clone_ok h.cur fun n w1 hn hn2 hst1 he1 => ?_))
  have h1 := h.ext0 he1
  refine Pn.mk (LdL.cell (by rw [add_mk]; exact h1.own.cell rfl) (New.mk fun nb w2 hnb hs2 onb he2 => ?_))
  have h2 := h1.ext0 he2
  refine Vc.Append.mk (news := [.pointer (some ⟨n, 0, none⟩)]) h2.row (CellsAt.own onb (fun j v hj => by simpa using hj)) rfl rfl rfl (by omega) (by omega) fun hb hc w3 hrow3 hE3 hb3 => Pn.mk ?_
  have hqr : ∀ {k : Nat}, k ∈ rowBlk M.hb → ∃ cs, Own w2 k cs PTS := fun hk => h2.rowT hk
  have hown3 := hE3.own h2.own (fun hk => by obtain ⟨_, ho⟩ := hqr hk; exact Own.ne_type h2.own ho (by decide) rfl)
  have st3 : ∀ {k : Nat} {B : AbsS}, StAt w2 k B → StAt w3 k B := fun {k B} hk => hE3.own hk (fun hx => by obtain ⟨_, ho⟩ := hqr hx; exact Own.ne_type hk ho (by decide) rfl)
  rw [add_mk, Nat.zero_add]
  refine Sts.mk hown3 (by simp) rfl fun w4 hs4 oq4 he4 => ?_
  have st4 : ∀ {k : Nat} {B : AbsS}, StAt w2 k B → StAt w4 k B := fun {k B} hk => he4.own (st3 hk) (fun hx => by simp at hx; subst hx; exact Own.ne_type (st3 hk) hown3 (by decide) rfl)
  have hz1 := he1.size
  have hz2 := he2.size
  have hz3 := hE3.size
  refine hR n hb hc w4 hn ⟨?_, st4 h2.cur, st4 h2.mark, ?_, fun e he => ?_, h.ne, fun e he => ?_⟩ ?_ (fun k hk => ?_)
  · show Own w4 q #[_, _, .slice hb (M.H ++ [(n, M.A)]).length hc] _
    rw [List.length_append]
    exact oq4
  · show Row w4 hb (M.H ++ [(n, M.A)]).length hc 1 PTS (histV (M.H ++ [(n, M.A)]))
    have e1 : histV (M.H ++ [(n, M.A)]) = histV M.H ++ [.pointer (some ⟨n, 0, none⟩)] := by simp [histV]
    rw [List.length_append, e1]
    refine hrow3.ext he4 (fun k hk hx => ?_)
    simp at hx
    subst hx
    rcases hrow3.2.2 with ⟨e, _⟩ | ⟨k', cs, e, ho, _⟩
    · rw [e] at hk; simp [rowBlk] at hk
    · rw [e] at hk; simp [rowBlk] at hk; subst hk; exact Own.ne_type hown3 ho (by decide) rfl
  · rcases List.mem_append.1 he with he | he
    · exact st4 (h2.hist e he)
    · simp at he
      subst he
      exact st4 (he2.own hst1 (by simp))
  · rcases List.mem_append.1 he with he | he
    · exact h.neH e he
    · simp at he
      subst he
      show n ≠ M.s
      omega
  · have e1 : Ext (q :: rowBlk M.hb) w w2 := (he1.trans he2).nil
    exact (e1.trans (hE3.mono (fun x hx _ => List.mem_cons_of_mem _ hx))).trans (he4.mono (fun x hx _ => by simp at hx; simp [hx]))
  · rcases hb3 k hk with q1 | q1
    · exact .inl q1
    · exact .inr (by omega)
/-- A change of the current state. -/
theorem MdAt.stS {o : Nat} {vs : List Value} {A' : AbsS} {K : World → Prop} (h : MdAt w q M) (ho : o + vs.length ≤ 29) (h1 : vs.all Value.oneCell' = true) (hg : ∀ j, j < 29 → fnPut (stCell M.A) o vs j = stCell A' j) (hK : ∀ w', w'.heap.size = w.heap.size → MdAt w' q { M with A := A' } → Ext [M.s] w w' → K w') : Sts vs ⟨M.s, o, none⟩ 0 w K := by
  refine Sts.fn h.cur ho h1 hg fun w' hs hc he => hK w' hs ⟨he.own h.own ?_, hc, he.own h.mark ?_, h.row.ext he (fun k hk hx => ?_), fun e hm => he.own (h.hist e hm) ?_, h.ne, h.neH⟩ he
  · have := Own.ne_type h.own h.cur (by decide)
    simpa using this
  · have := h.ne
    simp
    exact fun e => this e.symm
  · simp at hx
    subst hx
    obtain ⟨_, hoo⟩ := h.rowT hk
    exact Own.ne_type h.cur hoo (by decide) rfl
  · have := h.neH e hm
    simpa using this
/-- What a changing call of the model leaves. -/
structure MStep (w : World) (q : Nat) (M : MSt) (A' : AbsS) (M' : MSt) (w' : World) : Prop where
  at_ : MdAt w' q M'
  s : M'.s = M.s
  A : M'.A = A'
  A0 : M'.A0 = M.A0
  H : ∃ n, M'.H = M.H ++ [(n, A')]
  ext : Ext (M.foot q) w w'
  grew : Grew w (M.foot q) (M'.foot q)
theorem mdFin {A' : AbsS} {w1 : World} {R : Int → World → Prop} (h1 : MdAt w1 q { M with A := A' }) (hl : M.H.length ≤ 1000) (he : Ext [M.s] w w1) (hR : ∀ M' w', MStep w q M A' M' w' → R 0 w') : storem_Store_step.Call (some ⟨q, 0, none⟩) w1 fun w3 => R 0 w3 := by
  refine mdStep_ok h1 hl fun n hb hc w2 hn h2 he2 hb2 => ?_
  have hz := he.size
  refine hR _ w2 ⟨h2, rfl, rfl, rfl, ⟨n, rfl⟩, ?_, fun k hk => ?_⟩
  · refine (he.mono (fun x hx _ => by simp at hx; simp [MSt.foot, hx])).trans (he2.mono (fun x hx _ => ?_))
    simp only [List.mem_cons] at hx
    simp only [MSt.foot, List.mem_cons]
    rcases hx with e | e
    · exact .inl e
    · exact .inr (.inr e)
  · simp only [MSt.foot, List.mem_cons] at hk ⊢
    rcases hk with e | e | e
    · exact .inl (.inl e)
    · exact .inl (.inr (.inl e))
    · rcases hb2 k e with q1 | q1
      · exact .inl (.inr (.inr q1))
      · exact .inr (by omega)
theorem mdSetMeta_ok {term vote : Int} {R : Int → World → Prop} (h : MdAt w q M) (hl : M.H.length ≤ 1000) (hE : metaErr term vote ≠ 0 → R (metaErr term vote) w) (hR : metaErr term vote = 0 → ∀ M' w', MStep w q M { M.A with term := term, vote := vote } M' w' → R 0 w') : storem_Store_SetMeta.Call (some ⟨q, 0, none⟩) term vote w R := by
  apply storem_Store_SetMeta.sound
  unfold storem_Store_SetMeta.B0
  have bad : (term < 0 ∨ 72057594037927936 < term ∨ vote < -1 ∨ 3 ≤ vote) → storem_Store_SetMeta.B1 (some ⟨q, 0, none⟩) term vote true w R := fun hq => by
    have e : metaErr term vote = 1 := by unfold metaErr; rw [if_pos hq]
    unfold storem_Store_SetMeta.B1
    rw [e] at hE
    exact Bm.pos rfl (hE (by omega))
  refine Bm.ite (fun h => bad (.inl h)) (fun h1 => Bm.ite (fun h => bad (.inr (.inl h))) (fun h2 => Bm.ite (fun h => bad (.inr (.inr (.inl h)))) (fun h3 => ?_)))
  by_cases h4 : vote ≥ 3
  · rw [decide_eq_true h4]
    exact bad (.inr (.inr (.inr h4)))
  rw [decide_eq_false h4]
  have e0 : metaErr term vote = 0 := by unfold metaErr; rw [if_neg (by omega)]
  unfold storem_Store_SetMeta.B1
  have hd := h.ext0 (Ext.drew [] w)
  refine Bm.neg rfl (Pn.mk (LdP.mk hd.own rfl (Pn.mk (LdP.mk hd.own rfl (Pn.mk (hd.stS (o := 0) (by simp) rfl (sput_term _ _) fun w1 hs1 hd1 he1 => Pn.mk ?_))))))
  rw [add_mk, Nat.zero_add]
  refine hd1.stS (o := 1) (by simp) rfl (sput_vote _ _) fun w2 hs2 hd2 he2 => ?_
  exact mdFin (M := M) (A' := { M.A with term := term, vote := vote }) hd2 hl ((Ext.drew [M.s] w).trans (he1.trans he2)) (hR e0)
theorem mdSetSnap_ok {idx term : Int} {data : ByteArray} {R : Int → World → Prop} (h : MdAt w q M) (hl : M.H.length ≤ 1000) (hE : snapErr idx term data.size ≠ 0 → R (snapErr idx term data.size) w) (hR : snapErr idx term data.size = 0 → ∀ M' w', MStep w q M { M.A with sidx := idx, sterm := term, snap := data } M' w' → R 0 w') : storem_Store_SetSnap.Call (some ⟨q, 0, none⟩) idx term data w R := by
  apply storem_Store_SetSnap.sound
  unfold storem_Store_SetSnap.B0
  have bad : (idx < 0 ∨ 72057594037927936 < idx ∨ term < 0 ∨ 72057594037927936 < term) → storem_Store_SetSnap.B1 (some ⟨q, 0, none⟩) idx term data true w R := fun hq => by
    have e : snapErr idx term data.size = 1 := by unfold snapErr; rw [if_pos hq]
    unfold storem_Store_SetSnap.B1
    rw [e] at hE
    exact Bm.pos rfl (hE (by omega))
  refine Bm.ite (fun h => bad (.inl h)) (fun h1 => Bm.ite (fun h => bad (.inr (.inl h))) (fun h2 => Bm.ite (fun h => bad (.inr (.inr (.inl h)))) (fun h3 => ?_)))
  by_cases h4 : term > 72057594037927936
  · rw [decide_eq_true h4]
    exact bad (.inr (.inr (.inr h4)))
  rw [decide_eq_false h4]
  unfold storem_Store_SetSnap.B1
  refine Bm.neg rfl (Bm.ite (fun h5 => ?_) (fun h5 => ?_))
  · have e : snapErr idx term data.size = 5 := by unfold snapErr; rw [if_neg (by omega), if_pos (by omega)]
    rw [e] at hE
    exact hE (by omega)
  have e0 : snapErr idx term data.size = 0 := by unfold snapErr; rw [if_neg (by omega), if_neg (by omega)]
  have hd := h.ext0 (Ext.drew [] w)
  refine Pn.mk (LdP.mk hd.own rfl (Pn.mk (LdP.mk hd.own rfl (Pn.mk (LdP.mk hd.own rfl (Pn.mk ?_))))))
  rw [add_mk, Nat.zero_add]
  refine hd.stS (o := 2) (by simp) rfl (sput_sidx _ _) fun w1 hs1 hd1 he1 => Pn.mk ?_
  rw [add_mk, Nat.zero_add]
  refine hd1.stS (o := 3) (by simp) rfl (sput_sterm _ _) fun w2 hs2 hd2 he2 => Pn.mk ?_
  rw [add_mk, Nat.zero_add]
  refine hd2.stS (o := 4) (by simp) rfl (sput_snap _ _) fun w3 hs3 hd3 he3 => ?_
  exact mdFin (M := M) (A' := { M.A with sidx := idx, sterm := term, snap := data }) hd3 hl ((Ext.drew [M.s] w).trans ((he1.trans he2).trans he3)) (hR e0)
theorem mdPutRec_ok {slot idx term : Int} {data : ByteArray} {R : Int → World → Prop} (h : MdAt w q M) (hl : M.H.length ≤ 1000) (hE : putErr slot idx term data.size (M.A.used slot.toNat) ≠ 0 → ∀ w', Ext [] w w' → R (putErr slot idx term data.size (M.A.used slot.toNat)) w')
    (hR : putErr slot idx term data.size (M.A.used slot.toNat) = 0 → ∀ M' w', MStep w q M { M.A with used := upd M.A.used slot.toNat true, recs := upd M.A.recs slot.toNat ⟨idx, term, data⟩ } M' w' → R 0 w') : storem_Store_PutRec.Call (some ⟨q, 0, none⟩) slot idx term data w R := by
  apply storem_Store_PutRec.sound
  unfold storem_Store_PutRec.B0
  refine New.mk fun r w1 hr hs1 or1 he1 => ?_
  have hm1 := h.ext0 he1
  have rng : (slot < 0 ∨ 6 ≤ slot) → storem_Store_PutRec.B1 (some ⟨q, 0, none⟩) slot r true w1 R := fun hq => by
    have e : putErr slot idx term data.size (M.A.used slot.toNat) = 1 := by unfold putErr; rw [if_pos hq]
    unfold storem_Store_PutRec.B1
    rw [e] at hE
    exact Bm.pos rfl (hE (by omega) w1 he1)
  refine Bm.ite (fun h => rng (.inl h)) (fun h0 => ?_)
  by_cases h6 : slot ≥ 6
  · rw [decide_eq_true h6]
    exact rng (.inr h6)
  rw [decide_eq_false h6]
  have hs6 : slot.toNat < 6 := by omega
  unfold storem_Store_PutRec.B1
  have bad : (idx < 1 ∨ 72057594037927936 < idx ∨ term < 0 ∨ 72057594037927936 < term ∨ 24 < data.size) → storem_Store_PutRec.B2 (some ⟨q, 0, none⟩) slot r true w1 R := fun hq => by
    have e : putErr slot idx term data.size (M.A.used slot.toNat) = 4 := by unfold putErr; rw [if_neg (by omega), if_pos hq]
    unfold storem_Store_PutRec.B2
    rw [e] at hE
    exact Bm.pos rfl (hE (by omega) w1 he1)
  refine Bm.neg rfl (LdI.mk or1 rfl (Bm.ite (fun h => bad (.inl h)) (fun h1 => LdI.mk or1 rfl (Bm.ite (fun h => bad (.inr (.inl h))) (fun h2 => LdI.mk or1 rfl (Bm.ite (fun h => bad (.inr (.inr (.inl h)))) (fun h3 => LdI.mk or1 rfl (Bm.ite (fun h => bad (.inr (.inr (.inr (.inl h))))) (fun h4 => LdS.mk or1 rfl ?_)))))))))
  by_cases h5 : ((data.size : Nat) : Int) > 24
  · rw [decide_eq_true h5]
    exact bad (.inr (.inr (.inr (.inr (by omega)))))
  rw [decide_eq_false h5]
  unfold storem_Store_PutRec.B2
  refine Bm.neg rfl (Pn.mk (LdP.mk hm1.own rfl (Pn.mk ⟨⟨by omega, by omega⟩, ?_⟩)))
  rw [add_mk, add_mk, Nat.mul_one, Nat.zero_add]
  refine LdB.fn hm1.cur (by omega) (stCell_used _ hs6) (Bm.mk (fun hu => ?_) (fun hu => ?_))
  · have e : putErr slot idx term data.size (M.A.used slot.toNat) = 3 := by unfold putErr; rw [if_neg (by omega), if_neg (by omega), if_pos hu]
    rw [e] at hE
    exact hE (by omega) w1 he1
  have e0 : putErr slot idx term data.size (M.A.used slot.toNat) = 0 := by unfold putErr; rw [if_neg (by omega), if_neg (by omega), if_neg (by simp [hu])]
  have hd := hm1.ext0 (Ext.drew [] w1)
  have or1d := or1.drew
  have hrs : r ≠ M.s := by have := Own.lt h.cur; omega
  refine Pn.mk (LdP.mk hd.own rfl (Pn.mk (LdP.mk hd.own rfl (LdI.mk or1d rfl (LdI.mk or1d rfl (LdS.mk or1d rfl (Pn.mk ⟨⟨by omega, by omega⟩, Pn.mk ?_⟩)))))))
  rw [add_mk, add_mk, Nat.zero_add]
  refine hd.stS (o := 5 + slot.toNat) (by simp; omega) rfl (sput_used _ hs6 _) fun w2 hs2 hd2 he2 => ?_
  have or2 := he2.own or1d (by simpa using hrs)
  refine ⟨or2.cell rfl, or2.cell rfl, or2.cell rfl, ⟨by omega, by omega⟩, ?_⟩
  rw [add_mk, add_mk, Nat.zero_add]
  refine hd2.stS (o := 11 + slot.toNat * 3) (by simp; omega) rfl (sput_rec _ hs6 ⟨idx, term, data⟩) fun w3 hs3 hd3 he3 => ?_
  exact mdFin (M := M) (A' := { M.A with used := upd M.A.used slot.toNat true, recs := upd M.A.recs slot.toNat ⟨idx, term, data⟩ }) hd3 hl (he1.nil.trans ((Ext.drew [M.s] w1).trans (he2.trans he3))) (hR e0)
theorem mdDelRec_ok {slot : Int} {R : Int → World → Prop} (h : MdAt w q M) (hl : M.H.length ≤ 1000) (hE : delErr slot (M.A.used slot.toNat) ≠ 0 → R (delErr slot (M.A.used slot.toNat)) w)
    (hR : delErr slot (M.A.used slot.toNat) = 0 → ∀ M' w', MStep w q M { M.A with used := upd M.A.used slot.toNat false, recs := upd M.A.recs slot.toNat ⟨0, 0, estr⟩ } M' w' → R 0 w') : storem_Store_DelRec.Call (some ⟨q, 0, none⟩) slot w R := by
  apply storem_Store_DelRec.sound
  unfold storem_Store_DelRec.B0
  have rng : (slot < 0 ∨ 6 ≤ slot) → storem_Store_DelRec.B1 (some ⟨q, 0, none⟩) slot true w R := fun hq => by
    have e : delErr slot (M.A.used slot.toNat) = 1 := by unfold delErr; rw [if_pos hq]
    unfold storem_Store_DelRec.B1
    rw [e] at hE
    exact Bm.pos rfl (hE (by omega))
  refine Bm.ite (fun h => rng (.inl h)) (fun h0 => ?_)
  by_cases h6 : slot ≥ 6
  · rw [decide_eq_true h6]
    exact rng (.inr h6)
  rw [decide_eq_false h6]
  have hs6 : slot.toNat < 6 := by omega
  unfold storem_Store_DelRec.B1
  refine Bm.neg rfl (Pn.mk (LdP.mk h.own rfl (Pn.mk ⟨⟨by omega, by omega⟩, ?_⟩)))
  rw [add_mk, add_mk, Nat.mul_one, Nat.zero_add]
  refine LdB.fn h.cur (by omega) (stCell_used _ hs6) (Bm.mk (fun hu => ?_) (fun hu => ?_))
  · have hu' : M.A.used slot.toNat = false := by simpa using hu
    have e : delErr slot (M.A.used slot.toNat) = 2 := by unfold delErr; rw [if_neg (by omega), if_neg (by simp [hu'])]
    rw [e] at hE
    exact hE (by omega)
  have hu' : M.A.used slot.toNat = true := by simpa using hu
  have e0 : delErr slot (M.A.used slot.toNat) = 0 := by unfold delErr; rw [if_neg (by omega), if_pos hu']
  have hd := h.ext0 (Ext.drew [] w)
  refine Pn.mk (LdP.mk hd.own rfl (Pn.mk (LdP.mk hd.own rfl (Pn.mk ⟨⟨by omega, by omega⟩, Pn.mk ?_⟩))))
  rw [add_mk, add_mk, Nat.zero_add]
  refine hd.stS (o := 5 + slot.toNat) (by simp; omega) rfl (sput_used _ hs6 _) fun w2 hs2 hd2 he2 => ⟨⟨by omega, by omega⟩, ?_⟩
  rw [add_mk, add_mk, Nat.zero_add]
  refine hd2.stS (o := 11 + slot.toNat * 3) (by simp; omega) rfl (sput_rec _ hs6 ⟨0, 0, estr⟩) fun w3 hs3 hd3 he3 => ?_
  exact mdFin (M := M) (A' := { M.A with used := upd M.A.used slot.toNat false, recs := upd M.A.recs slot.toNat ⟨0, 0, estr⟩ }) hd3 hl ((Ext.drew [M.s] w).trans (he2.trans he3)) (hR e0)
/-- The model's state behind k of its steps. -/
def MSt.at (M : MSt) (k : Int) : AbsS := if k ≤ 0 then M.A0 else match M.H[(min k M.H.length - 1).toNat]? with
  | some e => e.2
  | none => M.A0
theorem mdAfter_ok {k : Int} {R : Option Addr → World → Prop} (h : MdAt w q M) (hl : M.H.length ≤ 1000) (hR : ∀ q' M' w', (∀ x ∈ M'.foot q', w.heap.size ≤ x) → MdAt w' q' M' → M'.A = M.at k → M'.A0 = M.at k → M'.H = [] → Ext [] w w' → R (some ⟨q', 0, none⟩) w') : storem_Store_After.Call (some ⟨q, 0, none⟩) k w R := by
  apply storem_Store_After.sound
  unfold storem_Store_After.B0
  have b2 : ∀ (s : Nat) (A : AbsS), StAt w s A → A = M.at k → storem_Store_After.B2 (some ⟨s, 0, none⟩) w R := fun s A hs hA => by
    unfold storem_Store_After.B2
    refine New.mk fun q' w1 hq' hs1 oq1 he1 => clone_ok (he1.own hs (by simp)) fun n1 w2 hn1 hn1' st2 he2 => Sts.mk (he2.own oq1 (by simp)) (by simp) rfl fun w3 hs3 oq3 he3 => ?_
    have E3 : Ext [] w w3 := (he1.trans he2).trans' he3 (fun x hx hlt => by simp at hx; omega)
    have hz1 := he1.size
    have hz2 := he2.size
    have st3 : StAt w3 n1 A := he3.own st2 (by simp; omega)
    refine clone_ok (E3.own hs (by simp)) fun n2 w4 hn2 hn2' st4 he4 => Sts.mk (he4.own oq3 (by simp)) (by simp [size_putArr]) rfl fun w5 hs5 oq5 he5 => ?_
    have hz4 := he4.size
    refine hR q' ⟨n1, n2, none, 0, A, A, []⟩ w5 (fun x hx => ?_) ⟨oq5, he5.own (he4.own st3 (by simp)) (by simp; omega), he5.own st4 (by simp; omega), Row.nil _ _ _, fun e he => (by cases he), by show n1 ≠ n2; omega, fun e he => (by cases he)⟩ hA hA rfl ((E3.trans he4).trans' he5 (fun x hx hlt => by simp at hx; omega))
    simp [MSt.foot, rowBlk] at hx
    omega
  have b1 : ∀ kk : Int, kk = min k M.H.length → kk ≤ M.H.length → storem_Store_After.B1 (some ⟨q, 0, none⟩) kk (some ⟨M.mb, 0, none⟩) w R := fun kk hk1 hk2 => by
    unfold storem_Store_After.B1
    refine Bm.ite (fun hp => ?_) (fun hp => b2 M.mb M.A0 h.mark ?_)
    · have hlt : (kk - 1).toNat < M.H.length := by omega
      have hg : M.H[(kk - 1).toNat]? = some M.H[(kk - 1).toNat] := List.getElem?_eq_getElem hlt
      have hm : M.H[(kk - 1).toNat] ∈ M.H := List.getElem_mem hlt
      generalize M.H[(kk - 1).toNat] = e at hg hm
      obtain ⟨rk, hrk, cs, hok, hc⟩ := h.row.at (i := (kk - 1).toNat) hlt (by omega)
      refine Pn.mk (LdL.cell (by rw [add_mk]; exact h.own.cell rfl) ?_)
      rw [hrk, w64 (by omega) (by omega)]
      refine Pn.mk ⟨⟨by omega, by omega⟩, LdP.cell (n := some ⟨e.1, 0, none⟩) ?_ (b2 e.1 e.2 (h.hist e hm) ?_)⟩
      · rw [add_mk, Nat.zero_add, hok.cell_eq]
        have := hc 0 (by omega)
        rw [Nat.add_zero] at this
        rw [this, Nat.mul_one]
        unfold histV
        rw [List.getElem?_map, hg]
        rfl
      · unfold MSt.at
        rw [if_neg (by omega), ← hk1, hg]
    · unfold MSt.at
      by_cases h0 : k ≤ 0
      · rw [if_pos h0]
      · rw [if_neg h0]
        have : M.H.length = 0 := by omega
        rw [List.getElem?_eq_none (by omega)]
  refine Pn.mk (LdP.cell (by rw [add_mk]; exact h.own.cell rfl) (Pn.mk (LdL.cell (by rw [add_mk]; exact h.own.cell rfl) (Bm.ite (fun hk => Pn.mk (LdL.cell (by rw [add_mk]; exact h.own.cell rfl) (b1 _ (by omega) (by omega)))) (fun hk => b1 _ (by omega) (by omega))))))
end
end Go.Proofs.Qxb6500432a
