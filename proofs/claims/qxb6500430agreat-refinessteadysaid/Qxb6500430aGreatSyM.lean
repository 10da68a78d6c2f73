/-
  sync: the plain core keeps its invariant.
-/
import Derived.Test.Qxb6500430aGreatSyL
set_option linter.unusedVariables false
set_option linter.unusedSimpArgs false
open Go.Vc
namespace Go.Proofs.Qxb6500430aGreat
def AllOk (S : List LogS) : Prop := ∀ X ∈ S, LogOk X
theorem AllOk.nil : AllOk [] := fun X hX => by cases hX
theorem AllOk.app {S T : List LogS} (h : AllOk S) (h' : AllOk T) : AllOk (S ++ T) := fun X hX => (List.mem_append.1 hX).elim (h X) (h' X)
section
variable {L : LogS}
theorem ok_setTerm {tm vt : Int} (h : LogOk L) : LogOk (finL L (setTermS tm vt L).2) := by
  unfold setTermS
  split
  · exact h
  · rename_i c
    exact ⟨by show 0 ≤ tm ∧ tm ≤ _; omega, by show -1 ≤ vt ∧ vt < 3; omega, h.base, h.bterm, h.snap, h.len, h.last, h.ent⟩
theorem ok_append {tm : Int} {dd : ByteArray} (h : LogOk L) : LogOk (finL L (appendS tm dd L).2) := by
  unfold appendS
  split
  · exact h
  · rename_i c1
    split
    · exact h
    · rename_i c2
      unfold LogS.last at c2
      refine ⟨h.term, h.vote, h.base, h.bterm, h.snap, ?_, ?_, fun e he => ?_⟩
      · show (L.ents ++ [(tm, dd)]).length ≤ 6; simp; omega
      · show L.base + ((L.ents ++ [(tm, dd)]).length : Int) ≤ _; simp; omega
      · have he' : e ∈ L.ents ++ [(tm, dd)] := he
        rcases List.mem_append.1 he' with q | q
        · exact h.ent e q
        · simp at q; subst q; exact ⟨by simp only; omega, by simp only; omega, by simp only; omega⟩
theorem ok_reb {k : Nat} {t : Int} {sn : ByteArray} (h : LogOk L) (hk : k ≤ L.ents.length) (ht : 0 ≤ t ∧ t ≤ 72057594037927936) (hs : sn.size ≤ 128) : LogOk (rebL k t sn L) := by
  have hb := h.base
  have hl := h.last
  have hn := h.len
  exact ⟨h.term, h.vote, by show 0 ≤ L.base + (k : Int); omega, ht, hs, by show (L.ents.drop k).length ≤ 6; simp; omega, by show L.base + (k : Int) + ((L.ents.drop k).length : Int) ≤ _; simp; omega, fun e he => h.ent e (List.mem_of_mem_drop he)⟩
theorem ok_compact {u : Int} {sn : ByteArray} (h : LogOk L) : LogOk (finL L (compactS u sn L).2) := by
  unfold compactS
  split
  · exact h
  · rename_i c0
    split
    · exact h
    · rename_i c1
      split
      · exact h
      · rename_i c2
        unfold LogS.last at c2
        have hq : (u - L.base - 1).toNat < L.ents.length := by omega
        have he := h.ent _ (List.mem_of_getElem? (getD_some' hq))
        exact ok_reb h (by omega) ⟨he.1, he.2.1⟩ (by omega)
theorem ok_install {i t : Int} {sn : ByteArray} (h : LogOk L) : LogOk (finL L (installS i t sn L).2) := by
  unfold installS
  split
  · exact h
  · rename_i c0
    split
    · exact h
    · rename_i c1
      split
      · exact h
      · rename_i c2
        split
        · rename_i c3
          have hin : i ≤ L.last := by
            have e0 : (termL L i).2 = 0 := by rw [c3]
            unfold termL at e0
            rw [if_neg (by omega)] at e0
            unfold atL at e0
            rw [if_neg (by omega)] at e0
            by_cases c : L.last < i
            · rw [if_pos c] at e0; cases e0
            · omega
          unfold LogS.last at hin
          exact ok_reb h (by omega) (by omega) (by omega)
        · have e1 : finL L (popsN L.ents.length L ++ [insL i t sn (popK L.ents.length L)]) = insL i t sn (popK L.ents.length L) := by unfold finL; simp
          show LogOk (finL L (popsN L.ents.length L ++ [insL i t sn (popK L.ents.length L)]))
          rw [e1]
          have hp := pops_ok h L.ents.length
          exact ⟨hp.term, hp.vote, by show 0 ≤ i; omega, by show 0 ≤ t ∧ t ≤ _; omega, by show sn.size ≤ 128; omega, by simp [insL], by show i + ((([] : List (Int × ByteArray)).length : Nat) : Int) ≤ _; simp; omega, fun e he => (by simp [insL] at he)⟩
theorem ok_trunc {i : Int} (h : LogOk L) : LogOk (finL L (truncS i L).2) := by
  unfold truncS
  split
  · exact h
  · show LogOk (finL L (popsN (L.last - i + 1).toNat L))
    rw [popsN_last]
    exact pops_ok h _
theorem trunc_facts {i : Int} (h : LogOk L) (h1 : L.base < i) (h2 : i ≤ L.last) : (finL L (truncS i L).2).last = i - 1 ∧ (finL L (truncS i L).2).base = L.base ∧ (finL L (truncS i L).2).term = L.term ∧ (finL L (truncS i L).2).vote = L.vote := by
  have e1 : (truncS i L).2 = popsN (L.last - i + 1).toNat L := by unfold truncS; rw [if_neg (by omega)]
  rw [e1, popsN_last]
  obtain ⟨a, b, c, d, _⟩ := popK_same (L.last - i + 1).toNat L
  refine ⟨?_, a, c, d⟩
  show (popK (L.last - i + 1).toNat L).base + ((popK (L.last - i + 1).toNat L).ents.length : Int) = i - 1
  rw [a, b]
  unfold LogS.last at h2 ⊢
  omega
theorem append_facts (tm : Int) (dd : ByteArray) (L : LogS) : (finL L (appendS tm dd L).2).base = L.base ∧ (finL L (appendS tm dd L).2).term = L.term ∧ (finL L (appendS tm dd L).2).vote = L.vote := by
  unfold appendS
  split
  · exact ⟨rfl, rfl, rfl⟩
  · split <;> exact ⟨rfl, rfl, rfl⟩
theorem apps_facts : ∀ (E : List EntV) (L : LogS), LogOk L → AllOk (appsF L E).2 ∧ LogOk (finL L (appsF L E).2) ∧ (finL L (appsF L E).2).last = L.last + ((appsF L E).1 : Int) ∧ (finL L (appsF L E).2).base = L.base ∧ (finL L (appsF L E).2).term = L.term ∧ (finL L (appsF L E).2).vote = L.vote
  | [], L, h => ⟨AllOk.nil, h, by simp [appsF, finL], rfl, rfl, rfl⟩
  | x :: E, L, h => by
    unfold appsF
    split
    · rename_i c
      obtain ⟨a1, a2, a3, a4, a5, a6⟩ := apps_facts E (finL L (appendS x.1 x.2 L).2) (ok_append h)
      have l1 := (last_append L c).1
      obtain ⟨f1, f2, f3⟩ := append_facts x.1 x.2 L
      simp only []
      rw [← finL_app]
      refine ⟨AllOk.app (okS_le1 (len_append _ _ _) (ok_append h)) a1, a2, ?_, by rw [a4, f1], by rw [a5, f2], by rw [a6, f3]⟩
      rw [a3, l1]
      omega
    · exact ⟨AllOk.nil, h, by simp [finL], rfl, rfl, rfl⟩
theorem agree_last (L : LogS) : ∀ (E : List EntV) (p : Int), p ≤ L.last → p + (agreeN L p E : Int) ≤ L.last
  | [], p, h => by simpa [agreeN] using h
  | x :: E, p, h => by
    rw [agreeN_cons]
    split
    · rename_i c
      have := agree_last L E (p + 1) c.1
      omega
    · simpa using h
end
/-! ### the election rule's part -/
section
variable {s : El.ES}
theorem see_keep (t : Int) : (El.seeF s t).id = s.id ∧ ((El.seeF s t).role = 2 → s.role = 2) := by
  unfold El.seeF
  split
  · exact ⟨rfl, fun h => (by cases h)⟩
  · exact ⟨rfl, fun h => h⟩
theorem tick_keep : (El.tickF s).2.id = s.id ∧ ((El.tickF s).2.role = 2 → s.role = 2) := by
  unfold El.tickF
  repeat' split
  all_goals first | exact ⟨rfl, fun h => h⟩ | exact ⟨rfl, fun h => (by cases h)⟩
theorem ask_keep {f t : Int} {up : Bool} : (El.askF s f t up).2.id = s.id ∧ ((El.askF s f t up).2.role = 2 → s.role = 2) := by
  unfold El.askF
  split
  · exact ⟨rfl, fun h => h⟩
  split
  · exact see_keep t
  · exact see_keep t
theorem heard_keep {f t : Int} : (El.heardF s f t).2.id = s.id ∧ ((El.heardF s f t).2.role = 2 → s.role = 2) ∧ ((El.heardF s f t).1 = true → (El.heardF s f t).2.role = 0) := by
  unfold El.heardF
  split
  · exact ⟨rfl, fun h => h, fun h => (by cases h)⟩
  split
  · exact ⟨(see_keep t).1, (see_keep t).2, fun h => (by cases h)⟩
  · exact ⟨(see_keep t).1, fun h => (by cases h), fun _ => rfl⟩
theorem got_keep {f t : Int} {g : Bool} : (El.gotF s f t g).2.id = s.id ∧ ((El.gotF s f t g).1 = false → (El.gotF s f t g).2.role = 2 → s.role = 2) := by
  unfold El.gotF
  split
  · exact ⟨rfl, fun _ h => h⟩
  split
  · exact ⟨(see_keep t).1, fun _ => (see_keep t).2⟩
  split
  · exact ⟨rfl, fun _ h => h⟩
  split
  · exact ⟨rfl, fun _ h => h⟩
  · exact ⟨rfl, fun h => (by cases h)⟩
end
section
variable {Y : YS} {m : MsgV}
theorem persF_eq (hw : Y.e.Wf) : (persF Y).L = { Y.L with term := Y.e.term, vote := Y.e.vote } := by
  have h1 := hw.term
  have h2 := hw.vote
  unfold persF persS setL
  split
  · unfold setTermS
    rw [if_neg (by omega)]
    rfl
  · rename_i c
    simp only [ne_eq, not_or, Decidable.not_not] at c
    show Y.L = _
    rw [c.1, c.2]
theorem pers_allok (hw : Y.e.Wf) (h : LogOk Y.L) : AllOk (persS Y) := by
  unfold persS
  split
  · exact okS_le1 (len_setTerm _ _ _) (ok_setTerm h)
  · exact AllOk.nil
theorem pers_ok {e' : El.ES} (h : YsOk Y) (hw : e'.Wf) (hid : e'.id = Y.e.id) (hr : e'.role = 2 → Y.e.role = 2) : YsOk (persF { Y with e := e' }) ∧ AllOk (persS { Y with e := e' }) := by
  have eL := persF_eq (Y := { Y with e := e' }) hw
  refine ⟨⟨?_, hw, ?_, ?_, ?_, ?_, fun hr2 p hp hpi => ?_⟩, pers_allok hw h.L⟩
  · rw [eL]
    exact ⟨hw.term, hw.vote, h.L.base, h.L.bterm, h.L.snap, h.L.len, h.L.last, h.L.ent⟩
  · rw [eL]; rfl
  · rw [eL]; rfl
  · rw [eL]; exact h.lo
  · rw [eL]; exact h.hi
  · rw [eL]
    have hpi' : (p : Int) ≠ Y.e.id := by rw [← hid]; exact hpi
    exact h.book (hr hr2) p hp hpi'
theorem tick_inv (h : YsOk Y) : YsOk (tickY Y).Y ∧ AllOk (tickY Y).S := pers_ok h (El.tickF_wf h.e) tick_keep.1 tick_keep.2
theorem propose_inv {d : ByteArray} (h : YsOk Y) : YsOk (proposeY d Y).2.Y ∧ AllOk (proposeY d Y).2.S := by
  unfold proposeY
  split
  · exact ⟨h, AllOk.nil⟩
  split
  · exact ⟨h, AllOk.nil⟩
  split
  · exact ⟨h, AllOk.nil⟩
  · obtain ⟨f1, f2, f3⟩ := append_facts Y.e.term d Y.L
    have hl := append_last Y.e.term d Y.L
    have lo := h.lo
    have hi := h.hi
    refine ⟨⟨ok_append h.L, h.e, by show Y.e.term = (finL Y.L _).term; rw [f2]; exact h.term, by show Y.e.vote = (finL Y.L _).vote; rw [f3]; exact h.vote, by show (finL Y.L _).base ≤ Y.cm; rw [f1]; exact lo, by show Y.cm ≤ (finL Y.L _).last; omega, fun hr p hp hpi => ?_⟩, okS_le1 (len_append _ _ _) (ok_append h.L)⟩
    have a := h.book hr p hp hpi
    refine ⟨a.1, a.2.1, ?_⟩
    show Y.nx p ≤ (finL Y.L _).last + 1
    omega
theorem compact_inv {u : Int} {sn : ByteArray} (h : YsOk Y) : YsOk (compactY u sn Y).2.Y ∧ AllOk (compactY u sn Y).2.S := by
  unfold compactY
  split
  · exact ⟨h, AllOk.nil⟩
  · rename_i c
    obtain ⟨k1, _⟩ := compact_same (u := u) (sn := sn) h.L
    have lo := h.lo
    have hi := h.hi
    have fb : (finL Y.L (compactS u sn Y.L).2).base ≤ Y.cm ∧ (finL Y.L (compactS u sn Y.L).2).term = Y.L.term ∧ (finL Y.L (compactS u sn Y.L).2).vote = Y.L.vote := by
      unfold compactS
      split
      · exact ⟨lo, rfl, rfl⟩
      · split
        · exact ⟨lo, rfl, rfl⟩
        · split
          · exact ⟨lo, rfl, rfl⟩
          · refine ⟨?_, rfl, rfl⟩
            show Y.L.base + (((u - Y.L.base).toNat : Nat) : Int) ≤ Y.cm
            omega
    refine ⟨⟨ok_compact h.L, h.e, by show Y.e.term = (finL Y.L _).term; rw [fb.2.1]; exact h.term, by show Y.e.vote = (finL Y.L _).vote; rw [fb.2.2]; exact h.vote, fb.1, by show Y.cm ≤ (finL Y.L _).last; rw [k1]; exact hi, fun hr p hp hpi => ?_⟩, okS_le1 (len_compact _ _ _) (ok_compact h.L)⟩
    have a := h.book hr p hp hpi
    refine ⟨a.1, a.2.1, ?_⟩
    show Y.nx p ≤ (finL Y.L _).last + 1
    rw [k1]
    exact a.2.2
theorem open_inv (i : Int) {L : LogS} (h : LogOk L) : YsOk (openY i L) := by
  have hw := El.restF_wf (El.newF_wf i) (t := L.term) (v := L.vote)
  have e1 : (El.restF (El.newF i) L.term L.vote).2 = { El.newF i with term := L.term, vote := L.vote, role := 0, leader := -1, clock := 0, m := 0 } := by
    unfold El.restF
    have := h.term
    have := h.vote
    rw [if_neg (by omega)]
  refine ⟨h, hw, by show (El.restF (El.newF i) L.term L.vote).2.term = _; rw [e1]; rfl, by show (El.restF (El.newF i) L.term L.vote).2.vote = _; rw [e1]; rfl, Int.le_refl _, by show L.base ≤ L.last; unfold LogS.last; omega, fun hr => ?_⟩
  have hr' : (El.restF (El.newF i) L.term L.vote).2.role = 2 := hr
  rw [e1] at hr'
  cases hr'
theorem repair_facts {i : Int} {es : List EntV} (h : YsOk Y) (h1 : Y.L.base < i) (h2 : i ≤ Y.L.last + 1) : AllOk (repairF i es Y).2 ∧ LogOk (finL Y.L (repairF i es Y).2) ∧ (finL Y.L (repairF i es Y).2).base = Y.L.base ∧ (finL Y.L (repairF i es Y).2).term = Y.L.term ∧ (finL Y.L (repairF i es Y).2).vote = Y.L.vote ∧ (repairF i es Y).1 ≤ (finL Y.L (repairF i es Y).2).last ∧ Y.cm ≤ (finL Y.L (repairF i es Y).2).last := by
  have hi := h.hi
  unfold repairF
  split
  · rename_i c1
    split
    · exact ⟨AllOk.nil, h.L, rfl, rfl, rfl, by show i - 1 ≤ Y.L.last; omega, hi⟩
    · rename_i c2
      obtain ⟨t1, t2, t3, t4⟩ := trunc_facts h.L h1 c1
      obtain ⟨a1, a2, a3, a4, a5, a6⟩ := apps_facts es _ (ok_trunc (i := i) h.L)
      simp only []
      rw [← finL_app]
      refine ⟨AllOk.app (okS_trunc h.L) a1, a2, by rw [a4, t2], by rw [a5, t3], by rw [a6, t4], ?_, ?_⟩
      · rw [a3, t1]; omega
      · rw [a3, t1]; omega
  · rename_i c1
    obtain ⟨a1, a2, a3, a4, a5, a6⟩ := apps_facts es _ h.L
    refine ⟨a1, a2, a4, a5, a6, ?_, ?_⟩
    · rw [a3]; simp only []; omega
    · rw [a3]; omega
theorem accept_inv (h : YsOk Y) (hr : Y.e.role ≠ 2) (hm : MB m) : YsOk (acceptF m Y).2.1 ∧ AllOk (acceptF m Y).2.2 := by
  unfold acceptF
  split
  · exact ⟨h, AllOk.nil⟩
  rename_i c1
  split
  · exact ⟨h, AllOk.nil⟩
  rename_i c2
  split
  · exact ⟨h, AllOk.nil⟩
  have al := agree_last Y.L m.ents m.idx (by omega)
  have lo := h.lo
  have hi := h.hi
  simp only []
  split
  · obtain ⟨a1, a2, a3, a4, a5, a6, a7⟩ := repair_facts (es := m.ents.drop (agreeN Y.L m.idx m.ents)) (i := m.idx + (agreeN Y.L m.idx m.ents : Int) + 1) h (by omega) (by omega)
    refine ⟨⟨a2, h.e, by show Y.e.term = (finL Y.L _).term; rw [a4]; exact h.term, by show Y.e.vote = (finL Y.L _).vote; rw [a5]; exact h.vote, ?_, ?_, fun hr2 => absurd hr2 hr⟩, a1⟩
    · show (finL Y.L _).base ≤ max Y.cm _
      rw [a3]; omega
    · show max Y.cm (min m.cm _) ≤ (finL Y.L _).last
      omega
  · refine ⟨⟨h.L, h.e, h.term, h.vote, ?_, ?_, fun hr2 => absurd hr2 hr⟩, AllOk.nil⟩
    · show Y.L.base ≤ max Y.cm _
      omega
    · show max Y.cm (min m.cm (m.idx + (agreeN Y.L m.idx m.ents : Int))) ≤ Y.L.last
      omega
theorem install_facts {i t : Int} {sn : ByteArray} {L : LogS} (h : LogOk L) (h0 : (installS i t sn L).1 = 0) : (finL L (installS i t sn L).2).base = i ∧ i ≤ (finL L (installS i t sn L).2).last ∧ (finL L (installS i t sn L).2).term = L.term ∧ (finL L (installS i t sn L).2).vote = L.vote := by
  unfold installS at h0 ⊢
  split
  · rename_i c; rw [if_pos c] at h0; cases h0
  · rename_i c0
    rw [if_neg c0] at h0
    split
    · rename_i c; rw [if_pos c] at h0; cases h0
    · rename_i c1
      rw [if_neg c1] at h0
      split
      · rename_i c; rw [if_pos c] at h0; cases h0
      · rename_i c2
        split
        · rename_i c3
          refine ⟨?_, ?_, rfl, rfl⟩
          · show L.base + (((i - L.base).toNat : Nat) : Int) = i
            omega
          · show i ≤ (rebL (i - L.base).toNat t sn L).last
            unfold LogS.last
            show i ≤ L.base + (((i - L.base).toNat : Nat) : Int) + _
            omega
        · have e1 : finL L (popsN L.ents.length L ++ [insL i t sn (popK L.ents.length L)]) = insL i t sn (popK L.ents.length L) := by unfold finL; simp
          show (finL L (popsN L.ents.length L ++ [insL i t sn (popK L.ents.length L)])).base = i ∧ _
          rw [e1]
          obtain ⟨_, _, p3, p4, _⟩ := popK_same L.ents.length L
          refine ⟨rfl, ?_, p3, p4⟩
          show i ≤ i + ((([] : List (Int × ByteArray)).length : Nat) : Int)
          exact Int.le_add_of_nonneg_right (Int.natCast_nonneg _)
theorem step_inv (h : YsOk Y) : YsOk (stepY m Y).Y ∧ AllOk (stepY m Y).S := by
  unfold stepY
  split
  · exact ⟨h, AllOk.nil⟩
  rename_i c0
  have c0' : msgB m = true ∧ m.to = Y.e.id ∧ m.fr ≠ Y.e.id := by
    simp only [not_or] at c0
    exact ⟨by simpa using c0.1, by simpa using c0.2.1, c0.2.2⟩
  have hm := (msgB_iff m).1 c0'.1
  split
  · exact pers_ok h (El.askF_wf h.e) ask_keep.1 ask_keep.2
  split
  · -- votes
    unfold voteGotY
    simp only []
    split
    · rename_i cw
      have hw := El.gotF_wf h.e (f := m.fr) (t := m.term) (g := m.ok)
      have eL := persF_eq (Y := { Y with e := (El.gotF Y.e m.fr m.term m.ok).2 }) hw
      have pa := pers_allok (Y := { Y with e := (El.gotF Y.e m.fr m.term m.ok).2 }) hw h.L
      have okL : LogOk (persF { Y with e := (El.gotF Y.e m.fr m.term m.ok).2 }).L := by
        rw [eL]
        exact ⟨hw.term, hw.vote, h.L.base, h.L.bterm, h.L.snap, h.L.len, h.L.last, h.L.ent⟩
      generalize hY2 : persF { Y with e := (El.gotF Y.e m.fr m.term m.ok).2 } = Y2 at *
      have ee : Y2.e = (El.gotF Y.e m.fr m.term m.ok).2 := by rw [← hY2]; rfl
      have ec : Y2.cm = Y.cm := by rw [← hY2]; rfl
      obtain ⟨f1, f2, f3⟩ := append_facts Y2.e.term estr Y2.L
      have hl := append_last Y2.e.term estr Y2.L
      have lo := h.lo
      have hi := h.hi
      have eb : Y2.L.base = Y.L.base := by rw [eL]
      have el : Y2.L.last = Y.L.last := by rw [eL]; rfl
      have hb0 := h.L.base
      refine ⟨⟨ok_append okL, by show Y2.e.Wf; rw [ee]; exact hw, ?_, ?_, ?_, ?_, fun _ p hp hpi => ?_⟩, AllOk.app pa (okS_le1 (len_append _ _ _) (ok_append okL))⟩
      · show Y2.e.term = (finL Y2.L _).term
        rw [f2, eL, ee]
      · show Y2.e.vote = (finL Y2.L _).vote
        rw [f3, eL, ee]
      · show (finL Y2.L _).base ≤ Y2.cm
        rw [f1]; omega
      · show Y2.cm ≤ (finL Y2.L _).last
        omega
      · show 0 ≤ (if p < 3 then (0 : Int) else Y2.mt p) ∧ (if p < 3 then (0 : Int) else Y2.mt p) < (if p < 3 then Y2.L.last + 1 else Y2.nx p) ∧ (if p < 3 then Y2.L.last + 1 else Y2.nx p) ≤ (finL Y2.L _).last + 1
        rw [if_pos hp, if_pos hp]
        have : 0 ≤ Y2.L.last := by rw [el]; unfold LogS.last; omega
        omega
    · rename_i cw
      exact pers_ok h (El.gotF_wf h.e) got_keep.1 (got_keep.2 (by simpa using cw))
  split
  · unfold entsY
    simp only []
    obtain ⟨k1, k2, k3⟩ := heard_keep (s := Y.e) (f := m.fr) (t := m.term)
    obtain ⟨p1, p2⟩ := pers_ok h (El.heardF_wf h.e) k1 k2
    split
    · rename_i cw
      have hr : (persF { Y with e := (El.heardF Y.e m.fr m.term).2 }).e.role ≠ 2 := by
        show (El.heardF Y.e m.fr m.term).2.role ≠ 2
        rw [k3 cw]; decide
      obtain ⟨a1, a2⟩ := accept_inv p1 hr hm
      exact ⟨a1, AllOk.app p2 a2⟩
    · exact ⟨p1, p2⟩
  split
  · unfold snapY
    simp only []
    obtain ⟨k1, k2, k3⟩ := heard_keep (s := Y.e) (f := m.fr) (t := m.term)
    obtain ⟨p1, p2⟩ := pers_ok h (El.heardF_wf h.e) k1 k2
    split
    · rename_i cw
      have hr : (persF { Y with e := (El.heardF Y.e m.fr m.term).2 }).e.role ≠ 2 := by
        show (El.heardF Y.e m.fr m.term).2.role ≠ 2
        rw [k3 cw]; decide
      split
      · exact ⟨p1, p2⟩
      · split
        · rename_i c3
          obtain ⟨i1, i2, i3, i4⟩ := install_facts p1.L c3
          generalize persF { Y with e := (El.heardF Y.e m.fr m.term).2 } = Y2 at *
          exact ⟨⟨ok_install p1.L, p1.e, by show Y2.e.term = (finL Y2.L _).term; rw [i3]; exact p1.term, by show Y2.e.vote = (finL Y2.L _).vote; rw [i4]; exact p1.vote, by show (finL Y2.L _).base ≤ m.idx; rw [i1]; exact Int.le_refl _, i2, fun hr2 => absurd hr2 hr⟩, AllOk.app p2 (okS_install p1.L (ok_install p1.L))⟩
        · exact ⟨p1, p2⟩
    · exact ⟨p1, p2⟩
  · unfold ackY
    split
    · exact pers_ok h (El.seeF_wf h.e) (see_keep m.term).1 (see_keep m.term).2
    split
    · exact ⟨h, AllOk.nil⟩
    rename_i cr
    have hr : Y.e.role = 2 := by
      simp only [ne_eq, not_or, Decidable.not_not] at cr
      exact cr.1
    have bk := h.bk hr
    have hfr := hm.fr
    obtain ⟨p, hp⟩ := Int.eq_ofNat_of_zero_le hfr.1
    have hpt : m.fr.toNat = p := by omega
    have hpi : (p : Int) ≠ Y.e.id := by rw [← hp]; exact c0'.2.2
    rw [hpt]
    have mk : ∀ Y' : YS, Y'.L = Y.L → Y'.e = Y.e → Book Y' → YsOk Y' := fun Y' e1 e2 b => ⟨by rw [e1]; exact h.L, by rw [e2]; exact h.e, by rw [e1, e2]; exact h.term, by rw [e1, e2]; exact h.vote, b.cm.1, b.cm.2, fun _ => b.all⟩
    split
    · refine ⟨?_, AllOk.nil⟩
      show YsOk (ackedF p m.idx Y).1
      unfold ackedF
      split
      · exact h
      · rename_i c1
        exact mk _ rfl rfl (book_adv (book_acked bk (by omega) hm.idx.1 c1 hpi))
    · refine ⟨?_, AllOk.nil⟩
      show YsOk (refusedF p m.idx Y).1
      unfold refusedF
      split
      · rename_i c1
        refine mk _ rfl rfl ⟨bk.id, fun q hq hqi => ?_, bk.cm⟩
        have a := bk.all q hq hqi
        show 0 ≤ Y.mt q ∧ Y.mt q < upN Y.nx p (refN p m.idx Y) q ∧ upN Y.nx p (refN p m.idx Y) q ≤ Y.L.last + 1
        by_cases c : q = p
        · subst c
          rw [upN_eq]
          have hi := hm.idx
          unfold refN at c1 ⊢
          split at c1 <;> (split <;> omega)
        · rw [upN_ne c]; exact a
      · exact h
end
end Go.Proofs.Qxb6500430aGreat
