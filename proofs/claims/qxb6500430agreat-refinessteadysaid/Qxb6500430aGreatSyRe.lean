/-
  sync: plain facts of the events.
-/
import Derived.Test.Qxb6500430aGreatSyR
set_option linter.unusedVariables false
set_option linter.unusedSimpArgs false
open Go.Vc
namespace Go.Proofs.Qxb6500430aGreat
def EntOk (g : MsgV) : Prop := g.ents.length ≤ 2 ∧ ∀ x ∈ g.ents, 0 ≤ x.1
theorem EntOk.nil {g : MsgV} (h : g.ents = []) : EntOk g := ⟨by rw [h]; simp, fun x hx => by rw [h] at hx; cases hx⟩
theorem at_term {L : LogS} (h : LogOk L) (i : Int) : 0 ≤ (atL L i).1.1 := by
  unfold atL
  split
  · exact Int.le_refl 0
  · rename_i c1
    split
    · exact Int.le_refl 0
    · rename_i c2
      unfold LogS.last at c2
      exact (h.ent _ (List.mem_of_getElem? (getD_some' (show (i - L.base - 1).toNat < L.ents.length by omega)))).1
theorem send_ent {p : Nat} {Y : YS} (h : LogOk Y.L) : EntOk (sendF p Y) := by
  unfold sendF
  split
  · exact EntOk.nil rfl
  · refine ⟨?_, fun x hx => ?_⟩
    · show ((List.range (min 2 (Y.L.last - Y.nx p + 1).toNat)).map _).length ≤ 2
      simp
      omega
    · have hx' : x ∈ (List.range (min 2 (Y.L.last - Y.nx p + 1).toNat)).map (fun k : Nat => (atL Y.L (Y.nx p + (k : Int))).1) := hx
      obtain ⟨k, _, rfl⟩ := List.mem_map.1 hx'
      exact at_term h _
theorem perPeer_ent {Y : YS} {f : Nat → MsgV} (hf : ∀ p, EntOk (f p)) : ∀ n, ∀ g ∈ perPeer Y f n, EntOk g
  | 0 => fun g hg => by cases hg
  | n + 1 => fun g hg => by
    unfold perPeer at hg
    rcases List.mem_append.1 hg with z | z
    · exact perPeer_ent hf n g z
    · split at z
      · cases z
      · simp at z; subst z; exact hf n
theorem sendAll_ent {Y : YS} (h : LogOk Y.L) : ∀ g ∈ sendAllF Y, EntOk g := perPeer_ent (fun p => send_ent h) 3
theorem tick_ent {Y : YS} (h : YsOk Y) : ∀ g ∈ (tickY Y).G, EntOk g := fun g hg => by
  have hL := (tick_inv h).1.L
  unfold tickY at hg hL
  rcases List.mem_append.1 hg with z | z
  · split at z
    · exact sendAll_ent hL g z
    · cases z
  · split at z
    · exact perPeer_ent (fun p => EntOk.nil rfl) 3 g z
    · cases z
theorem one_ent {k p : Int} {ok : Bool} {i : Int} {Y : YS} : ∀ g ∈ [replyF k p ok i Y], EntOk g := fun g hg => by
  simp at hg
  subst hg
  exact EntOk.nil rfl
theorem ite_ent {P : Prop} [Decidable P] {a : MsgV} (h : EntOk a) : ∀ g ∈ (if P then [a] else []), EntOk g := fun g hg => by
  split at hg
  · simp at hg; subst hg; exact h
  · cases hg
theorem step_ent {m : MsgV} {Y : YS} (h : YsOk Y) : ∀ g ∈ (stepY m Y).G, EntOk g := fun g hg => by
  have hinv := (step_inv (m := m) h).1.L
  unfold stepY at hg hinv
  split at hg
  · cases hg
  rename_i c0
  rw [if_neg c0] at hinv
  split at hg
  · exact one_ent g hg
  rename_i c1
  rw [if_neg c1] at hinv
  split at hg
  · rename_i c2
    rw [if_pos c2] at hinv
    unfold voteGotY at hg hinv
    simp only [] at hg hinv
    split at hg
    · rename_i c3
      rw [if_pos c3] at hinv
      exact sendAll_ent hinv g hg
    · cases hg
  rename_i c2
  rw [if_neg c2] at hinv
  split at hg
  · unfold entsY at hg
    simp only [] at hg
    split at hg
    · exact one_ent g hg
    · exact one_ent g hg
  rename_i c3
  rw [if_neg c3] at hinv
  split at hg
  · unfold snapY at hg
    simp only [] at hg
    split at hg
    · split at hg
      · exact one_ent g hg
      · split at hg
        · exact one_ent g hg
        · exact one_ent g hg
    · exact one_ent g hg
  · rename_i c4
    rw [if_neg c4] at hinv
    unfold ackY at hg hinv
    split at hg
    · cases hg
    rename_i c5
    rw [if_neg c5] at hinv
    split at hg
    · cases hg
    rename_i c6
    rw [if_neg c6] at hinv
    split at hg
    · rename_i c7
      rw [if_pos c7] at hinv
      unfold ackedF at hg hinv
      split at hg
      · cases hg
      · rename_i c8
        rw [if_neg c8] at hinv
        exact ite_ent (send_ent hinv) g hg
    · rename_i c7
      rw [if_neg c7] at hinv
      unfold refusedF at hg hinv
      split at hg
      · rename_i c8
        rw [if_pos c8] at hinv
        simp at hg; subst hg; exact send_ent hinv
      · cases hg
theorem repair_len {i : Int} {es : List EntV} {Y : YS} (h : LogOk Y.L) : (repairF i es Y).2.length ≤ 7 + es.length := by
  unfold repairF
  split
  · split
    · simp
    · simp only [List.length_append]
      have h1 := trunc_len (i := i) h
      have h2 := apps_len es (finL Y.L (truncS i Y.L).2)
      omega
  · have h2 := apps_len es Y.L
    simp only []
    omega
theorem accept_len {m : MsgV} {Y : YS} (h : LogOk Y.L) (hm : MB m) : (acceptF m Y).2.2.length ≤ 9 := by
  unfold acceptF
  split
  · simp
  split
  · simp
  split
  · simp
  simp only []
  split
  · have h1 := repair_len (i := m.idx + (agreeN Y.L m.idx m.ents : Int) + 1) (es := m.ents.drop (agreeN Y.L m.idx m.ents)) h
    have h2 := hm.len
    rw [List.length_drop] at h1
    omega
  · simp
theorem step_len {m : MsgV} {Y : YS} (h : YsOk Y) : (stepY m Y).S.length ≤ 12 := by
  unfold stepY
  split
  · simp
  rename_i c0
  have hm : MB m := (msgB_iff m).1 (by simp only [not_or] at c0; simpa using c0.1)
  split
  · have := persS_len { Y with e := (El.askF Y.e m.fr m.term (decide (Y.lastT < m.lt) || (decide (m.lt = Y.lastT) && decide (Y.L.last ≤ m.idx)))).2 }
    unfold voteAskY
    simp only []
    omega
  split
  · unfold voteGotY
    simp only []
    have := persS_len { Y with e := (El.gotF Y.e m.fr m.term m.ok).2 }
    split
    · simp only [List.length_append]
      have := len_append (persF { Y with e := (El.gotF Y.e m.fr m.term m.ok).2 }).e.term estr (persF { Y with e := (El.gotF Y.e m.fr m.term m.ok).2 }).L
      omega
    · simp only []
      omega
  split
  · unfold entsY
    simp only []
    have h1 := persS_len { Y with e := (El.heardF Y.e m.fr m.term).2 }
    obtain ⟨k1, k2, k3⟩ := heard_keep (s := Y.e) (f := m.fr) (t := m.term)
    obtain ⟨p1, p2⟩ := pers_ok h (El.heardF_wf h.e) k1 k2
    split
    · simp only [List.length_append]
      have := accept_len p1.L hm
      omega
    · simp only []
      omega
  split
  · unfold snapY
    simp only []
    have h1 := persS_len { Y with e := (El.heardF Y.e m.fr m.term).2 }
    obtain ⟨k1, k2, k3⟩ := heard_keep (s := Y.e) (f := m.fr) (t := m.term)
    obtain ⟨p1, p2⟩ := pers_ok h (El.heardF_wf h.e) k1 k2
    split
    · split
      · simp only []; omega
      · split
        · simp only [List.length_append]
          have := len_install (idx := m.idx) (tm := m.lt) (sn := m.data) p1.L
          omega
        · simp only []; omega
    · simp only []; omega
  · unfold ackY
    split
    · have := persS_len { Y with e := El.seeF Y.e m.term }
      simp only []; omega
    · split
      · simp
      · split <;> simp
/-! ### Apart -/
theorem newF_idem (i : Int) : (El.newF (El.newF i).id).id = (El.newF i).id := by
  unfold El.newF
  simp only
  by_cases c : i < 0 ∨ 3 ≤ i
  · rw [if_pos c]; rfl
  · rw [if_neg c, if_neg c]
theorem openY_id (i : Int) {L : LogS} (h : LogOk L) : (openY i L).e.id = (El.newF i).id := by
  show (El.restF (El.newF i) L.term L.vote).2.id = _
  unfold El.restF
  split <;> rfl
section
variable {Y : YS} {m : MsgV}
theorem tick_id : (tickY Y).Y.e.id = Y.e.id := tick_keep.1
theorem accept_e : (acceptF m Y).2.1.e = Y.e := by
  unfold acceptF
  repeat' split
  all_goals rfl
theorem ack_e {p : Nat} {i : Int} : (ackedF p i Y).1.e = Y.e := by
  unfold ackedF
  split <;> rfl
theorem ref_e {p : Nat} {i : Int} : (refusedF p i Y).1.e = Y.e := by
  unfold refusedF
  split <;> rfl
theorem step_id : (stepY m Y).Y.e.id = Y.e.id := by
  unfold stepY
  split
  · rfl
  split
  · exact ask_keep.1
  split
  · unfold voteGotY
    dsimp only
    split
    · exact got_keep.1
    · exact got_keep.1
  split
  · unfold entsY
    dsimp only
    split
    · rw [accept_e]; exact heard_keep.1
    · exact heard_keep.1
  split
  · unfold snapY
    dsimp only
    split
    · split
      · exact heard_keep.1
      · split
        · exact heard_keep.1
        · exact heard_keep.1
    · exact heard_keep.1
  · unfold ackY
    split
    · exact (see_keep _).1
    split
    · rfl
    split
    · rw [ack_e]
    · rw [ref_e]
end
end Go.Proofs.Qxb6500430aGreat
