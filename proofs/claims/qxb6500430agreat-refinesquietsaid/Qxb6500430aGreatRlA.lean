/-
  rlog: the plain log, and what a store holds of it.
-/
import Derived.Test.Qxb6500430aGreatStG
import Derived.Test.Qxb6500430aGreatVcI
set_option linter.unusedVariables false
set_option linter.unusedSimpArgs false
open Go.Vc
namespace Go.Proofs.Qxb6500430aGreat

abbrev MX : Int := 72057594037927936
structure LogS where
  term : Int
  vote : Int
  base : Int
  bterm : Int
  snap : ByteArray
  ents : List (Int × ByteArray)
def LogS.last (L : LogS) : Int := L.base + (L.ents.length : Int)
structure LogOk (L : LogS) : Prop where
  term : 0 ≤ L.term ∧ L.term ≤ 72057594037927936
  vote : -1 ≤ L.vote ∧ L.vote < 3
  base : 0 ≤ L.base
  bterm : 0 ≤ L.bterm ∧ L.bterm ≤ 72057594037927936
  snap : L.snap.size ≤ 128
  len : L.ents.length ≤ 6
  last : L.base + (L.ents.length : Int) ≤ 72057594037927936
  ent : ∀ e ∈ L.ents, 0 ≤ e.1 ∧ e.1 ≤ 72057594037927936 ∧ e.2.size ≤ 24
def sl (x : Int) : Nat := (x % 6).toNat
theorem sl_lt (x : Int) : sl x < 6 := by unfold sl; omega
theorem sl_ne {a : Int} {i j : Nat} (hi : i < 6) (hj : j < 6) (h : sl (a + 1 + (i : Int)) = sl (a + 1 + (j : Int))) : i = j := by unfold sl at h; omega
structure Holds (A : AbsS) (L : LogS) : Prop where
  term : A.term = L.term
  vote : A.vote = L.vote
  base : A.sidx = L.base
  bterm : A.sterm = L.bterm
  snap : A.snap = L.snap
  live : ∀ (i : Nat) e, L.ents[i]? = some e → A.used (sl (L.base + 1 + (i : Int))) = true ∧ A.recs (sl (L.base + 1 + (i : Int))) = ⟨L.base + 1 + (i : Int), e.1, e.2⟩
  rest : ∀ s, s < 6 → A.used s = true → (∃ i : Nat, i < L.ents.length ∧ s = sl (L.base + 1 + (i : Int))) ∨ (1 ≤ (A.recs s).idx ∧ (A.recs s).idx ≤ L.base ∧ sl (A.recs s).idx = s)
def Clean (A : AbsS) (L : LogS) : Prop := ∀ s, s < 6 → A.used s = true → ∃ i : Nat, i < L.ents.length ∧ s = sl (L.base + 1 + (i : Int))
def A0 : AbsS := ⟨0, -1, 0, 0, estr, fun _ => false, fun _ => ⟨0, 0, estr⟩⟩
def L0 : LogS := ⟨0, -1, 0, 0, estr, []⟩
theorem L0_ok : LogOk L0 := ⟨by decide, by decide, by decide, by decide, by decide, by decide, by decide, fun e he => (by cases he)⟩
theorem holds_0 : Holds A0 L0 := ⟨rfl, rfl, rfl, rfl, rfl, fun i e h => by simp [L0] at h, fun s _ h => (by cases h)⟩
theorem clean_0 : Clean A0 L0 := fun s _ h => (by cases h)
section
variable {A : AbsS} {L : LogS}
theorem Holds.meta (h : Holds A L) (t v : Int) : Holds { A with term := t, vote := v } { L with term := t, vote := v } := ⟨rfl, rfl, h.base, h.bterm, h.snap, h.live, h.rest⟩
theorem Clean.slot (hc : Clean A L) (hn : L.ents.length < 6) : A.used (sl (L.base + 1 + (L.ents.length : Int))) = false := by
  cases hu : A.used (sl (L.base + 1 + (L.ents.length : Int))) with
  | false => rfl
  | true =>
    obtain ⟨i, hi, e⟩ := hc _ (sl_lt _) hu
    have := sl_ne (by omega) (by omega) e
    omega
theorem Holds.append (h : Holds A L) (hc : Clean A L) (hn : L.ents.length < 6) (t : Int) (dd : ByteArray) :
    Holds { A with used := upd A.used (sl (L.base + 1 + (L.ents.length : Int))) true, recs := upd A.recs (sl (L.base + 1 + (L.ents.length : Int))) ⟨L.base + 1 + (L.ents.length : Int), t, dd⟩ } { L with ents := L.ents ++ [(t, dd)] }
    ∧ Clean { A with used := upd A.used (sl (L.base + 1 + (L.ents.length : Int))) true, recs := upd A.recs (sl (L.base + 1 + (L.ents.length : Int))) ⟨L.base + 1 + (L.ents.length : Int), t, dd⟩ } { L with ents := L.ents ++ [(t, dd)] } := by
  have cl : Clean { A with used := upd A.used (sl (L.base + 1 + (L.ents.length : Int))) true, recs := upd A.recs (sl (L.base + 1 + (L.ents.length : Int))) ⟨L.base + 1 + (L.ents.length : Int), t, dd⟩ } { L with ents := L.ents ++ [(t, dd)] } := fun s hs hu => by
    by_cases e : s = sl (L.base + 1 + (L.ents.length : Int))
    · exact ⟨L.ents.length, by simp, e⟩
    · have hu' : upd A.used (sl (L.base + 1 + (L.ents.length : Int))) true s = true := hu
      rw [upd_ne _ _ e] at hu'
      obtain ⟨i, hi, e2⟩ := hc s hs hu'
      exact ⟨i, by simp; omega, e2⟩
  refine ⟨⟨h.term, h.vote, h.base, h.bterm, h.snap, fun i e he => ?_, fun s hs hu => .inl (cl s hs hu)⟩, cl⟩
  have he' : (L.ents ++ [(t, dd)])[i]? = some e := he
  show upd A.used _ true (sl (L.base + 1 + (i : Int))) = true ∧ upd A.recs _ _ (sl (L.base + 1 + (i : Int))) = _
  by_cases hi : i < L.ents.length
  · rw [List.getElem?_append_left hi] at he'
    have hne : sl (L.base + 1 + (i : Int)) ≠ sl (L.base + 1 + (L.ents.length : Int)) := fun q => by have := sl_ne (by omega) (by omega) q; omega
    rw [upd_ne _ _ hne, upd_ne _ _ hne]
    exact h.live i e he'
  · have hil := (List.getElem?_eq_some_iff.1 he').1
    rw [List.length_append, List.length_singleton] at hil
    have ei : i = L.ents.length := by omega
    subst ei
    rw [List.getElem?_append_right (Nat.le_refl _), Nat.sub_self] at he'
    simp at he'
    subst he'
    rw [upd_eq, upd_eq]
    exact ⟨rfl, rfl⟩
def popL (L : LogS) : LogS := { L with ents := L.ents.dropLast }
theorem Holds.pop (h : Holds A L) (hc : Clean A L) (hn : 0 < L.ents.length) (hl : L.ents.length ≤ 6) : Holds { A with used := upd A.used (sl L.last) false, recs := upd A.recs (sl L.last) ⟨0, 0, estr⟩ } (popL L) ∧ Clean { A with used := upd A.used (sl L.last) false, recs := upd A.recs (sl L.last) ⟨0, 0, estr⟩ } (popL L) := by
  have el : L.last = L.base + 1 + ((L.ents.length - 1 : Nat) : Int) := by unfold LogS.last; omega
  have dl : (popL L).ents.length = L.ents.length - 1 := by simp [popL]
  have cl : Clean { A with used := upd A.used (sl L.last) false, recs := upd A.recs (sl L.last) ⟨0, 0, estr⟩ } (popL L) := fun s hs hu => by
    have hu' : upd A.used (sl L.last) false s = true := hu
    by_cases e : s = sl L.last
    · rw [e, upd_eq] at hu'; cases hu'
    · rw [upd_ne _ _ e] at hu'
      obtain ⟨i, hi, e2⟩ := hc s hs hu'
      refine ⟨i, ?_, e2⟩
      rw [dl]
      rcases Nat.lt_or_ge i (L.ents.length - 1) with q | q
      · exact q
      · have : i = L.ents.length - 1 := by omega
        rw [this, ← el] at e2
        exact absurd e2 e
  refine ⟨⟨h.term, h.vote, h.base, h.bterm, h.snap, fun i e he => ?_, fun s hs hu => .inl (cl s hs hu)⟩, cl⟩
  have hil := (List.getElem?_eq_some_iff.1 he).1
  rw [dl] at hil
  have he' : L.ents[i]? = some e := by
    have : L.ents.dropLast[i]? = some e := he
    rw [List.getElem?_dropLast, if_pos (by omega)] at this
    exact this
  have hne : sl (L.base + 1 + (i : Int)) ≠ sl L.last := fun q => by rw [el] at q; have := sl_ne (by omega) (by omega) q; omega
  show upd A.used _ false (sl (L.base + 1 + (i : Int))) = true ∧ upd A.recs _ _ (sl (L.base + 1 + (i : Int))) = _
  rw [upd_ne _ _ hne, upd_ne _ _ hne]
  exact h.live i e he'
/-- The base moved up by k: k entries are rubbish now. -/
def rebL (k : Nat) (t : Int) (s : ByteArray) (L : LogS) : LogS := ⟨L.term, L.vote, L.base + (k : Int), t, s, L.ents.drop k⟩
theorem Holds.reb (h : Holds A L) (hc : Clean A L) (hb : 0 ≤ L.base) {k : Nat} (hk : k ≤ L.ents.length) (t : Int) (s : ByteArray) : Holds { A with sidx := L.base + (k : Int), sterm := t, snap := s } (rebL k t s L) := by
  refine ⟨h.term, h.vote, rfl, rfl, rfl, fun i e he => ?_, fun q hq hu => ?_⟩
  · have he' : (L.ents.drop k)[i]? = some e := he
    rw [List.getElem?_drop] at he'
    have := h.live (k + i) e he'
    show A.used (sl (L.base + (k : Int) + 1 + (i : Int))) = true ∧ A.recs (sl (L.base + (k : Int) + 1 + (i : Int))) = ⟨L.base + (k : Int) + 1 + (i : Int), e.1, e.2⟩
    rw [show L.base + (k : Int) + 1 + (i : Int) = L.base + 1 + ((k + i : Nat) : Int) by omega]
    exact this
  · obtain ⟨i, hi, e⟩ := hc q hq hu
    by_cases c : k ≤ i
    · refine .inl ⟨i - k, by simp [rebL]; omega, ?_⟩
      show q = sl (L.base + (k : Int) + 1 + ((i - k : Nat) : Int))
      rw [e]
      congr 1
      omega
    · obtain ⟨x, hx⟩ : ∃ x, L.ents[i]? = some x := ⟨L.ents[i], List.getElem?_eq_getElem hi⟩
      have hl := h.live i x hx
      rw [← e] at hl
      refine .inr ⟨?_, ?_, ?_⟩
      · show 1 ≤ (A.recs q).idx
        rw [hl.2]; show 1 ≤ L.base + 1 + (i : Int); omega
      · show (A.recs q).idx ≤ L.base + (k : Int)
        rw [hl.2]; show L.base + 1 + (i : Int) ≤ _; omega
      · show sl (A.recs q).idx = q
        rw [hl.2]; exact e.symm
/-- A slot emptied in which no entry lives. -/
theorem Holds.rub (h : Holds A L) {s : Nat} (hs : ∀ i : Nat, i < L.ents.length → s ≠ sl (L.base + 1 + (i : Int))) : Holds { A with used := upd A.used s false, recs := upd A.recs s ⟨0, 0, estr⟩ } L := by
  refine ⟨h.term, h.vote, h.base, h.bterm, h.snap, fun i e he => ?_, fun q hq hu => ?_⟩
  · have hil := (List.getElem?_eq_some_iff.1 he).1
    have hne : sl (L.base + 1 + (i : Int)) ≠ s := fun e => hs i hil e.symm
    show upd A.used _ false (sl (L.base + 1 + (i : Int))) = true ∧ upd A.recs _ _ (sl (L.base + 1 + (i : Int))) = _
    rw [upd_ne _ _ hne, upd_ne _ _ hne]
    exact h.live i e he
  · have hu' : upd A.used s false q = true := hu
    by_cases e : q = s
    · rw [e, upd_eq] at hu'; cases hu'
    · rw [upd_ne _ _ e] at hu'
      have hr : upd A.recs s ⟨0, 0, estr⟩ q = A.recs q := upd_ne _ _ e
      show (∃ i : Nat, i < L.ents.length ∧ q = sl (L.base + 1 + (i : Int))) ∨ (1 ≤ (upd A.recs s ⟨0, 0, estr⟩ q).idx ∧ (upd A.recs s ⟨0, 0, estr⟩ q).idx ≤ L.base ∧ sl (upd A.recs s ⟨0, 0, estr⟩ q).idx = q)
      rw [hr]
      exact h.rest q hq hu'
def insL (idx t : Int) (s : ByteArray) (L : LogS) : LogS := ⟨L.term, L.vote, idx, t, s, []⟩
theorem Holds.ins (h : Holds A L) (hc : Clean A L) (hn : L.ents = []) (idx t : Int) (s : ByteArray) : Holds { A with sidx := idx, sterm := t, snap := s } (insL idx t s L) ∧ Clean { A with sidx := idx, sterm := t, snap := s } (insL idx t s L) := by
  have no : ∀ q, q < 6 → A.used q = true → False := fun q hq hu => by
    obtain ⟨i, hi, _⟩ := hc q hq hu
    rw [hn] at hi
    simp at hi
  exact ⟨⟨h.term, h.vote, rfl, rfl, rfl, fun i e he => by simp [insL] at he, fun q hq hu => absurd hu (fun hu => no q hq hu)⟩, fun q hq hu => absurd hu (fun hu => no q hq hu)⟩
end
/-! ### the images on the way -/
def PV (S : List LogS) (I : List ByteArray) : Prop := ∃ A L, L ∈ S ∧ Holds A L ∧ LikeI I A
theorem PV.mono {S T : List LogS} {I : List ByteArray} (h : PV S I) (hs : ∀ L ∈ S, L ∈ T) : PV T I := by
  obtain ⟨A, L, h1, h2, h3⟩ := h
  exact ⟨A, L, hs L h1, h2, h3⟩
structure Path (D : DiskS) (S : List LogS) (N : Int) : Prop where
  mark : ImgWf D.mark
  log : LogWf D
  all : ∀ k, k ≤ D.log.length → Good (img (cutI D k)) N ∧ PV S (cutI D k)
  fin : cutI D D.log.length = D.now
  first : ∀ L, S.head? = some L → PV [L] D.mark
theorem Path.mono {D : DiskS} {S T : List LogS} {N M : Int} (h : Path D S N) (hs : ∀ L ∈ S, L ∈ T) (hn : N ≤ M) (hh : T.head? = S.head? := by rfl) : Path D T M := ⟨h.mark, h.log, fun k hk => ⟨(h.all k hk).1.mono hn, (h.all k hk).2.mono hs⟩, h.fin, by rw [hh]; exact h.first⟩
theorem Path.good {D : DiskS} {S : List LogS} {N : Int} (h : Path D S N) : Good D N := by
  have := (h.all D.log.length (Nat.le_refl _)).1
  rw [h.fin] at this
  exact good_now (D1 := img D.now) rfl this
/-- A stretch of writes behind those that were there. -/
theorem cutI_more {D D' M : DiskS} {E : List (Int × Int × ByteArray)} (hfin : cutI D D.log.length = D.now) (hm : D'.mark = D.mark) (hl : D'.log = D.log ++ E) (mm : M.mark = D.now) (ml : M.log = E) : (∀ k, k ≤ D.log.length → cutI D' k = cutI D k) ∧ ∀ i, cutI D' (D.log.length + i) = cutI M i := by
  refine ⟨fun k hk => ?_, fun i => ?_⟩
  · unfold cutI
    rw [hl, hm, List.take_append_of_le_length hk]
  · have hf : D.log.foldl hput D.mark = D.now := by
      unfold cutI at hfin
      rw [List.take_of_length_le (Nat.le_refl _)] at hfin
      exact hfin
    unfold cutI
    rw [hl, hm, List.take_append, List.take_of_length_le (by omega), Nat.add_sub_cancel_left, List.foldl_append, hf, mm, ml]
theorem Path.step {D D' M : DiskS} {E : List (Int × Int × ByteArray)} {A A1 : AbsS} {L L1 : LogS} {S : List LogS} {N K : Int} (h : Path D S N) (hm : D'.mark = D.mark) (hl : D'.log = D.log ++ E) (hn : D'.now = M.now) (mm : M.mark = D.now) (ml : M.log = E) (hc : Cuts M A A1 K) (hNK : N ≤ K) (hL : L ∈ S) (hL1 : L1 ∈ S) (hA : Holds A L) (hA1 : Holds A1 L1) : Path D' S K ∧ LikeI D'.now A1 := by
  obtain ⟨c1, c2⟩ := cutI_more (M := M) h.fin hm hl mm ml
  have hlen : D'.log.length = D.log.length + M.log.length := by rw [hl, ml, List.length_append]
  refine ⟨⟨by rw [hm]; exact h.mark, fun e he => ?_, fun k hk => ?_, ?_, by rw [hm]; exact h.first⟩, by rw [hn]; exact hc.last⟩
  · rw [hl] at he
    rcases List.mem_append.1 he with q | q
    · exact h.log e q
    · exact hc.log e (by rw [ml]; exact q)
  · by_cases q : k ≤ D.log.length
    · rw [c1 k q]
      exact ⟨(h.all k q).1.mono hNK, (h.all k q).2⟩
    · obtain ⟨i, rfl⟩ : ∃ i, k = D.log.length + i := ⟨k - D.log.length, by omega⟩
      rw [c2 i]
      have := hc.all i (by omega)
      refine ⟨this.1, ?_⟩
      rcases this.2 with z | z
      · exact ⟨A, L, hL, hA, z⟩
      · exact ⟨A1, L1, hL1, hA1, z⟩
  · rw [hlen, c2, hc.fin, hn]
theorem path_marked {D : DiskS} {A : AbsS} {L : LogS} {N : Int} (hg : Good D N) (hl : LikeI D.now A) (hA : Holds A L) : Path D.marked [L] N :=
  have e : ∀ k, cutI D.marked k = D.now := fun k => by unfold cutI DiskS.marked; simp
  ⟨hg.img_wf, fun e he => (by cases he), fun k hk => by rw [e k]; exact ⟨good_now (D1 := D) rfl hg, A, L, by simp, hA, hl⟩, rfl, fun L' e => by simp at e; subst e; exact ⟨A, L, by simp, hA, hl⟩⟩
end Go.Proofs.Qxb6500430aGreat
