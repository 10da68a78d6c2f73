/-
  host: the work: a whole datagram comes, fragment by fragment.
-/
import Derived.Test.Qxb6500424aGreatHsI
set_option linter.unusedVariables false
set_option linter.unusedSimpArgs false
namespace Go.Proofs.Qxb6500424aGreat
/-- A row that holds the first fragment of two. -/
structure Half (κ : Int) (r : Ip.AR) : Prop where
  key : r.key = κ
  tot : r.total = -1
  lo : ∀ k, k < 16 → 0 ≤ Ip.hd r.cell k
  hi : ∀ k, 16 ≤ k → k < 40 → Ip.hd r.cell k = -1
def NoKey (κ : Int) (A : List Ip.AR) : Prop := ∀ r ∈ A, r.key ≠ κ
section
variable {κ src dst id : Int} {D : List Int} {A : List Ip.AR} {r : Ip.AR}
theorem find_none (h : NoKey κ A) : A.find? (fun x => decide (x.key = κ)) = none := by
  rw [List.find?_eq_none]
  intro x hx
  simpa using h x hx
theorem find_ins (h : NoKey κ A) (hr : r.key = κ) : (Ip.insA r A).find? (fun x => decide (x.key = κ)) = some r := by
  induction A with
  | nil => simp [Ip.insA, hr]
  | cons a A ih =>
    unfold Ip.insA
    have h1 := h a (List.mem_cons_self ..)
    split
    · rw [List.find?_cons_of_neg (by simpa using h1)]
      exact ih (fun x hx => h x (List.mem_cons_of_mem _ hx))
    · rw [List.find?_cons_of_pos (by simpa using hr)]
theorem rem_none (h : NoKey κ A) : Ip.remA κ A = A := by
  unfold Ip.remA
  rw [List.filter_eq_self]
  intro x hx
  simpa using h x hx
theorem rem_ins (h : NoKey κ A) (hr : r.key = κ) : Ip.remA κ (Ip.insA r A) = A := by
  induction A with
  | nil => simp [Ip.insA, Ip.remA, hr]
  | cons a A ih =>
    have h1 := h a (List.mem_cons_self ..)
    have h2 : NoKey κ A := fun x hx => h x (List.mem_cons_of_mem _ hx)
    unfold Ip.insA
    split
    · have e : Ip.remA κ (a :: Ip.insA r A) = a :: Ip.remA κ (Ip.insA r A) := by
        unfold Ip.remA
        rw [List.filter_cons_of_pos (by simpa using h1)]
      rw [e, ih h2]
    · have e : Ip.remA κ (r :: a :: A) = Ip.remA κ (a :: A) := by
        unfold Ip.remA
        rw [List.filter_cons_of_neg (by simpa using hr)]
      rw [e]
      exact rem_none h
/-- The head of a packet of ours passes. -/
theorem inF_pkt {om : Int} {x : List Int} (hx : x.length ≤ 16) (h40 : (om % 128).toNat + x.length ≤ 40) (h0 : 0 < x.length) : Ip.inF dst A (Ip.pkt 6 src dst id om x) =
    if (om % 128).toNat = 0 ∧ decide (128 ≤ om) = false then ⟨0, src, dst, 6, x, A⟩ else
    match A.find? (fun r => decide (r.key = src * 65536 + 6 * 256 + id)) with
    | some r => Ip.fragR dst A (Ip.pkt 6 src dst id om x) r true
    | none => if A.length = 3 then Ip.noneR 11 A else Ip.fragR dst A (Ip.pkt 6 src dst id om x) (Ip.freshRow (src * 65536 + 6 * 256 + id)) false := by
  have hl := Ip.pkt_length 6 src dst id om x
  have e8 : (Ip.pkt 6 src dst id om x).length - 8 = x.length := by omega
  unfold Ip.inF
  rw [if_neg (by omega), if_neg (by rw [e8]; show ¬ (x.length : Int) ≠ _; simp), if_neg (by show ¬ Ip.sum7 _ ≠ Ip.sum7 _; simp [Ip.sum7, Ip.pkt]), if_neg (by show ¬ (8 : Int) = 0; decide), if_neg (by show ¬ dst ≠ dst; simp)]
  have eo : Ip.offV (Ip.pkt 6 src dst id om x) = (om % 128).toNat := rfl
  have em : Ip.moreV (Ip.pkt 6 src dst id om x) = decide (128 ≤ om) := rfl
  have ek : Ip.keyV (Ip.pkt 6 src dst id om x) = src * 65536 + 6 * 256 + id := rfl
  have ed : (Ip.pkt 6 src dst id om x).drop 8 = x := rfl
  rw [e8, eo, em, if_neg (by omega), if_neg (by omega), ek]
  rfl
theorem in_one (h8 : 8 ≤ D.length) (h16 : D.length ≤ 16) : Ip.inF dst A (Ip.pktF 6 src dst id D 0) = ⟨0, src, dst, 6, D, A⟩ := by
  have hc : Ip.cntF D.length = 1 := by unfold Ip.cntF; rw [if_neg (by omega)]; omega
  have e : Ip.pktF 6 src dst id D 0 = Ip.pkt 6 src dst id 0 D := by
    unfold Ip.pktF
    rw [if_neg (by omega)]
    rfl
  rw [e, inF_pkt h16 (by simp; omega) (by omega), if_pos (by decide)]
theorem pkt0 (h16 : 16 < D.length) (h20 : D.length ≤ 20) : Ip.pktF 6 src dst id D 0 = Ip.pkt 6 src dst id 128 (D.take 16) := by
  have hc : Ip.cntF D.length = 2 := by unfold Ip.cntF; rw [if_neg (by omega)]; omega
  unfold Ip.pktF
  rw [if_pos (by omega)]
  rfl
theorem pkt1 (h16 : 16 < D.length) (h20 : D.length ≤ 20) : Ip.pktF 6 src dst id D 1 = Ip.pkt 6 src dst id 16 (D.drop 16) := by
  have hc : Ip.cntF D.length = 2 := by unfold Ip.cntF; rw [if_neg (by omega)]; omega
  unfold Ip.pktF
  rw [if_neg (by omega)]
  rfl
/-- The first of two fragments. -/
theorem in_two0 (h16 : 16 < D.length) (h20 : D.length ≤ 20) (hk : NoKey (src * 65536 + 1536 + id) A) (hb : ∀ b ∈ D.take 16, 0 ≤ b) :
    (A.length = 3 ∧ Ip.inF dst A (Ip.pktF 6 src dst id D 0) = Ip.noneR 11 A) ∨ ∃ r, Half (src * 65536 + 1536 + id) r ∧ r.left = 4 ∧ Ip.inF dst A (Ip.pktF 6 src dst id D 0) = Ip.noneR 10 (Ip.insA r A) := by
  have hl : (D.take 16).length = 16 := by rw [List.length_take]; omega
  rw [pkt0 h16 h20, inF_pkt (by omega) (by rw [hl]; decide) (by omega), if_neg (by decide), show src * 65536 + 6 * 256 + id = src * 65536 + 1536 + id by omega, find_none hk]
  by_cases c : A.length = 3
  · exact .inl ⟨c, by rw [if_pos c]⟩
  · right
    simp only [if_neg c]
    have hn : (Ip.nextRow (Ip.freshRow (src * 65536 + 1536 + id)) (Ip.pkt 6 src dst id 128 (D.take 16))) = ⟨src * 65536 + 1536 + id, 4, -1, Ip.layC (List.replicate 40 (-1)) 0 (D.take 16)⟩ := rfl
    refine ⟨⟨src * 65536 + 1536 + id, 4, -1, Ip.layC (List.replicate 40 (-1)) 0 (D.take 16)⟩, ⟨rfl, rfl, fun k hk => ?_, fun k hk hk2 => ?_⟩, rfl, ?_⟩
    · show 0 ≤ Ip.hd (Ip.layC (List.replicate 40 (-1)) 0 (D.take 16)) k
      rw [Ip.layC_get (by omega), if_pos ⟨by omega, by omega⟩]
      refine hb _ ?_
      rw [Nat.sub_zero, List.getD_eq_getElem?_getD, List.getElem?_eq_getElem (by omega)]
      exact List.getElem_mem _
    · show Ip.hd (Ip.layC (List.replicate 40 (-1)) 0 (D.take 16)) k = -1
      rw [Ip.layC_get hk2, if_neg (by omega)]
      show (List.replicate 40 (-1 : Int)).getD k (-1) = -1
      rw [List.getD_eq_getElem?_getD, List.getElem?_replicate, if_pos hk2]
      rfl
    · unfold Ip.fragR
      rw [if_neg, hn, if_neg]
      · rfl
      · unfold Ip.rowFull
        simp
      · show ¬ Ip.rowBad (Ip.freshRow (src * 65536 + 1536 + id)) _ true = true
        unfold Ip.rowBad Ip.freshRow
        simp
/-- The second. -/
theorem in_two1 (h16 : 16 < D.length) (h20 : D.length ≤ 20) (hk : NoKey (src * 65536 + 1536 + id) A) (hr : Half (src * 65536 + 1536 + id) r) (hb : ∀ b ∈ D.drop 16, 0 ≤ b) :
    (Ip.inF dst (Ip.insA r A) (Ip.pktF 6 src dst id D 1)).err = 0 ∧ (Ip.inF dst (Ip.insA r A) (Ip.pktF 6 src dst id D 1)).tab = A := by
  have hl : (D.drop 16).length = D.length - 16 := by rw [List.length_drop]
  rw [pkt1 h16 h20, inF_pkt (by omega) (by rw [hl]; show 16 + _ ≤ 40; omega) (by omega), if_neg (by decide), show src * 65536 + 6 * 256 + id = src * 65536 + 1536 + id by omega, find_ins hk hr.key]
  simp only
  have el : (Ip.pkt 6 src dst id 16 (D.drop 16)).length - 8 = D.length - 16 := by rw [Ip.pkt_length]; omega
  have eo : Ip.offV (Ip.pkt 6 src dst id 16 (D.drop 16)) = 16 := rfl
  have em : Ip.moreV (Ip.pkt 6 src dst id 16 (D.drop 16)) = false := rfl
  have ek : Ip.keyV (Ip.pkt 6 src dst id 16 (D.drop 16)) = src * 65536 + 1536 + id := by
    show src * 65536 + 6 * 256 + id = _
    omega
  have hbad : ¬ Ip.rowBad r (Ip.offV (Ip.pkt 6 src dst id 16 (D.drop 16)) + ((Ip.pkt 6 src dst id 16 (D.drop 16)).length - 8)) (Ip.moreV (Ip.pkt 6 src dst id 16 (D.drop 16))) = true := by
    rw [el, eo, em]
    unfold Ip.rowBad
    rw [if_neg (by decide), hr.tot]
    simp only [Bool.or_eq_true, Bool.and_eq_true, decide_eq_true_eq, List.any_eq_true, List.mem_range, not_or, not_exists, not_and]
    refine ⟨fun h => by omega, fun k hk hk2 => ?_⟩
    rw [hr.hi k (by omega) hk]
    decide
  have hfull : Ip.rowFull (Ip.nextRow r (Ip.pkt 6 src dst id 16 (D.drop 16))) = true := by
    have et : (Ip.nextRow r (Ip.pkt 6 src dst id 16 (D.drop 16))).total = (D.length : Int) := by
      show (if Ip.moreV (Ip.pkt 6 src dst id 16 (D.drop 16)) = true then r.total else ((Ip.offV (Ip.pkt 6 src dst id 16 (D.drop 16)) + ((Ip.pkt 6 src dst id 16 (D.drop 16)).length - 8) : Nat) : Int)) = _
      rw [el, eo, em, if_neg (by decide)]
      omega
    have ec : (Ip.nextRow r (Ip.pkt 6 src dst id 16 (D.drop 16))).cell = Ip.layC r.cell 16 (D.drop 16) := rfl
    unfold Ip.rowFull
    rw [et, ec]
    simp only [Bool.and_eq_true, decide_eq_true_eq, List.all_eq_true, List.mem_range]
    refine ⟨by omega, fun k hk => ?_⟩
    rw [Ip.layC_get (by omega)]
    by_cases c : 16 ≤ k ∧ k < 16 + (D.drop 16).length
    · rw [if_pos c]
      refine hb _ ?_
      rw [List.getD_eq_getElem?_getD, List.getElem?_eq_getElem (by omega)]
      exact List.getElem_mem _
    · rw [if_neg c]
      exact hr.lo k (by omega)
  unfold Ip.fragR
  rw [if_neg hbad, if_pos hfull]
  refine ⟨rfl, ?_⟩
  show Ip.remA (Ip.keyV _) (Ip.insA r A) = A
  rw [ek]
  exact rem_ins hk hr.key
theorem in_two1n (h16 : 16 < D.length) (h20 : D.length ≤ 20) (hk : NoKey (src * 65536 + 1536 + id) A) (h3 : A.length = 3) : Ip.inF dst A (Ip.pktF 6 src dst id D 1) = Ip.noneR 11 A := by
  have hl : (D.drop 16).length = D.length - 16 := by rw [List.length_drop]
  rw [pkt1 h16 h20, inF_pkt (by omega) (by rw [hl]; show 16 + _ ≤ 40; omega) (by omega), if_neg (by decide), show src * 65536 + 6 * 256 + id = src * 65536 + 1536 + id by omega, find_none hk]
  simp only [if_pos h3]
end
end Go.Proofs.Qxb6500424aGreat
