/-
  hostlaw: Close and Abort, the plain part.
-/
import Derived.Test.Qxb6500424aGreatHmX
set_option linter.unusedVariables false
set_option linter.unusedSimpArgs false
open Go.Vc
namespace Go.Proofs.Qxb6500424aGreat
def fE (b : Bool) : CS → OutC := cond b abortF closeF
theorem closeF_G (x : CS) : (closeF x).G.length ≤ 2 := by
  unfold closeF
  split
  · simp
  split
  · simp
  split
  · simp
  split
  · simp
  · exact pump_len _
theorem closeF_st1 {x : CS} (h : x.st = 1) : (closeF x).C.st = 4 := by
  unfold closeF
  rw [if_neg (by omega), if_neg (by omega), if_pos h]
  rfl
theorem W16.fE {b : Bool} {x : CS} (h : W16 x) : W16 (fE b x).C := by
  cases b
  · exact h.close
  · exact h.abort
theorem fE_G (b : Bool) (x : CS) : (fE b x).G.length ≤ 2 := by
  cases b
  · exact closeF_G x
  · exact Nat.le_trans (abort_len x) (by omega)
theorem getE_del {E : List Sk.AE} {nsd : Int} {t : Nat} {sd : Int} (hE : Sk.EI E nsd t) : Sk.getE ((Sk.delE sd E).map (Sk.orp sd)) sd = none := by
  unfold Sk.getE
  refine List.find?_eq_none.2 fun x hx => ?_
  obtain ⟨y, hy, rfl⟩ := List.mem_map.1 hx
  have h2 := (List.mem_filter.1 hy).2
  have e : (Sk.orp sd y).1.sd = y.1.sd := by unfold Sk.orp; split <;> rfl
  simp only [decide_eq_true_eq]
  rw [e]
  simpa using h2
section
variable {w0 w w' : World} {a c d q i : Nat} {m m' : LH} {r r' : LR} {k k' : LC} {n n' : Int} {sd mx : Int} {ab : Bool} {Z : Zf}
structure KidOk (t : TC) (s : Int) : Prop where
  ex : ∃ x, Sk.getE t.K.E s = some x ∧ x.1.par = 0 ∧ (infoC t x).st = 4 ∧ (infoC t x).why ≠ 0
structure LisEnd (Z : Zf) (n : Int) (m : LH) (r : LR) (k : LC) (c : Nat) (sd : Int) (ab : Bool) : Prop where
  e : (endT (fE ab) sd (m.H c).t).e = 0
  gone : Sk.getE (endT (fE ab) sd (m.H c).t).t.K.E sd = none
  kid : ∀ x ∈ (m.H c).t.K.E, x.1.par = sd → KidOk (endT (fE ab) sd (m.H c).t).t x.1.sd
  co : CallOk Z n m r k c (endT (fE ab) sd (m.H c).t) (r.N.map (·.E))
structure AboEnd (Z : Zf) (n : Int) (m : LH) (r : LR) (k : LC) (c : Nat) (sd : Int) : Prop where
  e : (endT (fE true) sd (m.H c).t).e = 0
  ended : ∃ x, Sk.getE (endT (fE true) sd (m.H c).t).t.K.E sd = some x ∧ (infoC (endT (fE true) sd (m.H c).t).t x).st = 4 ∧ (infoC (endT (fE true) sd (m.H c).t).t x).why ≠ 0
  co : CallOk Z n m r k c (endT (fE true) sd (m.H c).t) (r.N.map (·.E))
structure CloEnd (Z : Zf) (n : Int) (m : LH) (r : LR) (k : LC) (c : Nat) (sd : Int) (i : Nat) (y : PEM) : Prop where
  e : (endT (fE false) sd (m.H c).t).e = 0
  at_ : r.N[i]? = some y
  find : ∀ (j : Nat) z, r.N[j]? = some z → (z.E.h : Int) = (c : Int) → z.E.sd = sd → j = i
  hh : y.E.h = c ∧ y.E.sd = sd
  co : CallOk Z n m r k c (endT (fE false) sd (m.H c).t) ((r.N.map (·.E)).set i { y.E with clo := true })
theorem lis_end (hg : GoodZ Z n m r k) (h0 : 0 ≤ n) (hc : c < 3) (hz : ¬ Z.on m k) (hl : lisB (m.H c).t.K.E sd = true) : LisEnd Z n m r k c sd ab := by
  obtain ⟨G, X, Lg, M, pw, rs, gb⟩ := hg.pw
  have ok := hg.hs.ok c hc
  have ev : endT (fE ab) sd (m.H c).t = ⟨(), 0, (shutT sd (m.H c).t).1, (shutT sd (m.H c).t).2⟩ := endT_lis hl
  obtain ⟨G', X', N, af, sr, hlen, cal, kids⟩ := pw.sys.shut hc hl
  have hK : (shutLT sd (sdsE (m.H c).t.K.E) (m.H c).t).1.K = (m.H c).t.K := KStep.shutL sd _ _
  have hE6 := rows6' ok.sk
  have hGl : (shutT sd (m.H c).t).2.length ≤ 12 := by
    have h1 := shutL_len sd (sdsE (m.H c).t.K.E) (m.H c).t
    have h2 : (sdsE (m.H c).t.K.E).length = (m.H c).t.K.E.length := by simp [sdsE]
    show (shutLT sd (sdsE (m.H c).t.K.E) (m.H c).t).2.length ≤ 12
    omega
  have hget : ∃ x, Sk.getE (m.H c).t.K.E sd = some x := by
    unfold lisB at hl
    cases hgg : Sk.getE (m.H c).t.K.E sd with
    | none => rw [hgg] at hl; cases hl
    | some x => exact ⟨x, rfl⟩
  obtain ⟨xl, hxl⟩ := hget
  have eK : (shutT sd (m.H c).t).1.K = { (m.H c).t.K with E := (Sk.delE sd (m.H c).t.K.E).map (Sk.orp sd) } := by
    show (Sk.freeA sd (shutLT sd (sdsE (m.H c).t.K.E) (m.H c).t).1.K).2 = _
    rw [hK]
    unfold Sk.freeA
    rw [hxl]
  have hsk : Sk.SkOk (shutT sd (m.H c).t).1.K := by
    have := (af.sys.tab c hc).sk
    rw [updH_at] at this
    exact this
  refine ⟨by rw [ev], by rw [ev]; show Sk.getE (shutT sd (m.H c).t).1.K.E sd = none; rw [eK]; exact getE_del ok.sk.ei, fun x hx hp => ?_, ?_⟩
  · rw [ev]
    have hsd0 := lisB_ne ok.sk hl
    have hk2 : x.1.kind = 2 := by
      rcases (ok.sk.ei.ok x hx).kind with z | z
      · have := ((ok.sk.ei.ok x hx).lis z).2.2.2.2.2.1
        omega
      · exact z
    obtain ⟨s4, sw⟩ := kids x hx hk2 hp
    have hne : x.1.sd ≠ sd := fun z => by
      have h1 := getE_mem hxl
      have := ok.sk.ei.uniq hx h1.1 (by rw [z, h1.2])
      subst this
      unfold lisB at hl
      rw [hxl] at hl
      have : x.1.kind = 1 := by simpa using hl
      omega
    have hm : Sk.orp sd x ∈ (shutT sd (m.H c).t).1.K.E := by
      rw [eK]
      exact List.mem_map.2 ⟨x, List.mem_filter.2 ⟨hx, by simpa using hne⟩, rfl⟩
    have eo : Sk.orp sd x = ({ x.1 with par := 0, rdy := false }, x.2) := by
      unfold Sk.orp
      rw [if_pos hp]
    have es : (Sk.orp sd x).1.sd = x.1.sd := by rw [eo]
    refine ⟨⟨Sk.orp sd x, ?_, by rw [eo], ?_, ?_⟩⟩
    · rw [← es]
      exact Sk.getE_some hsk.ei hm
    · unfold infoC
      rw [if_pos (by rw [eo]; exact hk2)]
      have : slotN (Sk.orp sd x) = slotN x := by rw [eo]; rfl
      rw [this]
      exact s4
    · unfold infoC
      rw [if_pos (by rw [eo]; exact hk2)]
      have : slotN (Sk.orp sd x) = slotN x := by rw [eo]; rfl
      rw [this]
      exact sw
  · rw [ev]
    refine callOk_same (G' := G') (X' := X') (N := N) hg h0 hc pw rs gb af sr hlen cal hGl ⟨0, ?_⟩ ?_ ?_ hz
    · have := KStep.endT (t := (m.H c).t) (fE ab) sd ok.sk
      rw [ev] at this
      exact this
    · show (shutT sd (m.H c).t).1.K.nsd ≤ _
      rw [eK]
      show (m.H c).t.K.nsd ≤ _
      omega
    · have := WT.endT (t := (m.H c).t) (f := fE ab) (sd := sd) (fun x hx => W16.fE hx) (hg.hs.why c hc)
      rw [ev] at this
      exact this
theorem endT_ours {f : CS → OutC} {t : TC} {x : Sk.AE} (hl : lisB t.K.E sd = false) (ho : oursE t.K.E sd = some x) : endT f sd t = if (f (t.C (slotN x))).e ≠ 0 then ⟨(), (f (t.C (slotN x))).e, ⟨t.K, updX t.C (slotN x) (f (t.C (slotN x))).C⟩, []⟩ else ⟨(), 0, ⟨t.K, updX t.C (slotN x) (f (t.C (slotN x))).C⟩, (f (t.C (slotN x))).G.map (stampS x.1)⟩ := by
  unfold endT
  rw [if_neg (by rw [hl]; simp), ho]
theorem endT_facts {b : Bool} {t : TC} {x : Sk.AE} (hl : lisB t.K.E sd = false) (ho : oursE t.K.E sd = some x) : (endT (fE b) sd t).e = (fE b (t.C (slotN x))).e ∧ (endT (fE b) sd t).G.length ≤ 12 ∧ (endT (fE b) sd t).t.K = t.K ∧ (endT (fE b) sd t).t.C = updX t.C (slotN x) (fE b (t.C (slotN x))).C := by
  rw [endT_ours hl ho]
  by_cases h : (fE b (t.C (slotN x))).e ≠ 0
  · rw [if_pos h]
    exact ⟨rfl, by simp, rfl, rfl⟩
  · rw [if_neg h]
    refine ⟨by show (0 : Int) = _; omega, ?_, rfl, rfl⟩
    show ((fE b (t.C (slotN x))).G.map (stampS x.1)).length ≤ 12
    rw [List.length_map]
    have := fE_G b (t.C (slotN x))
    omega
theorem abo_end {x : Sk.AE} (hg : GoodZ Z n m r k) (h0 : 0 ≤ n) (hc : c < 3) (hz : ¬ Z.on m k) (hl : lisB (m.H c).t.K.E sd = false) (ho : oursE (m.H c).t.K.E sd = some x) : AboEnd Z n m r k c sd := by
  obtain ⟨G, X, Lg, M, pw, rs, gb⟩ := hg.pw
  have ok := hg.hs.ok c hc
  obtain ⟨i, g, g2, N, ro, e0, af, kq, s4, sw⟩ := pw.sys.abort hc hl ho
  obtain ⟨f1, f2, f3, f4⟩ := endT_facts (b := true) hl ho
  obtain ⟨hget, hk2, hp0⟩ := oursE_kind ho
  have hC : (m.H c).t.C (slotN x) = X i := ro.C
  have ei : infoC (endT (fE true) sd (m.H c).t).t x = (abortF (X i)).C := by
    unfold infoC
    rw [if_pos hk2, f4]
    show updX _ (slotN x) (abortF ((m.H c).t.C (slotN x))).C (slotN x) = _
    unfold updX
    rw [if_pos rfl, hC]
  refine ⟨e0, ⟨x, by rw [f3]; exact hget, by rw [ei]; exact s4, by rw [ei]; exact sw⟩, ?_⟩
  refine callOk_same (G' := G.set i g2) (X' := updX X i (abortF (X i)).C) (N := N) hg h0 hc pw rs gb af (SameSR.set ro.at_ kq.S kq.R kq.wc) (List.length_set ..) (fun j gj _ _ z => ?_) f2 ⟨0, by rw [f3]; exact KStep.refl ok.sk⟩ (by rw [f3]; omega) (WT.endT (fun x hx => W16.fE hx) (hg.hs.why c hc)) hz
  unfold updX at z
  split at z
  · omega
  · exact z
theorem clo_end {x : Sk.AE} (hg : GoodZ Z n m r k) (h0 : 0 ≤ n) (hc : c < 3) (hz : Z.on m k → ((m.H c).t.C (slotN x)).st = 3) (hl : lisB (m.H c).t.K.E sd = false) (ho : oursE (m.H c).t.K.E sd = some x) : ((endT (fE false) sd (m.H c).t).e ≠ 0 ∧ (endT (fE false) sd (m.H c).t).t = (m.H c).t) ∨ ∃ i y, CloEnd Z n m r k c sd i y := by
  obtain ⟨G, X, Lg, M, pw, rs, gb, fz⟩ := hg.ghost
  have ok := hg.hs.ok c hc
  rcases pw.sys.close hc hl ho with ⟨e0, et, _⟩ | ⟨i, g, g2, N, ro, e0, ec, af, kp, gS, gR, hcase⟩
  · exact .inl ⟨e0, et⟩
  right
  obtain ⟨f1, f2, f3, f4⟩ := endT_facts (b := false) hl ho
  have hsd : x.1.sd = sd := (getE_mem (oursE_kind ho).1).2
  obtain ⟨y, hy, yh, ys, dn, fd⟩ := row_find pw.sys rs hc ro
  rw [hsd] at ys fd
  have hyE : (r.N.map (·.E))[i]? = some y.E := by rw [List.getElem?_map, hy]; rfl
  have gbi := gb.S i g ro.at_
  have eX : updX X i (closeF (X i)).C i = (closeF (X i)).C := by unfold updX; rw [if_pos rfl]
  refine ⟨i, y, e0, hy, fd, ⟨yh, ys⟩, ?_⟩
  refine callOk_set hg h0 hc pw rs gb af hyE ro.at_ ro.gone (fun j hj => by unfold updX; rw [if_neg hj]) ⟨?_, fun _ => rfl, fun _ _ => ?_, by rw [gR]; omega, by rw [gS]; omega⟩ (fun z => ?_) (by rw [gS]; omega) (by rw [gR]; omega) f2 ⟨0, by rw [f3]; exact KStep.refl ok.sk⟩ (by rw [f3]; omega) (WT.endT (fun x hx => W16.fE hx) (hg.hs.why c hc)) fz (fun z => callF_of ro.at_ ro.gone ro.h (.inl (by rw [← ro.C]; exact hz z)) (ClX.close (pw.sys.liv ro.at_ ro.gone).ok (by rw [← ro.C]; exact hz z) ec).1 (close_ackT hl) f3) ⟨rfl, rfl⟩
  · show ({ y.E with clo := true } : PE) = { y.E with S := g2.S, R := g2.R, clo := true }
    rw [gS, gR, ← dn.S, ← dn.R]
  · rcases hcase with ⟨_, z⟩ | ⟨z, _⟩
    · exact .inl z
    · right
      rw [eX]
      exact closeF_st1 z
  · rcases hcase with ⟨z2, _⟩ | ⟨z2, _⟩
    · exact z2
    · rw [eX, closeF_st1 z2] at z
      omega
end
end Go.Proofs.Qxb6500424aGreat
