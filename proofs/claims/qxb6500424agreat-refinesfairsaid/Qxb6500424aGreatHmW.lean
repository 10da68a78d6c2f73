/-
  hostlaw: Recv.
-/
import Derived.Test.Qxb6500424aGreatHmV
set_option linter.unusedVariables false
set_option linter.unusedSimpArgs false
open Go.Vc
namespace Go.Proofs.Qxb6500424aGreat
theorem recvF_e0 {mx : Int} {x : CS} (h : (recvF mx x).2.e ≠ 0) : (recvF mx x).1 = [] := by
  unfold recvF at h ⊢
  split
  · rfl
  split
  · rfl
  split
  · split
    · rfl
    · split <;> rfl
  · rename_i h1 h2 h3
    rw [if_neg h1, if_neg h2, if_neg h3] at h
    exact absurd rfl h
theorem recvF_st (mx : Int) (x : CS) : (recvF mx x).2.C.st = x.st := by
  unfold recvF
  split
  · rfl
  split
  · rfl
  split
  · split
    · rfl
    · split <;> rfl
  · rfl
theorem recvF_G (mx : Int) (x : CS) : (recvF mx x).2.G.length ≤ 1 := by
  unfold recvF
  split
  · simp
  split
  · simp
  split
  · split
    · simp
    · split <;> simp
  · show (if _ then [_] else []).length ≤ 1
    split <;> simp
theorem recvF_eof {mx : Int} {x : CS} (hw : W16 x) (h : (recvF mx x).2.e = 16) : x.B.A = [] ∧ x.pf = true := by
  unfold recvF at h
  split at h
  · cases h
  split at h
  · cases h
  split at h
  · rename_i hA
    split at h
    · rename_i hp
      exact ⟨List.eq_nil_of_length_eq_zero hA, hp⟩
    · split at h
      · exact absurd h hw
      · cases h
  · cases h
theorem recvF_take (mx : Int) (x : CS) : ∃ j, (recvF mx x).1 = x.B.A.take j := by
  unfold recvF
  split
  · exact ⟨0, rfl⟩
  split
  · exact ⟨0, rfl⟩
  split
  · split
    · exact ⟨0, rfl⟩
    · split <;> exact ⟨0, rfl⟩
  · exact ⟨_, rfl⟩
section
variable {w0 w w' : World} {a c d q i : Nat} {m m' : LH} {r r' : LR} {k k' : LC} {n n' : Int} {sd mx : Int} {Z : Zf}
theorem recvT_eq {t : TC} {x : Sk.AE} (ho : oursE t.K.E sd = some x) : (recvT sd mx t).e = (recvF mx (t.C (slotN x))).2.e ∧ (recvT sd mx t).v = (recvF mx (t.C (slotN x))).1 ∧ (recvT sd mx t).G.length ≤ 12 := by
  unfold recvT
  rw [ho]
  show (if (recvF mx (t.C (slotN x))).2.e ≠ 0 then _ else _ : CallR (List Int)).e = _ ∧ (if (recvF mx (t.C (slotN x))).2.e ≠ 0 then _ else _ : CallR (List Int)).v = _ ∧ (if (recvF mx (t.C (slotN x))).2.e ≠ 0 then _ else _ : CallR (List Int)).G.length ≤ 12
  by_cases h : (recvF mx (t.C (slotN x))).2.e ≠ 0
  · rw [if_pos h]
    exact ⟨rfl, (recvF_e0 h).symm, by simp⟩
  · rw [if_neg h]
    refine ⟨by show (0 : Int) = _; omega, rfl, ?_⟩
    show ((recvF mx (t.C (slotN x))).2.G.map (stampS x.1)).length ≤ 12
    rw [List.length_map]
    have := recvF_G mx (t.C (slotN x))
    omega
structure RecvOk (Z : Zf) (n : Int) (m : LH) (r : LR) (k : LC) (c : Nat) (sd mx : Int) (i j : Nat) (y yp : PEM) : Prop where
  e : (recvT sd mx (m.H c).t).e = 0
  pos : 0 < (recvT sd mx (m.H c).t).v.length ∧ (recvT sd mx (m.H c).t).v.length ≤ 16
  at_ : r.N[i]? = some y
  find : ∀ (j : Nat) z, r.N[j]? = some z → (z.E.h : Int) = (c : Int) → z.E.sd = sd → j = i
  hh : y.E.h = c ∧ y.E.sd = sd
  peer : y.E.peer = (j : Int)
  atp : r.N[j]? = some yp
  ne : j ≠ i
  pre : (y.E.R ++ (recvT sd mx (m.H c).t).v).length ≤ yp.E.S.length ∧ yp.E.S.take (y.E.R ++ (recvT sd mx (m.H c).t).v).length = y.E.R ++ (recvT sd mx (m.H c).t).v
  Rl : (y.E.R.length : Int) ≤ n
  nl : 400 * (r.N.length : Int) ≤ n
  co : CallOk Z n m r k c (recvT sd mx (m.H c).t) ((r.N.map (·.E)).set i { y.E with R := y.E.R ++ (recvT sd mx (m.H c).t).v })
structure EofOk (n : Int) (r : LR) (c : Nat) (sd : Int) (i j : Nat) (y yp : PEM) : Prop where
  at_ : r.N[i]? = some y
  find : ∀ (j : Nat) z, r.N[j]? = some z → (z.E.h : Int) = (c : Int) → z.E.sd = sd → j = i
  hh : y.E.h = c ∧ y.E.sd = sd
  peer : y.E.peer = (j : Int)
  atp : r.N[j]? = some yp
  clo : yp.E.clo = true
  eq : y.E.R = yp.E.S
  Rl : (y.E.R.length : Int) ≤ n
/-- What Recv's plain side may be. -/
def RecvC (Z : Zf) (n : Int) (m : LH) (r : LR) (k : LC) (c : Nat) (sd mx : Int) : Prop :=
  ((recvT sd mx (m.H c).t).e ≠ 0 ∧ (recvT sd mx (m.H c).t).t = (m.H c).t ∧ (recvT sd mx (m.H c).t).v = [] ∧ ((recvT sd mx (m.H c).t).e = 16 → ∃ i j y yp, EofOk n r c sd i j y yp)) ∨
  (∃ i : Nat, ∃ j : Nat, ∃ y : PEM, ∃ yp : PEM, RecvOk Z n m r k c sd mx i j y yp)
theorem RecvC.bad {n : Int} {m : LH} {r : LR} {k : LC} {c : Nat} {sd mx : Int}  (q0 : (recvT sd mx (m.H c).t).e ≠ 0) (q1 : (recvT sd mx (m.H c).t).t = (m.H c).t) (q2 : (recvT sd mx (m.H c).t).v = []) (q3 : ((recvT sd mx (m.H c).t).e = 16 → ∃ i j y yp, EofOk n r c sd i j y yp)) : RecvC Z n m r k c sd mx :=
  Or.inl ⟨q0, q1, q2, q3⟩
theorem RecvC.good {n : Int} {m : LH} {r : LR} {k : LC} {c : Nat} {sd mx : Int} (i j : Nat) (y yp : PEM) (q0 : RecvOk Z n m r k c sd mx i j y yp) : RecvC Z n m r k c sd mx :=
  Or.inr (⟨i, j, y, yp, q0⟩)
theorem recv_plain {x : Sk.AE} (hg : GoodZ Z n m r k) (h0 : 0 ≤ n) (hc : c < 3) (ho : oursE (m.H c).t.K.E sd = some x) : RecvC Z n m r k c sd mx := by
  obtain ⟨G, X, Lg, M, pw, rs, gb, fz⟩ := hg.ghost
  have hsd : x.1.sd = sd := (getE_mem (oursE_kind ho).1).2
  have hxm := (getE_mem (oursE_kind ho).1).1
  have hk2 := (oursE_kind ho).2.1
  have hnl : (r.N.map (·.E)).length = G.length := rs.len
  have hnl2 : r.N.length = G.length := by simpa using hnl
  obtain ⟨q1, q2, q3⟩ := recvT_eq (mx := mx) ho
  -- the peer of a row that has opened
  have peer : ∀ {i : Nat} {g : GE}, RowOk c (m.H c).t G X x i g → ((X i).st = 3 ∨ ((X i).st = 4 ∧ (X i).why = 0)) → ∃ (j : Nat) (yg : GE) (y yp : PEM), r.N[i]? = some y ∧ y.E.h = c ∧ y.E.sd = sd ∧ Done G X i y.E g ∧ (∀ (j : Nat) z, r.N[j]? = some z → (z.E.h : Int) = (c : Int) → z.E.sd = sd → j = i) ∧ y.E.peer = (j : Int) ∧ r.N[j]? = some yp ∧ j ≠ i ∧ Done G X j yp.E yg ∧ OpenOk g yg (X i) ∧ Dir yg g := fun {i g} ro h3 => by
    obtain ⟨y, hy, yh, ys, dn, fd⟩ := row_find pw.sys rs hc ro
    rw [hsd] at ys fd
    have lv := pw.sys.inv.live i g ro.at_ ro.gone
    obtain ⟨j, yg, hyg, pr, oo, _⟩ := lv.s3 h3
    have hpr : g.pr = some j := by
      rcases pr with ⟨_, es⟩ | ⟨_, es⟩
      · exact es.pr
      · exact es.pr2
    have hdir : Dir yg g := by
      rcases pr with ⟨_, es⟩ | ⟨_, es⟩
      · exact es.d2
      · exact es.d1
    have hjl := (List.getElem?_eq_some_iff.1 hyg).1
    have hyp : r.N[j]? = some (r.N[j]'(by omega)) := List.getElem?_eq_getElem _
    have dp := rs.end_ j (r.N[j]'(by omega)).E yg (by rw [List.getElem?_map, hyp]; rfl) hyg
    exact ⟨j, yg, y, _, hy, yh, ys, dn, fd, by rw [dn.pe, hpr]; rfl, hyp, fun z => pr.ne ro.at_ hyg z.symm, dp, oo, hdir⟩
  have st34 : ∀ {i : Nat} {g : GE}, RowOk c (m.H c).t G X x i g → 0 < (X i).B.A.length → (X i).st = 3 ∨ (X i).st = 4 := fun {i g} ro hA => by
    have lv := pw.sys.inv.live i g ro.at_ ro.gone
    have h1 := lv.ok.st
    have h2 := lv.nz
    by_cases c12 : (X i).st = 1 ∨ (X i).st = 2
    · have := (open_A lv c12).1
      rw [this] at hA
      simp at hA
    · omega
  rcases pw.sys.recv (mx := mx) hc ho with ⟨e0, et, eG, ev⟩ | ⟨i, g, g2, N, ro, hmx, hA, e0, ev, af, kp, gS, gR, gw, gp⟩
  · refine .bad e0 et ev fun e16 => ?_
    obtain ⟨i, g, ro⟩ := (pw.sys.tab c hc).row x hxm hk2
    have hC : (m.H c).t.C (slotN x) = X i := ro.C
    rw [q1, hC] at e16
    have hw : W16 (X i) := by rw [← hC]; exact hg.hs.why c hc (slotN x)
    obtain ⟨hA, hpf⟩ := recvF_eof hw e16
    have lv := pw.sys.inv.live i g ro.at_ ro.gone
    have h3 : (X i).st = 3 ∨ ((X i).st = 4 ∧ (X i).why = 0) := by
      apply Classical.byContradiction
      intro o3
      have : (X i).pf = false := by
        by_cases c4 : (X i).st = 4
        · exact (fail_A lv.ok c4 (fun q => o3 (.inr ⟨c4, q⟩))).2
        · exact (open_A lv (st12 lv.ok.st lv.nz c4 (fun q => o3 (.inl q)))).2
      rw [hpf] at this
      cases this
    obtain ⟨j, yg, y, yp, hy, yh, ys, dn, fd, hpe, hyp, hne, dp, oo, dd⟩ := peer ro h3
    obtain ⟨f1, f2⟩ := dd.pf (by rw [← oo.pf]; exact hpf)
    refine ⟨i, j, y, yp, hy, fd, ⟨yh, ys⟩, hpe, hyp, dp.clo1 (dd.fs f1).2, ?_, by rw [dn.R]; exact (gb.S i g ro.at_).2⟩
    have hR := oo.A
    rw [hA, List.append_nil, f2, List.take_of_length_le (Nat.le_refl _)] at hR
    rw [dn.R, hR, dp.S]
  · have lv := pw.sys.inv.live i g ro.at_ ro.gone
    have h3 : (X i).st = 3 ∨ ((X i).st = 4 ∧ (X i).why = 0) := by
      apply Classical.byContradiction
      intro o3
      have : (X i).B.A = [] := by
        by_cases c4 : (X i).st = 4
        · exact (fail_A lv.ok c4 (fun q => o3 (.inr ⟨c4, q⟩))).1
        · exact (open_A lv (st12 lv.ok.st lv.nz c4 (fun q => o3 (.inl q)))).1
      rw [this] at hA
      simp at hA
    obtain ⟨j, yg, y, yp, hy, yh, ys, dn, fd, hpe, hyp, hne, dp, oo, dd⟩ := peer ro h3
    have hAl := lv.ok.B.len
    obtain ⟨jt, hjt⟩ := recvF_take mx (X i)
    have ev2 : (recvT sd mx (m.H c).t).v = (X i).B.A.take jt := by rw [← hjt]; exact ev
    have hvl : (recvT sd mx (m.H c).t).v.length ≤ (X i).B.A.length := by rw [ev2, List.length_take]; omega
    have hpos : 0 < (recvT sd mx (m.H c).t).v.length := by
      have hC : (m.H c).t.C (slotN x) = X i := ro.C
      rw [ev]
      unfold recvF
      rw [if_neg lv.nz, if_neg (by omega), if_neg (by omega)]
      show 0 < ((X i).B.A.take (leastN mx (X i).B.A.length)).length
      rw [List.length_take]
      have h2 : 0 < leastN mx (X i).B.A.length := by
        unfold leastN
        omega
      omega
    have hyE : (r.N.map (·.E))[i]? = some y.E := by rw [List.getElem?_map, hy]; rfl
    have gbi := gb.S i g ro.at_
    refine .good i j y yp ⟨e0, ⟨hpos, by omega⟩, hy, fd, ⟨yh, ys⟩, hpe, hyp, hne, ?_, by rw [dn.R]; exact gbi.2, by have := gb.len; omega, ?_⟩
    · have hA2 := oo.A
      have e1 : y.E.R ++ (recvT sd mx (m.H c).t).v = (yg.S.take g.rc).take (g.R.length + jt) := by
        rw [← hA2, List.take_append, dn.R, ev2, List.take_of_length_le (show g.R.length ≤ g.R.length + jt by omega), show g.R.length + jt - g.R.length = jt by omega]
      rw [e1, dp.S, List.take_take]
      refine ⟨by rw [List.length_take]; omega, ?_⟩
      rw [List.length_take]
      apply List.ext_getElem?
      intro p
      rw [List.getElem?_take, List.getElem?_take]
      by_cases z : p < min (g.R.length + jt) g.rc
      · by_cases z2 : p < yg.S.length
        · rw [if_pos (by omega), if_pos z]
        · rw [List.getElem?_eq_none (by omega)]
          simp
      · rw [if_neg (by omega), if_neg z]
    · refine callOk_set hg h0 hc pw rs gb af hyE ro.at_ ro.gone (fun j hj => by unfold updX; rw [if_neg hj]) ⟨?_, fun z => dn.clo1 (by rw [← gw]; exact z), fun z z2 => ?_, ?_, by rw [gS]; omega⟩ (fun z => ?_) (by rw [gS]; omega) ?_ q3 ⟨0, by rw [recvT_K]; exact KStep.refl (hg.hs.ok c hc).sk⟩ (by rw [recvT_K]; omega) (hg.hs.why c hc).recv fz (fun _ => callF_of ro.at_ ro.gone ro.h (st34 ro hA) (ClX.recv _) recv_ackT (recvT_K ..)) ⟨rfl, rfl⟩
      · show ({ y.E with R := y.E.R ++ (recvT sd mx (m.H c).t).v } : PE) = { y.E with S := g2.S, R := g2.R, clo := y.E.clo }
        rw [gS, gR, ← dn.S, ← dn.R, ← ev]
      · rcases dn.clo2 z ro.gone with y1 | y1
        · exact .inl (by rw [gw]; exact y1)
        · right
          show (updX X i (recvF mx (X i)).2.C i).st = 4
          unfold updX
          rw [if_pos rfl, recvF_st]
          exact y1
      · rw [gR, List.length_append, ← ev]; omega
      · have z' : (updX X i (recvF mx (X i)).2.C i).st = 3 := z
        unfold updX at z'
        rw [if_pos rfl, recvF_st] at z'
        exact z'
      · rw [gR, List.length_append, ← ev]; omega
end
end Go.Proofs.Qxb6500424aGreat
