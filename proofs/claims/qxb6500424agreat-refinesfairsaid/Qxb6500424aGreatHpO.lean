/-
  host: the plain law of the network: the caller's calls.
-/
import Derived.Test.Qxb6500424aGreatHpN
set_option linter.unusedVariables false
set_option linter.unusedSimpArgs false
namespace Go.Proofs.Qxb6500424aGreat
section
variable {T : Int} {t : Nat → TC} {G : List GE} {X : Nat → CS} {Lg N : List LE} {c i : Nat} {g g2 : GE} {x' : CS} {a : Sk.AE} {e : LE} {sd mx : Int} {P : List Int}
theorem send_pf {P : List Int} {x : CS} (h : x.pf = true) : (sendF P x).2.C.pf = true := by
  unfold sendF
  repeat' split
  all_goals first | exact h | (show (pumpF _).1.pf = true; rw [(pump_B _).2.1]; exact h)
theorem recv_pf {mx : Int} {x : CS} (h : x.pf = true) : (recvF mx x).2.C.pf = true := by
  unfold recvF
  repeat' split
  all_goals exact h
theorem close_pf {x : CS} (h : x.pf = true) : (closeF x).C.pf = true ∨ (closeF x).C.st = 4 := by
  unfold closeF
  repeat' split
  all_goals first | exact .inl h | exact .inr rfl | (left; show (pumpF _).1.pf = true; rw [(pump_B _).2.1]; exact h)
theorem send_A {P : List Int} (x : CS) : (sendF P x).2.C.B = x.B := by
  unfold sendF
  repeat' split
  all_goals first | rfl | (show (pumpF _).1.B = _; rw [(pump_B _).1])
theorem recv_A {mx : Int} {x : CS} : x.B.A.length ≤ (recvF mx x).1.length + (recvF mx x).2.C.B.A.length := by
  unfold recvF
  repeat' split
  all_goals first
    | (show _ ≤ (x.B.A.take (leastN mx x.B.A.length)).length + (readA mx x.B).A.length
       unfold readA
       simp only [List.length_take, List.length_drop]
       omega)
    | simp
theorem close_A {x : CS} : (closeF x).C.B = x.B ∨ (closeF x).C.st = 4 := by
  unfold closeF
  repeat' split
  all_goals first | exact .inl rfl | exact .inr rfl | (left; show (pumpF _).1.B = _; rw [(pump_B _).1])
theorem oursE_some (h : oursE (t c).K.E sd = some a) : Sk.getE (t c).K.E sd = some a ∧ a.1.kind = 2 ∧ a.1.par = 0 := by
  unfold oursE at h
  split at h
  · cases h
  · rename_i b hb
    split at h
    · rename_i q
      cases h
      exact ⟨hb, q⟩
    · cases h
theorem upd_same (u : TC) (s : Nat) : (⟨u.K, updX u.C s (u.C s)⟩ : TC) = u := by rw [updX_self]
theorem SameSR.set (hi : G[i]? = some g) (h1 : g2.S = g.S) (h2 : g2.R = g.R) (h3 : g2.wc = g.wc) : SameSR G (G.set i g2) := fun k y y2 hy hy2 => by
  rcases set_cases hi hy2 with ⟨q, rfl⟩ | ⟨q, hy'⟩
  · subst q; rw [hi] at hy; cases hy; exact ⟨h1, h2, h3⟩
  · rw [hy] at hy'; cases hy'; exact ⟨rfl, rfl, rfl⟩
/-- Send on a row of the caller's: nothing changes, or bytes are taken on. -/
theorem Sys.send (h : Sys T t G X Lg) (hc : c < 3) (ho : oursE (t c).K.E sd = some a) (hP : IsB P) :
    ((sendT sd P (t c)).e ≠ 0 ∧ (sendT sd P (t c)).t = t c ∧ (sendT sd P (t c)).G = [] ∧ (sendT sd P (t c)).v = 0) ∨
    ∃ i g g2 k N, RowOk c (t c) G X a i g ∧ (X i).st = 3 ∧ g.wc = false ∧ (sendT sd P (t c)).e = 0 ∧ (sendT sd P (t c)).v = ((k : Nat) : Int) ∧ k ≤ P.length ∧ After T t (updH t c (sendT sd P (t c)).t) G X Lg c (sendT sd P (t c)).G (G.set i g2) (updX X i (sendF P (X i)).2.C) N ∧ Kp g g2 ∧ g2.S = g.S ++ P.take k ∧ g2.R = g.R ∧ g2.wc = g.wc := by
  obtain ⟨hg, hk, hp⟩ := oursE_some ho
  obtain ⟨ham, hsd, i, g, r⟩ := h.rowOf hc hg hk
  have tb := h.tab c hc
  have lv := h.inv.live i g r.at_ r.gone
  have es : sendT sd P (t c) = if (sendF P (X i)).2.e ≠ 0 then ⟨0, (sendF P (X i)).2.e, ⟨(t c).K, updX (t c).C (slotN a) (sendF P (X i)).2.C⟩, []⟩ else ⟨(sendF P (X i)).1, 0, ⟨(t c).K, updX (t c).C (slotN a) (sendF P (X i)).2.C⟩, (sendF P (X i)).2.G.map (stampS a.1)⟩ := by
    unfold sendT
    rw [ho, ← r.C]
  rw [es]
  by_cases ce : (sendF P (X i)).2.e ≠ 0
  · rw [if_pos ce]
    refine .inl ⟨ce, ?_, rfl, rfl⟩
    have eC : (sendF P (X i)).2.C = X i := by
      unfold sendF at ce ⊢
      repeat' split
      all_goals first | rfl | skip
      rename_i h1 h2 h3 h4 h5
      rw [if_neg h1, if_neg h2, if_neg h3, if_neg h4, if_neg h5] at ce
      exact absurd rfl ce
    show (⟨(t c).K, updX (t c).C (slotN a) (sendF P (X i)).2.C⟩ : TC) = t c
    rw [eC, ← r.C]
    exact upd_same (t c) _
  · rw [if_neg ce]
    have ce0 : (sendF P (X i)).2.e = 0 := by simpa using ce
    have h3 : (X i).st = 3 := by
      have hst := lv.ok.st
      have hnz := lv.nz
      unfold sendF at ce0
      by_cases c1 : (X i).st = 1 ∨ (X i).st = 2
      · rw [if_neg hnz, if_pos c1] at ce0; cases ce0
      · by_cases c4 : (X i).st = 4
        · rw [if_neg hnz, if_neg c1, if_pos c4] at ce0
          have ce1 : endedF (X i) = 0 := ce0
          unfold endedF at ce1
          split at ce1
          · rename_i q; exact absurd ce1 q
          · cases ce1
        · omega
    obtain ⟨g2, k, e1, e2, e3, iv, kp, pr2, s2, r2, w2, gn2, ot2⟩ := h.inv.send r.at_ r.gone (tkk i) h3 hP ce0 (leN_out T g i (sendF P (X i)).2.G)
    have lv2 := iv.live i g2 (set_at r.at_) gn2
    rw [show updX X i (sendF P (X i)).2.C i = (sendF P (X i)).2.C by simp [updX]] at lv2
    obtain ⟨o0, hot⟩ : ∃ o, g.ot = some o := by obtain ⟨_, _, _, _, _, o, q⟩ := h.inv.cn r.at_ r.gone h3; exact ⟨o, q⟩
    have st2 : (sendF P (X i)).2.C.st ≠ 2 := fun q => by have := (lv2.op (.inr q)).2.2.1; rw [ot2, hot] at this; cases this
    have st3 : (sendF P (X i)).2.C.st = 3 := by
      have w := pumpF_w (C := { X i with S := (putA P (X i).S).2 })
      unfold sendF at ce0 ⊢
      rw [if_neg lv.nz, if_neg (by omega), if_neg (by omega)] at ce0 ⊢
      by_cases c1 : (X i).wc = true
      · rw [if_pos c1] at ce0; cases ce0
      rw [if_neg c1] at ce0 ⊢
      by_cases c2 : 0 < P.length ∧ (X i).S.D.length = 16
      · rw [if_pos c2] at ce0; cases ce0
      rw [if_neg c2]
      show (pumpF { X i with S := (putA P (X i).S).2 }).1.st = 3
      unfold pumpF
      rw [if_pos (show (X i).st = 3 from h3)]
      show (pump2 (pump1 { X i with S := (putA P (X i).S).2 }).1).1.st = 3
      have p1 : ∀ y : CS, (pump1 y).1.st = y.st := fun y => by unfold pump1; split; rw [armF_eq]; rfl
      have p2 : ∀ y : CS, (pump2 y).1.st = y.st := fun y => by unfold pump2; split; rw [armF_eq]; rfl
      rw [p2, p1]
      exact h3
    have tb2 := tb.own (x' := (sendF P (X i)).2.C) ham hk r kp gn2 (fun q => absurd hp q) (fun q => absurd q st2)
    refine .inr ⟨i, g, g2, k, leN T g i (sendF P (X i)).2.G, r, h3, e3, rfl, e1, e2, ⟨h.one hc r.at_ r.h kp.h iv tb2, leN_cov r _, TrAll.one r.at_ r.gone ⟨kp, fun _ => ⟨.inl (by rw [st3, h3]), fun q => by omega⟩, fun q => (by rw [gn2] at q; cases q), .inl ⟨pr2, ot2, fun _ _ => h3⟩, fun q => (by rcases q with q | q | ⟨q, _⟩; rw [gn2] at q; cases q; omega; rw [st3] at q; cases q), fun _ _ q => send_pf q, fun _ _ => (by rw [r2, send_A]; exact Nat.le_refl _)⟩⟩, kp, s2, r2, w2⟩
/-- Recv on a row of the caller's: nothing changes, or bytes are read. -/
theorem Sys.recv (h : Sys T t G X Lg) (hc : c < 3) (ho : oursE (t c).K.E sd = some a) :
    ((recvT sd mx (t c)).e ≠ 0 ∧ (recvT sd mx (t c)).t = t c ∧ (recvT sd mx (t c)).G = [] ∧ (recvT sd mx (t c)).v = []) ∨
    ∃ i g g2 N, RowOk c (t c) G X a i g ∧ 0 < mx ∧ 0 < (X i).B.A.length ∧ (recvT sd mx (t c)).e = 0 ∧ (recvT sd mx (t c)).v = (recvF mx (X i)).1 ∧ After T t (updH t c (recvT sd mx (t c)).t) G X Lg c (recvT sd mx (t c)).G (G.set i g2) (updX X i (recvF mx (X i)).2.C) N ∧ Kp g g2 ∧ g2.S = g.S ∧ g2.R = g.R ++ (recvF mx (X i)).1 ∧ g2.wc = g.wc ∧ g2.pr = g.pr := by
  obtain ⟨hg, hk, hp⟩ := oursE_some ho
  obtain ⟨ham, hsd, i, g, r⟩ := h.rowOf hc hg hk
  have tb := h.tab c hc
  have lv := h.inv.live i g r.at_ r.gone
  have es : recvT sd mx (t c) = if (recvF mx (X i)).2.e ≠ 0 then ⟨[], (recvF mx (X i)).2.e, ⟨(t c).K, updX (t c).C (slotN a) (recvF mx (X i)).2.C⟩, []⟩ else ⟨(recvF mx (X i)).1, 0, ⟨(t c).K, updX (t c).C (slotN a) (recvF mx (X i)).2.C⟩, (recvF mx (X i)).2.G.map (stampS a.1)⟩ := by
    unfold recvT
    rw [ho, ← r.C]
  rw [es]
  by_cases ce : (recvF mx (X i)).2.e ≠ 0
  · rw [if_pos ce]
    refine .inl ⟨ce, ?_, rfl, rfl⟩
    have eC : (recvF mx (X i)).2.C = X i := by
      unfold recvF at ce ⊢
      by_cases c0 : (X i).st = 0
      · rw [if_pos c0]
      rw [if_neg c0] at ce ⊢
      by_cases c1 : mx ≤ 0
      · rw [if_pos c1]
      rw [if_neg c1] at ce ⊢
      by_cases c2 : (X i).B.A.length = 0
      · rw [if_pos c2]
        split
        · rfl
        · split <;> rfl
      · rw [if_neg c2] at ce
        exact absurd rfl ce
    show (⟨(t c).K, updX (t c).C (slotN a) (recvF mx (X i)).2.C⟩ : TC) = t c
    rw [eC, ← r.C]
    exact upd_same (t c) _
  · rw [if_neg ce]
    have ce0 : (recvF mx (X i)).2.e = 0 := by simpa using ce
    have hh : 0 < mx ∧ 0 < (X i).B.A.length := by
      have ce1 := ce0
      unfold recvF at ce1
      rw [if_neg lv.nz] at ce1
      by_cases c1 : mx ≤ 0
      · rw [if_pos c1] at ce1; cases ce1
      rw [if_neg c1] at ce1
      by_cases c2 : (X i).B.A.length = 0
      · rw [if_pos c2] at ce1
        by_cases c3 : (X i).pf = true
        · rw [if_pos c3] at ce1; cases ce1
        rw [if_neg c3] at ce1
        by_cases c4 : (X i).st = 4
        · rw [if_pos c4] at ce1
          exact absurd (lv.ok.good c4 ce1).2.2.2.1 c3
        · rw [if_neg c4] at ce1; cases ce1
      · omega
    have hst' : (recvF mx (X i)).2.C.st = (X i).st := by
      unfold recvF
      rw [if_neg lv.nz, if_neg (by omega), if_neg (by omega)]
    have hwy' : (recvF mx (X i)).2.C.why = (X i).why := by
      unfold recvF
      rw [if_neg lv.nz, if_neg (by omega), if_neg (by omega)]
    obtain ⟨g2, iv, kp, pr2, s2, r2, w2, gn2, ot2, et2, rc2, pf2, fa2'⟩ := h.inv.recv r.at_ r.gone (tkk i) ce0 hh.1 hh.2 (leN_out T g i (recvF mx (X i)).2.G)
    have tb2 := tb.own (x' := (recvF mx (X i)).2.C) ham hk r kp gn2 (fun q => absurd hp q) (fun q => by rw [hst'] at q; exact q)
    exact .inr ⟨i, g, g2, leN T g i (recvF mx (X i)).2.G, r, hh.1, hh.2, rfl, rfl, ⟨h.one hc r.at_ r.h kp.h iv tb2, leN_cov r _, TrAll.one r.at_ r.gone ⟨kp, fun _ => ⟨.inl hst', fun _ => .inl hwy'⟩, fun q => (by rw [gn2] at q; cases q), .inl ⟨pr2, ot2, fun _ q => by rw [hst'] at q; exact q⟩, fun _ => ⟨rc2, fa2', pf2⟩, fun _ _ q => recv_pf q, fun _ _ => (by rw [r2, List.length_append]; have := recv_A (mx := mx) (x := X i); omega)⟩⟩, kp, s2, r2, w2, pr2⟩
/-- Close on a row of the caller's. -/
theorem Sys.close (h : Sys T t G X Lg) (hc : c < 3) (hl : lisB (t c).K.E sd = false) (ho : oursE (t c).K.E sd = some a) :
    ((endT closeF sd (t c)).e ≠ 0 ∧ (endT closeF sd (t c)).t = t c ∧ (endT closeF sd (t c)).G = []) ∨
    ∃ i g g2 N, RowOk c (t c) G X a i g ∧ (endT closeF sd (t c)).e = 0 ∧ (closeF (X i)).e = 0 ∧ After T t (updH t c (endT closeF sd (t c)).t) G X Lg c (endT closeF sd (t c)).G (G.set i g2) (updX X i (closeF (X i)).C) N ∧ Kp g g2 ∧ g2.S = g.S ∧ g2.R = g.R ∧ (((X i).st = 3 ∧ g2.wc = true) ∨ ((X i).st = 1 ∧ g2.wc = g.wc)) := by
  obtain ⟨hg, hk, hp⟩ := oursE_some ho
  obtain ⟨ham, hsd, i, g, r⟩ := h.rowOf hc hg hk
  have tb := h.tab c hc
  have lv := h.inv.live i g r.at_ r.gone
  have es : endT closeF sd (t c) = if (closeF (X i)).e ≠ 0 then ⟨(), (closeF (X i)).e, ⟨(t c).K, updX (t c).C (slotN a) (closeF (X i)).C⟩, []⟩ else ⟨(), 0, ⟨(t c).K, updX (t c).C (slotN a) (closeF (X i)).C⟩, (closeF (X i)).G.map (stampS a.1)⟩ := by
    unfold endT
    rw [if_neg (by rw [hl]; decide), ho, ← r.C]
  rw [es]
  by_cases ce : (closeF (X i)).e ≠ 0
  · rw [if_pos ce]
    refine .inl ⟨ce, ?_, rfl⟩
    have eC : (closeF (X i)).C = X i := by
      unfold closeF at ce ⊢
      by_cases c0 : (X i).st = 0
      · rw [if_pos c0]
      rw [if_neg c0] at ce ⊢
      by_cases c4 : (X i).st = 4
      · rw [if_pos c4]
      rw [if_neg c4] at ce ⊢
      by_cases c1 : (X i).st = 1
      · rw [if_pos c1] at ce; exact absurd rfl ce
      rw [if_neg c1] at ce ⊢
      by_cases cw : (X i).wc = true
      · rw [if_pos cw]
      rw [if_neg cw] at ce
      exact absurd rfl ce
    show (⟨(t c).K, updX (t c).C (slotN a) (closeF (X i)).C⟩ : TC) = t c
    rw [eC, ← r.C]
    exact upd_same (t c) _
  · rw [if_neg ce]
    have ce0 : (closeF (X i)).e = 0 := by simpa using ce
    have hst := lv.ok.st
    have hnz := lv.nz
    have n2 : (X i).st ≠ 2 := fun q => r.s2 q hp
    have n4 : (X i).st ≠ 4 := fun q => by
      unfold closeF at ce0
      rw [if_neg hnz, if_pos q] at ce0
      have ce1 : endedF (X i) = 0 := ce0
      unfold endedF at ce1
      split at ce1
      · rename_i w; exact absurd ce1 w
      · cases ce1
    by_cases c1 : (X i).st = 1
    · obtain ⟨g2, iv, kq, gn2, _, fz⟩ := h.inv.close1 r.at_ r.gone (tkk i) c1 (leN_out T g i (closeF (X i)).G)
      have st4 : (closeF (X i)).C.st = 4 := by unfold closeF; rw [if_neg hnz, if_neg n4, if_pos c1]; rfl
      have tb2 := tb.own (x' := (closeF (X i)).C) ham hk r kq.toKp gn2 (fun q => absurd hp q) (fun q => by rw [st4] at q; cases q)
      exact .inr ⟨i, g, g2, leN T g i (closeF (X i)).G, r, rfl, ce0, ⟨h.one hc r.at_ r.h kq.h iv tb2, leN_cov r _, TrAll.one r.at_ r.gone ⟨kq.toKp, fun _ => ⟨.inr (.inl ⟨.inl c1, .inr st4⟩), fun q => absurd q n4⟩, fun q => (by rw [gn2] at q; cases q), .inl ⟨kq.pr, kq.ot, fun _ q => by rw [st4] at q; cases q⟩, fun _ => fz, fun _ q => (by rw [st4] at q; cases q), fun _ q => (by rw [st4] at q; cases q)⟩⟩, kq.toKp, kq.S, kq.R, .inr ⟨c1, kq.wc⟩⟩
    · have c3 : (X i).st = 3 := by omega
      obtain ⟨g2, iv, kp, pr2, s2, r2, w2, gn2, ot2⟩ := h.inv.close r.at_ r.gone (tkk i) c3 ce0 (leN_out T g i (closeF (X i)).G)
      have st3 : (closeF (X i)).C.st = 3 := by
        unfold closeF at ce0 ⊢
        rw [if_neg hnz, if_neg n4, if_neg c1] at ce0 ⊢
        by_cases cw : (X i).wc = true
        · rw [if_pos cw] at ce0; cases ce0
        rw [if_neg cw]
        show (pumpF { X i with wc := true }).1.st = 3
        rw [pump_st]
        exact c3
      have tb2 := tb.own (x' := (closeF (X i)).C) ham hk r kp gn2 (fun q => absurd hp q) (fun q => by rw [st3] at q; cases q)
      exact .inr ⟨i, g, g2, leN T g i (closeF (X i)).G, r, rfl, ce0, ⟨h.one hc r.at_ r.h kp.h iv tb2, leN_cov r _, TrAll.one r.at_ r.gone ⟨kp, fun _ => ⟨.inl (by rw [st3, c3]), fun q => absurd q n4⟩, fun q => (by rw [gn2] at q; cases q), .inl ⟨pr2, ot2, fun _ _ => c3⟩, fun q => (by rcases q with q | q | ⟨q, _⟩; rw [gn2] at q; cases q; omega; rw [st3] at q; cases q), fun _ q3 q => (close_pf q).elim id (fun z => by rw [z] at q3; cases q3), fun _ q3 => (by rcases close_A (x := X i) with z | z; rw [r2, z]; exact Nat.le_refl _; rw [z] at q3; cases q3)⟩⟩, kp, s2, r2, .inl ⟨c3, w2⟩⟩
/-- A row is aborted. -/
theorem Sys.abort1 (h : Sys T t G X Lg) (hc : c < 3) (ham : a ∈ (t c).K.E) (hk : a.1.kind = 2) (r : RowOk c (t c) G X a i g) :
    ∃ g2 N, After T t (updH t c ⟨(t c).K, updX (t c).C (slotN a) (abortF (X i)).C⟩) G X Lg c ((abortF (X i)).G.map (stampS a.1)) (G.set i g2) (updX X i (abortF (X i)).C) N ∧ Kq g g2 ∧ g2.gone = false ∧ (abortF (X i)).e = 0 ∧ (abortF (X i)).C.st = 4 ∧ (abortF (X i)).C.why ≠ 0 ∧ Tr T G i g g2 (X i) (abortF (X i)).C := by
  have tb := h.tab c hc
  have lv := h.inv.live i g r.at_ r.gone
  obtain ⟨g2, iv, kq, gn2, e0, st4, wy, fz⟩ := h.inv.abort r.at_ r.gone (tkk i) (leN_out T g i (abortF (X i)).G)
  have tb2 := tb.own (x' := (abortF (X i)).C) ham hk r kq.toKp gn2 (fun q => by rw [r.rdy q, kq.ot]) (fun q => by rw [st4] at q; cases q)
  have tr : Tr T G i g g2 (X i) (abortF (X i)).C := by
    refine ⟨kq.toKp, fun _ => ⟨?_, fun q => ?_⟩, fun q => (by rw [gn2] at q; cases q), .inl ⟨kq.pr, kq.ot, fun _ q => (by rw [st4] at q; cases q)⟩, fun _ => fz, fun _ q => (by rw [st4] at q; cases q), fun _ q => (by rw [st4] at q; cases q)⟩
    · have hst := lv.ok.st
      have hnz := lv.nz
      by_cases c4 : (X i).st = 4
      · exact .inl (by rw [st4, c4])
      · by_cases c3 : (X i).st = 3
        · exact .inr (.inr ⟨c3, st4⟩)
        · exact .inr (.inl ⟨by omega, .inr st4⟩)
    · unfold abortF
      rw [if_neg lv.nz, if_pos q]
      by_cases cw : (X i).why = 0
      · rw [if_pos cw]; exact .inr ⟨cw, rfl⟩
      · rw [if_neg cw]; exact .inl rfl
  exact ⟨g2, leN T g i (abortF (X i)).G, ⟨h.one hc r.at_ r.h kq.h iv tb2, leN_cov r _, TrAll.one r.at_ r.gone tr⟩, kq, gn2, e0, st4, wy, tr⟩
end
end Go.Proofs.Qxb6500424aGreat
