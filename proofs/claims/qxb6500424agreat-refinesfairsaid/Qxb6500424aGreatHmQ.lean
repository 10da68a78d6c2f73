/-
  hostlaw: Listen, Accept.
-/
import Derived.Test.Qxb6500424aGreatHmP
set_option linter.unusedVariables false
set_option linter.unusedSimpArgs false
open Go.Vc
namespace Go.Proofs.Qxb6500424aGreat
section
variable {w0 w w' : World} {a c d q : Nat} {m m' : LH} {r r' : LR} {k k' : LC} {n n' : Int} {sd : Int} {Z : Zf}
theorem updI_zero (f : Nat → Int) (c : Nat) : updI f c (f c + ((nFirst [] : Nat) : Int)) = f := by
  funext j
  unfold updI
  split
  · rename_i e; rw [e]; show f c + 0 = f c; omega
  · rfl
/-- Only a host's table has changed. -/
theorem mid_tab0 {t' : TC} (hg : Good n m r k) (h0 : 0 ≤ n) (hc : c < 3) (hC : t'.C = (m.H c).t.C) (hks : ∃ s, KStep s (m.H c).t.K t'.K) (hsys : ∀ {G : List GE} {X : Nat → CS} {Lg : List LE}, Sys k.tk (fun d => (m.H d).t) G X Lg → Sys k.tk (updH (fun d => (m.H d).t) c t') G X Lg) (hnsd : t'.K.nsd ≤ (m.H c).t.K.nsd + 1)
    (hH : m'.H = updS m.H c { m.H c with t := t' }) (hJ : m'.qu = true → m.qu = true ∧ m'.J = updS m.J c { m.H c with t := t' }) : Mid (n + 400) m' r k (K0of m) := by
  obtain ⟨G, X, Lg, M, pw, rs, gb⟩ := hg.pw
  have s1 := hsys pw.sys
  have s2 : Sys k.tk (updH (fun d => (m.H d).t) c ({ m.H c with t := t' } : HS).t) G X (Lg ++ []) := by rw [List.append_nil]; exact s1
  obtain ⟨M', pw', an, _⟩ := pw.sent (h1 := { m.H c with t := t' }) (O := []) hc s2 (Cov.nil _ _ _) rfl rfl rfl rfl rfl (pw.rs c hc)
  have lk : LookI G X r.del (r.N.map (·.E)) := look_same pw.sys.inv.ends ⟨by rw [rs.len]; exact Nat.le_refl _, fun i E g2 h1 h2 => (rs.end_ i E g2 h1 h2).pend⟩ rs.len
  have ok := hg.hs.ok c hc
  have et : updH (fun d => (m.H d).t) c t' c = t' := updH_at _ _ _
  have hok : HsOk (n + 400) { m.H c with t := t' } := (ok.mono (m := n + 400) (by omega)).setT (by have := (s1.tab c hc).sk; rw [et] at this; exact this) (fun s hs => by have := s1.cs hc hs; rw [et] at this; exact this) (by have := ok.nsd; omega)
  exact mid_host hg hc pw' an lk (gb.mono (by omega)) hok hks (fun s => by show W16 (t'.C s); rw [hC]; exact hg.hs.why c hc s) (by omega) hH hJ (fun e he => .inl he) rfl rfl ⟨rfl, rfl, rfl, rfl⟩ (updI_zero _ _).symm (hg.cnt.mono (by omega))
theorem mid_tab {t' : TC} (hg : GoodZ Z n m r k) (h0 : 0 ≤ n) (hc : c < 3) (hC : t'.C = (m.H c).t.C) (hks : ∃ s, KStep s (m.H c).t.K t'.K) (hsys : ∀ {G : List GE} {X : Nat → CS} {Lg : List LE}, Sys k.tk (fun d => (m.H d).t) G X Lg → Sys k.tk (updH (fun d => (m.H d).t) c t') G X Lg) (hnsd : t'.K.nsd ≤ (m.H c).t.K.nsd + 1)
    (hlis : ∀ p, Sk.lisE (m.H c).t.K.E p ≠ 0 → Sk.lisE t'.K.E p ≠ 0) (hH : m'.H = updS m.H c { m.H c with t := t' }) (hJ : m'.qu = true → m.qu = true ∧ m'.J = updS m.J c { m.H c with t := t' }) : MidZ Z (n + 400) m' r k (K0of m) := by
  have hlost : ∀ d, (m'.H d).lost = (m.H d).lost := fun d => by
    rw [hH]
    by_cases e : d = c
    · subst e; rw [updS_at]
    · rw [updS_ne e]
  refine ⟨mid_tab0 hg.toGood h0 hc hC hks hsys hnsd hH hJ, fun z => ⟨(hg.zb z).1, fun d hd => by rw [hlost]; exact (hg.zb z).2 d hd⟩, hg.zx, fun z => ?_⟩
  obtain ⟨G, X, Lg, M, pw, rs, gb, ⟨i, fw⟩, nf⟩ := hg.fz ⟨z.1, z.2.1, fun d hd => by rw [← hlost]; exact z.2.2 d hd⟩
  refine ⟨G, X, Lg, M, by rw [hH]; exact pw.tab hc (hsys pw.sys), look_same pw.sys.inv.ends ⟨by rw [rs.len]; exact Nat.le_refl _, fun i E g2 h1 h2 => (rs.end_ i E g2 h1 h2).pend⟩ rs.len, gb.mono (by omega), ⟨i, ?_⟩, nf⟩
  rw [hH]
  refine fw.tab fun d p hd hp => ?_
  show Sk.lisE (updS m.H c { m.H c with t := t' } d).t.K.E p ≠ 0
  by_cases e : d = c
  · subst e; rw [updS_at]; exact hlis p hp
  · rw [updS_ne e]; exact hp
theorem lis_keep {E E' : List Sk.AE} {nsd : Int} {tk : Nat} {p : Int} (hE : Sk.EI E' nsd tk) (h : Sk.lisE E p ≠ 0) (hs : ∀ x ∈ E, x.1.kind = 1 → ∃ y ∈ E', y.1.kind = 1 ∧ y.1.lp = x.1.lp) : Sk.lisE E' p ≠ 0 := by
  obtain ⟨x, hx, hp, _⟩ := Sk.lisE_ne h
  obtain ⟨k1, k2⟩ := Sk.lisP_iff.1 hp
  obtain ⟨y, hy, y1, y2⟩ := hs x hx k1
  rw [Sk.lisE_some hE hy (Sk.lisP_iff.2 ⟨y1, by rw [y2]; exact k2⟩)]
  have := (hE.sd y hy).1
  omega
theorem listen_keep {K : Sk.SkS} (hK : Sk.SkOk K) (port : Int) : ∀ p, Sk.lisE K.E p ≠ 0 → Sk.lisE (Sk.listenA port K).2.E p ≠ 0 := fun p hp => by
  refine lis_keep (Sk.listenA_ok hK port).ei hp fun x hx hk => ⟨x, ?_, hk, rfl⟩
  unfold Sk.listenA
  split
  · exact hx
  split
  · exact hx
  split
  · exact hx
  · exact List.mem_append.2 (.inl hx)
theorem accept_keep {K : Sk.SkS} (hK : Sk.SkOk K) (lsd : Int) : ∀ p, Sk.lisE K.E p ≠ 0 → Sk.lisE (Sk.acceptA lsd K).2.E p ≠ 0 := fun p hp => by
  refine lis_keep (Sk.acceptA_ok hK lsd).ei hp fun x hx hk => ?_
  unfold Sk.acceptA
  split
  · exact ⟨x, hx, hk, rfl⟩
  split
  · exact ⟨x, hx, hk, rfl⟩
  split
  · exact ⟨x, hx, hk, rfl⟩
  · rename_i q _ _
    refine ⟨if x.1.sd = q.1.sd then Sk.accG x else x, List.mem_map.2 ⟨x, hx, rfl⟩, ?_, ?_⟩
    · split
      · exact hk
      · exact hk
    · split
      · rfl
      · rfl
theorem setH_same (m : LH) (c : Nat) : m.setH c (m.H c) = m := by
  have : updS m.H c (m.H c) = m.H := by
    funext j
    unfold updS
    split
    · rename_i e; rw [e]
    · rfl
  unfold LH.setH
  rw [this]
theorem setJ_same (m : LH) (c : Nat) : m.setJ c (m.J c) = m := by
  have : updS m.J c (m.J c) = m.J := by
    funext j
    unfold updS
    split
    · rename_i e; rw [e]
    · rfl
  unfold LH.setJ
  rw [this]
theorem lis_listens {K : Sk.SkS} (port : Int) : (K.E.filter Sk.isL).length = (K.E.filter fun x => decide (x.1.kind = 1)).length := rfl
theorem listenA_new {p : Int} {K : Sk.SkS} (hK : Sk.SkOk K) (h : (Sk.listenA p K).1.2 = 0) : (Sk.listenA p K).1.1 = K.nsd ∧ ∃ x, Sk.getE (Sk.listenA p K).2.E K.nsd = some x ∧ x.1.kind = 1 ∧ x.1.lp = p := by
  unfold Sk.listenA at h ⊢
  split at h
  · cases h
  rename_i h1
  rw [if_neg h1]
  split at h
  · cases h
  rename_i h2
  rw [if_neg h2]
  split at h
  · cases h
  rename_i h3
  rw [if_neg h3]
  exact ⟨rfl, _, getE_new (S := K) (e := ⟨0, 1, p, 0, 0, -1, 0, false⟩) hK, rfl, rfl⟩
theorem listenA_err {p : Int} {K : Sk.SkS} (h : (Sk.listenA p K).1.2 ≠ 0) : (Sk.listenA p K).1.1 = 0 := by
  unfold Sk.listenA at h ⊢
  split at h
  · rename_i h1; rw [if_pos h1]
  rename_i h1
  rw [if_neg h1]
  split at h
  · rename_i h2; rw [if_pos h2]
  rename_i h2
  rw [if_neg h2]
  split at h
  · rename_i h3; rw [if_pos h3]
  · exact absurd rfl h
theorem listenA_nsd (p : Int) (K : Sk.SkS) : (Sk.listenA p K).2.nsd ≤ K.nsd + 1 := by
  unfold Sk.listenA
  split
  · show K.nsd ≤ _; omega
  split
  · show K.nsd ≤ _; omega
  split
  · show K.nsd ≤ _; omega
  · show K.nsd + 1 ≤ _; omega
theorem lawListen_ok {port : Int} {R : Bool → World → Prop} (hL : LawAt w0 w a m r k) (hg : GoodZ Z n m r k) (h0 : 0 ≤ n) (hn : n ≤ 4398046500000) (hc : c < 3)
    (hR : ∀ m' r' k' w', LawAt w0 w' a m' r' k' → MidZ Z (n + 400) m' r' k' (K0of m) → R true w') : hostlaw_World_Listen.Call (some ⟨a, 0, none⟩) (c : Int) port w R := by
  apply hostlaw_World_Listen.sound
  unfold hostlaw_World_Listen.B0
  have ok := hg.hs.ok c hc
  have hsn := hg.seen c hc
  -- the call itself
  have b2 : ∀ {want : Int} {w1 : World}, LawAt w0 w1 a m r k → want = (Sk.listenA port (m.H c).t.K).1.2 → hostlaw_World_Listen.B2 (some ⟨a, 0, none⟩) (c : Int) port want w1 R := fun {want w1} h1 hw => by
    unfold hostlaw_World_Listen.B2
    refine Pn.mk ⟨⟨by omega, by omega⟩, h1.ldH hc (listen_ok (h1.h.H c hc) ok (by omega) fun w2 hh2 he2 => ?_)⟩
    have h2 := h1.host hc hh2 he2
    have md : ∀ {m' : LH}, m'.H = updS m.H c { m.H c with t := ⟨(Sk.listenA port (m.H c).t.K).2, (m.H c).t.C⟩ } → (m'.qu = true → m.qu = true ∧ m'.J = updS m.J c { m.H c with t := ⟨(Sk.listenA port (m.H c).t.K).2, (m.H c).t.C⟩ }) → MidZ Z (n + 400) m' r k (K0of m) := fun hH hJ =>
      mid_tab (t' := ⟨(Sk.listenA port (m.H c).t.K).2, (m.H c).t.C⟩) hg h0 hc rfl ⟨0, KStep.listen ok.sk port⟩ (fun s => s.listen hc) (listenA_nsd port _) (listen_keep ok.sk port) hH hJ
    have hokc : HsOk (n + 400) { m.H c with t := ⟨(Sk.listenA port (m.H c).t.K).2, (m.H c).t.C⟩ } := by
      have := (md (m' := { m with H := updS m.H c { m.H c with t := ⟨(Sk.listenA port (m.H c).t.K).2, (m.H c).t.C⟩ }, qu := false }) rfl (fun z => by cases z)).hs.ok c hc
      have e : (updS m.H c { m.H c with t := ⟨(Sk.listenA port (m.H c).t.K).2, (m.H c).t.C⟩ }) c = { m.H c with t := ⟨(Sk.listenA port (m.H c).t.K).2, (m.H c).t.C⟩ } := updS_at _ _ _
      rw [← e]
      exact this
    -- behind the calls
    have tail : ∀ {w3 : World} {m3 : LH}, LawAt w0 w3 a m3 r k → m3.H = updS m.H c { m.H c with t := ⟨(Sk.listenA port (m.H c).t.K).2, (m.H c).t.C⟩ } → (m3.qu = true → m.qu = true ∧ m3.J = updS m.J c { m.H c with t := ⟨(Sk.listenA port (m.H c).t.K).2, (m.H c).t.C⟩ }) → (Sk.listenA port (m.H c).t.K).1.2 = 0 → Pn (some (⟨a, 0, none⟩ : Addr)) fun a_3 =>
        (0 ≤ (c : Int) ∧ (c : Int) < ((3 : Nat) : Int)) ∧ LdP (Addr.add a_3 ((c : Int).toNat * 1)) w3 fun x74 =>
        host_Host_Info.Call x74 (Sk.listenA port (m.H c).t.K).1.1 w3 fun r0 r1 r2 r3 r4 r5 r6 r7 r8 e w4 =>
        New (.cells #[.int .i64 (0 : Int), .int .i64 (0 : Int), .int .i64 (0 : Int), .int .i64 (0 : Int), .int .i64 (0 : Int), .int .i64 (0 : Int), .int .i64 (0 : Int), .bool false, .pointer none] 69) w4 fun s_ w5 =>
        Sts [.int .i64 r0, .int .i64 r1, .int .i64 r2, .int .i64 r3, .int .i64 r4, .int .i64 r5, .int .i64 r6, .bool r7, .pointer r8] ⟨s_, 0, none⟩ 0 w5 fun w6 =>
        Pn (some (⟨a, 0, none⟩ : Addr)) fun a_4 => (0 ≤ (c : Int) ∧ (c : Int) < ((3 : Nat) : Int)) ∧ LdI .i64 (Addr.add (a_4.add 31) ((c : Int).toNat * 1)) w6 fun x85 =>
        Bm (decide ((Sk.listenA port (m.H c).t.K).1.1 > x85)) (Bm (e == (0 : Int)) (LdI .i64 ⟨s_, 1, none⟩ w6 fun x94 => Bm (x94 == (1 : Int)) (LdI .i64 ⟨s_, 2, none⟩ w6 fun x100 => R (x100 == port) w6) (R false w6)) (R false w6)) (R false w6) := fun {w3 m3} h3 hH hJ he0 => by
      obtain ⟨e1, x, hx, hk1, hlp⟩ := listenA_new ok.sk he0
      have eH : m3.H c = { m.H c with t := ⟨(Sk.listenA port (m.H c).t.K).2, (m.H c).t.C⟩ } := by rw [hH, updS_at]
      have hh3 : HostAt w3 (m3.BH c) { m.H c with t := ⟨(Sk.listenA port (m.H c).t.K).2, (m.H c).t.C⟩ } := by rw [← eH]; exact h3.h.H c hc
      refine Pn.mk ⟨⟨by omega, by omega⟩, h3.ldH hc (info_new hh3 hokc fun s e w4 hI hsz e4 => Pn.mk ⟨⟨by omega, by omega⟩, (h3.ext0 e4).ldTop hc ?_⟩)⟩
      have ht := hg.top c hc
      rw [e1] at hI ⊢
      obtain ⟨rfl, ib, hia, os⟩ := hI.yes x hx
      refine Bm.pos (decide_eq_true (by omega)) (Bm.pos rfl (LdI.mk os rfl (Bm.pos (by rw [hk1]; rfl) (LdI.mk os rfl ?_))))
      rw [hlp, beq_self'']
      exact hR m3 r k w4 (h3.ext0 e4) (md hH hJ)
    refine Pn.mk (h2.ldQu (Bm.mk (fun hq0 => ?_) fun hq0 => ?_))
    · have hq : m.qu = true := hq0
      have eJ := hg.tw hq c hc
      have hh3 : HostAt w2 (m.BQ c) (m.H c) := by have := h2.h.J hq c hc; rw [← eJ]; exact this
      refine Pn.mk ⟨⟨by omega, by omega⟩, h2.ldQ hc hq (listen_ok hh3 ok (by omega) fun w3 hh4 he4 => ?_)⟩
      have h4 := h2.twin hc hq hh4 he4
      refine Bm.neg (bne_self' _) ?_
      unfold hostlaw_World_Listen.B3
      refine Bm.neg (bne_self' _) (Bm.neg (by rw [hw]; exact bne_self' _) (Bm.mk (fun z => ?_) fun z => ?_))
      · rw [listenA_err (bneT z)]
        exact hR _ r k w3 h4 (md rfl (fun _ => ⟨hq, rfl⟩))
      · exact tail h4 rfl (fun _ => ⟨hq, rfl⟩) (by have := bneF z; omega)
    · have hq : m.qu = false := hq0
      have hJ : (m.setH c { m.H c with t := ⟨(Sk.listenA port (m.H c).t.K).2, (m.H c).t.C⟩ }).qu = true → m.qu = true ∧ (m.setH c { m.H c with t := ⟨(Sk.listenA port (m.H c).t.K).2, (m.H c).t.C⟩ }).J = updS m.J c { m.H c with t := ⟨(Sk.listenA port (m.H c).t.K).2, (m.H c).t.C⟩ } := fun z => by
        have z' : m.qu = true := z
        rw [hq] at z'
        cases z'
      refine Bm.neg (by rw [hw]; exact bne_self' _) (Bm.mk (fun z => ?_) fun z => ?_)
      · rw [listenA_err (bneT z)]
        exact hR _ r k w2 h2 (md rfl hJ)
      · exact tail h2 rfl hJ (by have := bneF z; omega)
  -- what is wanted
  by_cases hp : port < 1 ∨ 8 ≤ port
  · have hw : (22 : Int) = (Sk.listenA port (m.H c).t.K).1.2 := by unfold Sk.listenA; rw [if_pos hp]
    by_cases h1 : port < 1
    · refine Bm.pos (decide_eq_true h1) ?_
      unfold hostlaw_World_Listen.B1
      exact Bm.pos rfl (b2 hL hw)
    · refine Bm.neg (decide_eq_false h1) ?_
      unfold hostlaw_World_Listen.B1
      exact Bm.pos (decide_eq_true (by omega)) (b2 hL hw)
  · refine Bm.neg (decide_eq_false (by omega)) ?_
    unfold hostlaw_World_Listen.B1
    refine Bm.neg (decide_eq_false (by omega)) (listens_ok hL hc ok hsn fun w1 e1 => ?_)
    have hw : (Sk.listenA port (m.H c).t.K).1.2 = if Sk.lisE (m.H c).t.K.E port ≠ 0 then 23 else if ((m.H c).t.K.E.filter Sk.isL).length = 2 then 11 else 0 := by
      unfold Sk.listenA
      rw [if_neg hp]
      split
      · rfl
      split <;> rfl
    by_cases z : Sk.lisE (m.H c).t.K.E port ≠ 0
    · rw [if_pos z] at hw
      exact Bm.pos (decide_eq_true z) (b2 (hL.ext0 e1) hw.symm)
    · rw [if_neg z] at hw
      refine Bm.neg (decide_eq_false z) (count_ok (hL.ext0 e1) hc ok hsn fun w2 e2 => ?_)
      have el : ((m.H c).t.K.E.filter fun x => decide (x.1.kind = 1)).length = ((m.H c).t.K.E.filter Sk.isL).length := rfl
      rw [el]
      by_cases z2 : ((m.H c).t.K.E.filter Sk.isL).length = 2
      · rw [if_pos z2] at hw
        exact Bm.pos (by rw [z2]; rfl) (b2 ((hL.ext0 e1).ext0 e2) hw.symm)
      · rw [if_neg z2] at hw
        exact Bm.neg (by simp; omega) (b2 ((hL.ext0 e1).ext0 e2) hw.symm)
end
end Go.Proofs.Qxb6500424aGreat
