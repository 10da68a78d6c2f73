/-
  host: the work: the rounds of a settle, plain.
-/
import Derived.Test.Qxb6500424aGreatHsN
set_option linter.unusedVariables false
set_option linter.unusedSimpArgs false
namespace Go.Proofs.Qxb6500424aGreat
/-- What a frame at host d does. -/
structure StpX (T : Int) (H : Nat → HS) (d : Nat) (raw : List Int) (W : List FL) (G : List GE) (X : Nat → CS) (G' : List GE) (X' : Nat → CS) (Lg' : List LE) (M' : Nat → List DG) : Prop where
  pw : PW T (updS H d (inputH (H d) raw).1) W G' X' Lg' M'
  an : Ans T d (H d) (inputH (H d) raw).1 (inputH (H d) raw).2 M' 3
  tr : TrAll T G X G' X'
  sr : SameSR G G'
  one : One d G X X'
  len : G'.length = G.length ∨ ∃ y p, G' = G ++ [y] ∧ Born T d G y p (X' G.length)
/-- A datagram went up. -/
structure TopX (T : Int) (H : Nat → HS) (d : Nat) (raw : List Int) (G : List GE) (X : Nat → CS) (M : Nat → List DG) (G' : List GE) (X' : Nat → CS) (M' : Nat → List DG) (c : Nat) (q : DG) : Prop where
  dst : q.d = (d : Int) + 1
  ht : T - 4 ≤ q.t
  sx : SegX d (H d).t G X X' ((c : Int) + 1) q.s (inSegT T ((c : Int) + 1) q.s (H d).t).2.1
  se : SentX T d M M' (inSegT T ((c : Int) + 1) q.s (H d).t).2.1 (inputH (H d) raw).2 ((inputH (H d) raw).1.lost = (H d).lost)
  nb : Sk.lookE (H d).t.K.E q.s.1.dp ((c : Int) + 1) q.s.1.sp ≠ 0 → G'.length = G.length
  bi : Sk.lookE (H d).t.K.E q.s.1.dp ((c : Int) + 1) q.s.1.sp = 0 → q.s.1.fl = 1 → Sk.lisE (H d).t.K.E q.s.1.dp ≠ 0 → (Sk.childA q.s.1.dp ((c : Int) + 1) q.s.1.sp (H d).t.K).1.2 = 0 → Birth T q.t d G G' X' (inSegT T ((c : Int) + 1) q.s (H d).t).2.1
/-- What a frame did. -/
def DX (rel : Prop) (T : Int) (H : Nat → HS) (d : Nat) (f : FL) (G : List GE) (X : Nat → CS) (M : Nat → List DG) (G' : List GE) (X' : Nat → CS) (M' : Nat → List DG) : Prop :=
  ∃ c n k q, FrOk T M f c n k q ∧ ((G' = G ∧ X' = X ∧ M' = M ∧ (inputH (H d) f.raw).2 = [] ∧ (inputH (H d) f.raw).1.t = (H d).t ∧ (f.fl = false → q.d = (d : Int) + 1 → 16 < (q.D c).length) ∧ (rel → k + 1 < Ip.cntF (q.D c).length)) ∨ TopX T H d f.raw G X M G' X' M' c q)
/-- A settle's round: r rounds have gone, cm of them calm at the end; p frames are still to be delivered. -/
structure InR (T0 T : Int) (cm r p : Nat) (H : Nat → HS) (W : List FL) (G : List GE) (X : Nat → CS) (M : Nat → List DG) : Prop where
  tm : T = T0 + r
  n0 : cm = 0 → ∃ B old Qn, N1 T H W M B old Qn ∧ old.length = p
  n1 : 1 ≤ cm → ∃ Qo Qn p', Neat ((4 - cm : Nat) : Int) T H W M Qo Qn p' ∧ ((Qo.flatMap (frsQ T)).drop p').length = p ∧ (42 ≤ r → 6 ≤ cm → ZAll (66 - (min (r - 42) (cm - 6) : Nat)) (Qo.map Gq.fg) (Qn.map Gq.fg) G X)
section
variable {q : Gq} {Q : List Gq} {T T0 : Int} {H : Nat → HS} {W W1 : List FL} {G G' : List GE} {X X' : Nat → CS} {Lg Lg' : List LE} {M M' : Nat → List DG} {c d n i p cm r : Nat} {g : DG} {f : FL}
theorem fr_head (g : DG) (c n i : Nat) : (g.fr c n i)[0]? = some g.d := by
  unfold DG.fr Fm.encFrame Fm.encBody
  rfl
theorem StpX.still {raw : List Int} {L' : Fm.LinkS} {A' : List Ip.AR} {dr' : Nat → Int} (pw : PW T H W G X Lg M) (hd : d < 3) (eF : (inputH (H d) raw).2 = []) (eH : (inputH (H d) raw).1 = { H d with L := L', A := A', dr := dr' }) (hA : RsAll T d M A') : StpX T H d raw W G X G X Lg M := by
  refine ⟨?_, ?_, TrAll.refl _ _ _, SameSR.refl G, One.refl _ _ _, .inl rfl⟩
  · rw [eH]
    exact pw.quiet hd rfl rfl rfl rfl rfl hA
  · rw [eF, eH]
    exact ⟨fun F hF => (by cases hF), by show (H d).cr = (H d).cr - ((0 : Nat) : Int); omega, Nat.zero_le _, ⟨Int.le_refl _, fun q => absurd q (Int.lt_irrefl _), by show (H d).lost ≤ (H d).lost + 3; omega⟩, rfl, rfl⟩
/-- A frame at its host: a fragment that waits, or a datagram. -/
theorem dlv (pw : PW T H W G X Lg M) (hd : d < 3) (fo : FrOk T M f c n i g) (hf : f.fl = false) (ha : f.age ≤ 4) (hdst : g.d = (d : Int) + 1) :
    (16 < (g.D c).length ∧ (inputH (H d) f.raw).2 = [] ∧ ∃ L' A' dr', (inputH (H d) f.raw).1 = { H d with L := L', A := A', dr := dr' } ∧ RsAll T d M A') ∨
    (T - 4 ≤ g.t ∧ ∃ L' A', inputH (H d) f.raw = inTopH { H d with L := L', A := A' } ((c : Int) + 1) g.s ∧ RsAll T d M A') := by
  obtain ⟨R, L', eR, hR, ht, r1, r2⟩ := input_R pw.lk (pw.rs d hd) hd fo ha hf hdst
  by_cases he : R.err = 0
  · exact .inr ⟨ht, L', R.tab, r2 he, hR⟩
  · left
    have e := r1 he
    refine ⟨?_, by rw [e], L', R.tab, _, by rw [e]; rfl, hR⟩
    apply Classical.byContradiction
    intro hl
    have hk := ((pw.lk c fo.c3).ok g (List.mem_of_getElem? fo.at_)).1
    have h8 := DG.len hk
    have i0 : i = 0 := by
      have := fo.il
      unfold Ip.cntF at this
      rw [if_neg (by omega)] at this
      omega
    have := in_one (A := (H d).A) (src := (c : Int) + 1) (dst := (d : Int) + 1) (id := (n : Int) % 256) h8.1 (by omega)
    rw [i0, this] at eR
    rw [eR] at he
    exact he rfl
theorem PW.topX {n kk : Nat} {q : DG} (pw : PW T H W G X Lg M) (hd : d < 3) (fo : FrOk T M f c n kk q) (hdst : q.d = (d : Int) + 1) (ht : T - 4 ≤ q.t) {L' : Fm.LinkS} {A' : List Ip.AR} (eI : inputH (H d) f.raw = inTopH { H d with L := L', A := A' } ((c : Int) + 1) q.s) (hA : RsAll T d M A') : ∃ G' X' Lg' M', StpX T H d f.raw W G X G' X' Lg' M' ∧ TopX T H d f.raw G X M G' X' M' c q := by
  obtain ⟨G', X', Lg', M', q1, q2, q3, q4, q5, q6, q7, sx, eA, nb, et, bi⟩ := pw.top hd fo.c3 fo.at_ hdst ht eI hA
  exact ⟨G', X', Lg', M', ⟨q1, q2, q3, q4, q5, q6⟩, ⟨hdst, ht, q7, sx, nb, bi⟩⟩
/-- Any frame at a host. -/
theorem PW.inputD {rel : Prop} (pw : PW T H W G X Lg M) (hd : d < 3) (hf : ∃ c n i g, FrOk T M f c n i g) (ha : f.age ≤ 4) (hrel : ¬ rel) : ∃ G' X' Lg' M', StpX T H d f.raw W G X G' X' Lg' M' ∧ DX rel T H d f G X M G' X' M' := by
  obtain ⟨c, n, k, q, fo⟩ := hf
  by_cases hc : f.fl = false ∧ q.d = (d : Int) + 1
  · rcases dlv pw hd fo hc.1 ha hc.2 with ⟨h16, eF, L', A', dr', eH, hA⟩ | ⟨ht, L', A', eI, hA⟩
    · exact ⟨G, X, Lg, M, StpX.still pw hd eF eH hA, c, n, k, q, fo, .inl ⟨rfl, rfl, rfl, eF, by rw [eH], fun _ _ => h16, fun z => absurd z hrel⟩⟩
    · obtain ⟨G', X', Lg', M', st, tx⟩ := pw.topX hd fo hc.2 ht eI hA
      exact ⟨G', X', Lg', M', st, c, n, k, q, fo, .inr tx⟩
  · rcases input_cases pw.lk (pw.rs d hd) hd fo ha with ⟨eF, L', A', dr', eH, hA⟩ | ⟨h1, h2, _⟩
    · exact ⟨G, X, Lg, M, StpX.still pw hd eF eH hA, c, n, k, q, fo, .inl ⟨rfl, rfl, rfl, eF, by rw [eH], fun a b => absurd ⟨a, b⟩ hc, fun z => absurd z hrel⟩⟩
    · exact absurd ⟨h1, h2⟩ hc
theorem InR.start (pw : PW T H W G X Lg M) (hT : T = T0 + r) : InR T0 T 0 r W.length H W G X M :=
  ⟨hT, fun _ => ⟨_, W, [], N1.start pw, rfl⟩, fun h => by omega⟩
theorem adv_count (hp : p < q.cnt) : (((adv q Q p).1.flatMap (frsQ T)).drop (adv q Q p).2).length = (((q :: Q).flatMap (frsQ T)).drop p).length - 1 := by
  rw [← adv_w hp T Q, List.length_drop, List.length_drop]
  omega
theorem InR.le (h : InR T0 T cm r p H W G X M) : p ≤ W.length := by
  by_cases hc : cm = 0
  · obtain ⟨B, old, Qn, h1, ho⟩ := h.n0 hc
    have hw := congrArg List.length h1.w
    rw [List.length_append, ho] at hw
    omega
  · obtain ⟨Qo, Qn, p', h1, hp, hz⟩ := h.n1 (by omega)
    have hw := congrArg List.length h1.w
    rw [List.length_append, hp] at hw
    omega
theorem InR.ne (h : InR T0 T cm r (p + 1) H W G X M) (pw : PW T H W G X Lg M) : W ≠ [] := fun e => by
  by_cases hc : cm = 0
  · obtain ⟨B, old, Qn, h1, ho⟩ := h.n0 hc
    have hw := congrArg List.length h1.w
    rw [e, List.length_append, ho, List.length_nil] at hw
    omega
  · obtain ⟨Qo, Qn, p', h1, hp, hz⟩ := h.n1 (by omega)
    have hw := congrArg List.length h1.w
    rw [e, List.length_append, hp, List.length_nil] at hw
    omega
theorem InR.step (h : InR T0 T cm r (p + 1) H (f :: W1) G X M) (pw : PW T H (f :: W1) G X Lg M) (hb : Bth T0 G) (hd : d < 3) (hB : IsB f.raw) (h0 : f.raw[0]? = some ((d : Int) + 1)) (ha : f.age ≤ 4) :
    ∃ G' X' Lg' M', StpX T H d f.raw (f :: W1) G X G' X' Lg' M' ∧ DX (4 ≤ cm) T H d f G X M G' X' M' ∧ ((inputH (H d) f.raw).1.lost = (H d).lost → InR T0 T cm r p (updS H d (inputH (H d) f.raw).1) (W1 ++ (inputH (H d) f.raw).2.map flF) G' X' M') := by
  by_cases hc : cm = 0
  · obtain ⟨B, old, Qn, h1, ho⟩ := h.n0 hc
    cases old with
    | nil => simp at ho
    | cons f0 old =>
      have ho' : old.length = p := by simpa using ho
      have hw := h1.w
      rw [List.cons_append] at hw
      injection hw with e1 e2
      subst e1
      obtain ⟨c, n, i, g, fo, _⟩ := h1.old f (List.mem_cons_self ..)
      have qui : ∀ (eF : (inputH (H d) f.raw).2 = []) (L' : Fm.LinkS) (A' : List Ip.AR) (dr' : Nat → Int) (eH : (inputH (H d) f.raw).1 = { H d with L := L', A := A', dr := dr' }) (hA : RsAll T d M A') (h16 : f.fl = false → g.d = (d : Int) + 1 → 16 < (g.D c).length), ∃ G' X' Lg' M', StpX T H d f.raw (f :: W1) G X G' X' Lg' M' ∧ DX (4 ≤ cm) T H d f G X M G' X' M' ∧ ((inputH (H d) f.raw).1.lost = (H d).lost → InR T0 T cm r p (updS H d (inputH (H d) f.raw).1) (W1 ++ (inputH (H d) f.raw).2.map flF) G' X' M') := fun eF L' A' dr' eH hA h16 => by
        have st := StpX.still pw hd eF eH hA
        refine ⟨G, X, Lg, M, st, ⟨c, n, i, g, fo, .inl ⟨rfl, rfl, rfl, eF, by rw [eH], h16, fun z => by omega⟩⟩, fun _ => ⟨h.tm, fun _ => ?_, fun q => by omega⟩⟩
        have := h1.step (E := []) pw ha hd st.pw rfl (by rw [eH]; exact hA) (by simp) (fun _ _ => rfl) (fun g hg => by cases hg)
        refine ⟨B, old, Qn ++ mkQ d (M d).length [], ?_, ho'⟩
        rw [eF, e2]
        exact this
      by_cases hcc : f.fl = false ∧ g.d = (d : Int) + 1
      rotate_left
      · rcases input_cases pw.lk (pw.rs d hd) hd fo ha with ⟨eF, L', A', dr', eH, hA⟩ | ⟨w1, w2, _⟩
        · exact qui eF L' A' dr' eH hA (fun a b => absurd ⟨a, b⟩ hcc)
        · exact absurd ⟨w1, w2⟩ hcc
      rcases dlv pw hd fo hcc.1 ha hcc.2 with ⟨h16, eF, L', A', dr', eH, hA⟩ | ⟨ht, L', A', eI, hA⟩
      · exact qui eF L' A' dr' eH hA (fun _ _ => h16)
      · have hdst := hcc.2
        obtain ⟨G', X', Lg', M', st, tx⟩ := pw.topX hd fo hdst ht eI hA
        have eA : (inputH (H d) f.raw).1.A = A' := by
          rw [eI]
          unfold inTopH
          rw [(sendAllH_t _ _).2.2.2.1]
          rfl
        refine ⟨G', X', Lg', M', st, ⟨c, n, i, g, fo, .inr tx⟩, fun hl => ⟨h.tm, fun _ => ?_, fun q => by omega⟩⟩
        obtain ⟨⟨E, hM, hF, hE⟩, oth⟩ := tx.se
        have hE' := hE hl
        have := h1.step (E := E) pw ha hd st.pw rfl (by rw [eA]; exact hA) hM oth (fun g hg => by
          rw [hE'] at hg
          obtain ⟨o, _, rfl⟩ := List.mem_map.1 hg
          rfl)
        refine ⟨B, old, Qn ++ mkQ d (M d).length E, ?_, ho'⟩
        rw [hF, e2]
        exact this
  · obtain ⟨Qo, Qn, p', h1, hp, hz⟩ := h.n1 (by omega)
    cases Qo with
    | nil => simp at hp
    | cons q0 Q =>
      have hp1 := h1.p01 pw
      have hw := h1.head pw
      injection hw with e1 e2
      have er : f.raw = q0.2.2.fr q0.1 q0.2.1 p' := by rw [e1]
      have hq00 := h1.qo q0 (List.mem_cons_self ..)
      have b1 := hq00.lo
      have b2 := hq00.hi
      have fo0 : FrOk T M f q0.1 q0.2.1 p' q0.2.2 := by rw [e1]; exact ⟨hq00.c3, hq00.at_, hp1, by show 0 ≤ T - q0.2.2.t; omega, fun _ => rfl, fun _ => rfl, fun w => by cases w⟩
      have e0 : inputH (H d) f.raw = inputH (H d) (q0.2.2.fr q0.1 q0.2.1 p') := by rw [er]
      rw [er] at hB h0
      rw [fr_head] at h0
      have hdst : q0.2.2.d = (d : Int) + 1 := by injection h0
      have hcnt := adv_count (T := T) (Q := Q) hp1
      rw [hp] at hcnt
      have hq0 := h1.qo q0 (List.mem_cons_self ..)
      rcases neat_in h1 pw hd hdst hB with ⟨L', A', eI, hA, ⟨hs, h16⟩, nt⟩ | ⟨L', A', eI, hA, ht, hpc, hS, hSc, hk⟩
      · rw [← e0] at eI
        have z40 : 4 ≤ cm → ((4 - cm : Nat) : Int) = 0 := fun z => by omega
        have st : StpX T H d f.raw (f :: W1) G X G X Lg M := by
          refine StpX.still (L' := L') (A' := A') (dr' := (dropH { H d with L := L', A := A' } 2).dr) pw hd (by rw [eI]) (by rw [eI]; rfl) hA
        refine ⟨G, X, Lg, M, st, ⟨q0.1, q0.2.1, p', q0.2.2, fo0, .inl ⟨rfl, rfl, rfl, by rw [eI], by rw [eI]; rfl, fun _ _ => h16, fun z => hs (z40 z)⟩⟩, fun _ => ⟨h.tm, fun q => by omega, fun _ => ⟨(adv q0 Q p').1, Qn, (adv q0 Q p').2, ?_, by rw [hcnt]; rfl, fun hr h6 => ?_⟩⟩⟩
        · rw [eI, e2]
          show Neat _ T (updS H d (dropH { H d with L := L', A := A' } 2)) (_ ++ [].map flF) M _ _ _
          rw [List.map_nil, List.append_nil]
          exact nt
        · have h2 := hs (by have : 4 - cm = 0 := by omega
                            rw [this]; rfl)
          have ea : adv q0 Q p' = (q0 :: Q, p' + 1) := by unfold adv; rw [if_pos h2]
          rw [ea]
          exact hz hr h6
      · rw [← e0] at eI
        obtain ⟨G', X', Lg', M', st, tx⟩ := pw.topX hd fo0 hdst ht eI hA
        have eA : (inputH (H d) f.raw).1.A = A' := by
          rw [eI]
          unfold inTopH
          rw [(sendAllH_t _ _).2.2.2.1]
          rfl
        refine ⟨G', X', Lg', M', st, ⟨q0.1, q0.2.1, p', q0.2.2, fo0, .inr tx⟩, fun hl => ⟨h.tm, fun q => by omega, fun _ => ?_⟩⟩
        obtain ⟨⟨E, hM, hF, hE⟩, oth⟩ := tx.se
        have hE' := hE hl
        have nt := neat_top h1 pw hd st.pw eA hA hS hSc hk hpc hM oth (fun g hg => by
          rw [hE'] at hg
          obtain ⟨o, _, rfl⟩ := List.mem_map.1 hg
          rfl)
        have ea : adv q0 Q p' = (Q, 0) := by unfold adv; rw [if_neg (by omega)]
        rw [ea] at hcnt
        refine ⟨Q, Qn ++ mkQ d (M d).length E, 0, by rw [hF, e2]; exact nt, by rw [hcnt]; rfl, fun hr h6 => ?_⟩
        have tm := h.tm
        have ds : DSt T (fun c => (H c).t) (fun c => (updS H d (inputH (H d) f.raw).1 c).t) G G' X X' Lg Lg' d q0.fg (inSegT T ((q0.1 : Int) + 1) q0.2.2.s (H d).t).2.1 :=
          ⟨pw.sys, st.pw.sys, st.tr, st.sr, tx.sx, hdst, hd, hq0.c3, ht, ((pw.lk q0.1 hq0.c3).ok q0.2.2 (List.mem_of_getElem? hq0.at_)).2⟩
        have zz := ZAll.deliver (Qo := Q.map Gq.fg) (Qn := Qn.map Gq.fg) ds (hb.step pw.sys st.tr st.sr st.len) (by omega) st.len (hz hr h6)
        rw [List.map_append, hE', nwQ_mk]
        exact zz
theorem InR.skip (h : InR T0 T cm r (p + 1) H (f :: W1) G X M) (pw : PW T H (f :: W1) G X Lg M) (hno : 4 < f.age ∨ ∀ d : Nat, d < 3 → f.raw[0]? ≠ some ((d : Int) + 1)) : InR T0 T cm r p H W1 G X M := by
  refine ⟨h.tm, fun hc => ?_, fun hc => ?_⟩
  · obtain ⟨B, old, Qn, h1, ho⟩ := h.n0 hc
    cases old with
    | nil => simp at ho
    | cons f0 old =>
      have hw := h1.w
      rw [List.cons_append] at hw
      injection hw with e1 e2
      refine ⟨B, old, Qn, ?_, by simpa using ho⟩
      rw [e2]
      exact h1.skip
  · obtain ⟨Qo, Qn, p', h1, hp, hz⟩ := h.n1 hc
    cases Qo with
    | nil => simp at hp
    | cons q0 Q =>
      have hp1 := h1.p01 pw
      have hw := h1.head pw
      injection hw with e1 e2
      have hq0 := h1.qo q0 (List.mem_cons_self ..)
      have hcnt := adv_count (T := T) (Q := Q) hp1
      rw [hp] at hcnt
      have hn : ∀ c : Nat, c < 3 → q0.2.2.d ≠ (c : Int) + 1 := fun c hc e => by
        rcases hno with z | z
        · rw [e1] at z
          have z' : 4 < T - q0.2.2.t := z
          have := hq0.lo
          omega
        · apply z c hc
          rw [e1]
          show (q0.2.2.fr q0.1 q0.2.1 p')[0]? = _
          rw [fr_head, e]
      refine ⟨(adv q0 Q p').1, Qn, (adv q0 Q p').2, by rw [e2]; exact neat_out h1 pw hn, by rw [hcnt]; rfl, fun hr h6 => ?_⟩
      have hz' := hz hr h6
      unfold adv
      split
      · exact hz'
      · refine ZAll.skip (q := q0.fg) hz' fun i g hg to => ?_
        have := pw.sys.hlt i g hg
        exact hn g.h this to.d
end
end Go.Proofs.Qxb6500424aGreat
