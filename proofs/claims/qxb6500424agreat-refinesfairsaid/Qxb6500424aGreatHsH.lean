/-
  host: the work: a datagram is delivered to the peer; all cases.
-/
import Derived.Test.Qxb6500424aGreatHsG
set_option linter.unusedVariables false
set_option linter.unusedSimpArgs false
namespace Go.Proofs.Qxb6500424aGreat
section
variable {T T' : Int} {t t' : Nat → TC} {G G' : List GE} {X X' : Nat → CS} {Lg Lg' : List LE} {i j k d : Nat} {g y g' y' : GE} {x z : CS} {q : Fg} {Q Qo Qn : List Fg} {O : List OutS} {μ : Int}
/-- The datagram is for the peer. -/
theorem d_peer (h : DSt T t t' G G' X X' Lg Lg' d q O) (hi : G[i]? = some g) (hl : g.gone = false) (h3 : (X i).st = 3) (hj : G[j]? = some y) (hp : Pair i j g y)
    (hi' : G'[i]? = some g') (hl' : g'.gone = false) (h3' : (X' i).st = 3) (hj' : G'[j]? = some y') (hp' : Pair i j g' y') (yl : y.gone = false) (tj : To y q)
    (hz : Zc μ (q :: Qo) Qn g y (X i) (X j)) : Zc μ Qo (Qn ++ nwQ T d O) g' y' (X' i) (X' j) := by
  have kg := h.tr.kp hi hi'
  have ky := h.tr.kp hj hj'
  have he := h.s0.inv.ends
  have hne : i ≠ j := hp.ne hi hj
  obtain ⟨eX, O0, eO, eO2⟩ := h.hx.hit (h.s0.tab d h.d3) he hj yl tj h.hd
  subst eO
  have ez : X' j = (inputF q.2.s.1 q.2.s.2 (X j)).1 := by rw [eX]; simp [updX]
  have ex : X' i = X i := by rw [eX]; unfold updX; rw [if_neg hne]
  have lx := h.s0.inv.live i g hi hl
  have lz := h.s0.inv.live j y hj yl
  have ok := lx.ok
  have okz := lz.ok
  have cn := h.s0.cnI hi hl h3 hj hp
  have cn' := h.s1.cnI hi' hl' h3' hj' hp'
  rw [ex] at cn' ⊢
  obtain ⟨hfl, hab⟩ := h.il.seg h.s0
  obtain ⟨rn1, rn2⟩ := roles_ne he hi hj hp
  have ntg : ¬ To g q := fun w => rn1 (by rw [← tj.dp, ← w.dp])
  have tyj := h.tr.at hj hj' yl
  have eh : y.h = d := by have := tj.d; have := h.hd; omega
  -- what the peer answers is in flight
  have sent : ∀ s ∈ (inputF q.2.s.1 q.2.s.2 (X j)).2, Rng s → ∃ q' ∈ nwQ T d O, To g' q' ∧ q'.2.s.1.ak = s.1.ak ∧ q'.2.s.1.fl = s.1.fl := fun s hs hr => by
    have hen := h.s0.enc hj yl hr
    rw [eh] at hen
    have hm : stampG y s ∈ O := by rw [eO2]; exact List.mem_map.2 ⟨s, hs, rfl⟩
    refine ⟨_, mem_nw (s := s) hm hen, ?_, rfl, rfl⟩
    have := To.of hp T s
    rw [eh] at this
    exact this.kp kg
  by_cases hr0 : rem (X i) = 0
  · exact .inl hr0
  have hfa := fa_of ok h3 hr0
  -- the peer, behind
  have zst : (X j).st = 3 → (X' j).st = 3 ∨ (X' j).st = 4 := fun w => by
    have gl : y'.gone = false := by
      cases v : y'.gone with
      | false => rfl
      | true => have := tyj.go v; omega
    obtain ⟨mm, _⟩ := tyj.may gl
    rcases mm with v | ⟨v, _⟩ | ⟨_, v⟩
    · exact .inl (by omega)
    · omega
    · exact .inr v
  have yl' : (X j).st = 3 → y'.gone = false := fun w => by
    cases v : y'.gone with
    | false => rfl
    | true => have := tyj.go v; omega
  have z4 : (X j).st = 4 → X' j = X j := fun w => by
    rw [ez]
    unfold inputF
    rw [if_pos w]
    unfold quietF
    split <;> rfl
  rcases hz with hz | ⟨p1, p2⟩ | ⟨b1, b2, b3, b4, b5⟩ | ⟨m0, hf⟩ | ⟨m1, hf⟩ | ⟨s1, s2, s3, st⟩ | ⟨nm, af, w⟩
  · exact absurd hz hr0
  · rcases p2 with v | v
    · rw [yl] at v; cases v
    · exact .inr (.inl ⟨by rw [(tyj.frz (.inr (.inl v))).2.2]; exact p1, .inr (by rw [z4 v]; exact v)⟩)
  · have gl := yl' b2
    have hAle : (X' j).B.A.length ≤ 16 := (h.s1.inv.live j y' hj' gl).ok.B.len
    by_cases bad : (X' j).st = 4 ∧ (X' j).why ≠ 0
    · refine .inr (.inl ⟨?_, .inr bad.1⟩)
      rw [(tyj.frz (.inr (.inr bad))).2.2]
      have oo := h.s0.ooJ hi hj hp yl (.inl b2)
      rw [← oo.pf]; exact b3
    · have g3 : (X' j).st = 3 ∨ ((X' j).st = 4 ∧ (X' j).why = 0) := by
        rcases zst b2 with v | v
        · exact .inl v
        · refine .inr ⟨v, ?_⟩
          apply Classical.byContradiction
          intro hn
          exact bad ⟨v, hn⟩
      have hB := input_B (s := q.2.s) b2 (by rw [← ez]; exact g3.elim .inl (fun v => .inr v.2)) okz
      rw [← ez, b4] at hB
      have eA : (X' j).B.A.length = 16 := by omega
      obtain ⟨r1, r2⟩ := blk_same h.s0 h.s1 h.sr hi hj hp hi' hj' hp' yl gl (.inl b2) g3 (by rw [eA, b4])
      have oo' := h.s1.ooJ hi' hj' hp' gl g3
      have npf : (X' j).pf = false := by
        cases v : (X' j).pf with
        | false => rfl
        | true =>
          have := (hp'.dir.1.pf (by rw [← oo'.pf]; exact v)).2
          omega
      rcases g3 with v | ⟨v1, v2⟩
      · exact .inr (.inr (.inl ⟨gl, v, npf, eA, by omega⟩))
      · exfalso
        have := ((h.s1.inv.live j y' hj' gl).ok.good v1 v2).2.2.2.1
        rw [npf] at this
        cases this
  · exact .inr (.inr (.inr (.inl ⟨m0, (hf.tail ntg).kp kg⟩)))
  · exact .inr (.inr (.inr (.inr (.inl ⟨m1, (hf.kp kg).app⟩))))
  · have gl := yl' s2
    have oo := h.s0.ooJ hi hj hp yl (.inl s2)
    by_cases bad : (X' j).st = 4 ∧ (X' j).why ≠ 0
    · refine .inr (.inl ⟨?_, .inr bad.1⟩)
      rw [(tyj.frz (.inr (.inr bad))).2.2, ← oo.pf]
      exact s3
    have g3 : (X' j).st = 3 ∨ ((X' j).st = 4 ∧ (X' j).why = 0) := by
      rcases zst s2 with v | v
      · exact .inl v
      · refine .inr ⟨v, ?_⟩
        apply Classical.byContradiction
        intro hn
        exact bad ⟨v, hn⟩
    have oo' := h.s1.ooJ hi' hj' hp' gl g3
    have lz' := h.s1.inv.live j y' hj' gl
    by_cases pf' : (X' j).pf = true
    · -- the peer has seen the FIN: it says so
      obtain ⟨a1, a2, a3⟩ := input_pf s2 hfl s3 (by rw [← ez]; exact pf')
      obtain ⟨s', hs', f1, f2', f3⟩ := out_ack (.inl s2) okz a1 a2 (fun _ => a3)
      obtain ⟨rg, _⟩ := in_outs okz hfl (fun w => (hab w).2.1) s' hs' (.inl f1)
      obtain ⟨q', hq', to', e1, e2⟩ := sent s' hs' rg
      obtain ⟨n1, n2⟩ := full_num cn' oo' pf' hfa
      refine .inr (.inr (.inr (.inr (.inl ⟨st.pos hr0, n1, q', List.mem_append.2 (.inr hq'), to', .inl (by rw [e2]; exact f1), ?_⟩))))
      rw [e1, f3, ← ez]
      exact n2
    · have npf : (X' j).pf = false := by
        cases v : (X' j).pf with
        | false => rfl
        | true => exact absurd v pf'
      have z3 : (X' j).st = 3 := by
        rcases g3 with v | ⟨v1, v2⟩
        · exact v
        · have := (lz'.ok.good v1 v2).2.2.2.1
          rw [npf] at this
          cases this
      -- a segment at the first number that is not acknowledged
      have fly : Fly (X i) q.2.s → (HasAck (Qn ++ nwQ T d O) g' (X i)) ∨ ((X' j).B.A.length = 16 ∧ y'.rc < g'.S.length) := fun fl => by
        have ha : AckT q.2.s := by
          rcases fl.2 with ⟨v, _⟩ | ⟨v, _⟩
          · exact .inl v
          · exact .inr v
        have hD : 0 < q.2.s.2.length ∨ q.2.s.1.fl = 6 := by
          rcases fl.2 with ⟨_, v, _⟩ | ⟨v, _⟩
          · exact .inl v
          · exact .inr v
        have hk := acked_true h.s0 hj yl s2 h.il tj ha
        obtain ⟨s', hs', f1, f2', f3⟩ := out_ack (.inl s2) okz ha hD (fun _ => hk)
        obtain ⟨rg, _⟩ := in_outs okz hfl (fun w => (hab w).2.1) s' hs' (.inl f1)
        obtain ⟨q', hq', to', e1, e2⟩ := sent s' hs' rg
        obtain ⟨n1, n2, n3⟩ := ack_num cn' oo'
        obtain ⟨k1, k2, k3⟩ := ack_num cn oo
        have u0 := ua_len cn.oo cn.d1
        have u1 := ua_len cn'.oo cn'.d1
        have r0 := rc_len oo hp.dir.1
        have r1 := rc_len oo' hp'.dir.1
        rw [(h.sr j y y' hj hj').2.1] at r1
        rw [(h.sr i g g' hi hi').1] at u1
        have fa0 : b2i g.fa = 0 := by rw [← cn.oo.fa, hfa]; rfl
        have fa1 : b2i g'.fa = 0 := by rw [← cn'.oo.fa, hfa]; rfl
        have pf0 : b2i y.pf = 0 := by rw [← oo.pf, s3]; rfl
        have pf1 : b2i y'.pf = 0 := by rw [← oo'.pf, npf]; rfl
        have hB := input_B (s := q.2.s) s2 (by rw [← ez]; exact .inl z3) okz
        rw [← ez] at hB
        by_cases pos : 0 < ackD (rcvNxt (X' j)) (X i)
        · left
          refine ⟨q', List.mem_append.2 (.inr hq'), to', .inl (by rw [e2]; exact f1), by rw [e1]; exact rg.ak, ?_, ?_⟩
          · rw [e1, f3, ← ez]; exact pos
          · rw [e1, f3, ← ez]; exact n2
        · right
          have hrc : (y.rc : Int) = g.ua := by omega
          have hsq : q.2.s.1.sq = (X j).B.nxt := by
            rw [fl.1, cn.oo.una, oo.nxt, show (y.rc : Int) = (g.ua : Int) from hrc]
          obtain ⟨ad1, ad2⟩ := in_adv okz s2 ha hk s3 hsq
          rw [← ez] at ad1 ad2
          have hAle := okz.B.len
          rcases fl.2 with ⟨v1, v2, v3⟩ | ⟨v1, v2, _⟩
          · have h16 : (X j).B.A.length = 16 := by
              apply Classical.byContradiction
              intro hn
              have := ad1 v1 v2 (by omega)
              omega
            have hAle' := lz'.ok.B.len
            have eS := (h.sr i g g' hi hi').1
            refine ⟨by omega, ?_⟩
            rw [eS]
            omega
          · have := ad2 v1 v2
            rw [npf] at this
            cases this
      have keep : Stg μ Qo (Qn ++ nwQ T d O) g' y' (X i) → Zc μ Qo (Qn ++ nwQ T d O) g' y' (X i) (X' j) := fun w => .inr (.inr (.inr (.inr (.inr (.inl ⟨gl, z3, npf, w⟩)))))
      rcases st with a | ⟨a, b⟩ | ⟨a, b⟩ | ⟨a, b⟩ | a
      · exact keep (.inl a)
      · obtain ⟨q', c1, c2, c3⟩ := a
        rcases List.mem_cons.1 c1 with v | v
        · subst v
          rcases fly c3 with w | ⟨w1, w2⟩
          · exact keep (.inr (.inr (.inr (.inl ⟨w, b⟩))))
          · exact .inr (.inr (.inl ⟨gl, z3, npf, w1, w2⟩))
        · exact keep (.inr (.inl ⟨⟨q', v, c2.kp ky, c3⟩, b⟩))
      · exact keep (.inr (.inr (.inl ⟨(a.tail ntg).kp kg, b⟩)))
      · exact keep (.inr (.inr (.inr (.inl ⟨(a.kp kg).app, b⟩))))
      · exact keep (.inr (.inr (.inr (.inr a))))
  · have nm' : NoM y' (X' j) := by
      rcases nm with v | v | v
      · rw [yl] at v; cases v
      · exact .inr (.inl (by rw [z4 v]; exact v))
      · by_cases c3 : (X j).st = 3
        · rcases zst c3 with u | u
          · have hB := input_B (s := q.2.s) c3 (by rw [← ez]; exact .inl u) okz
            rw [← ez] at hB
            exact .inr (.inr (hB.2 v))
          · exact .inr (.inl u)
        · by_cases c4 : (X j).st = 4
          · exact .inr (.inl (by rw [z4 c4]; exact c4))
          · have hst := okz.st
            have hnz := lz.nz
            have := (okz.opening (by omega)).2.2.2.2
            rw [v] at this
            cases this
    refine .inr (.inr (.inr (.inr (.inr (.inr ⟨nm', (af.kp kg).app ?_, ?_⟩)))))
    · intro q' hq' to' ha'
      obtain ⟨o, ho, rfl⟩ := List.mem_map.1 hq'
      have hoO := (List.mem_filter.1 ho).1
      rw [eO2] at hoO
      obtain ⟨s, hs, rfl⟩ := List.mem_map.1 hoO
      have has : AckT s := ha'
      obtain ⟨_, w2, w3⟩ := in_outs okz hfl (fun w => (hab w).2.1) s hs has
      show _ ∧ s.1.ak = _
      have hst := okz.st
      have hnz := lz.nz
      have zz : ((X j).st = 3 ∨ ((X j).st = 4 ∧ (X j).why = 0)) ∧ (X j).pf = true := by
        rcases nm with v | v | v
        · rw [yl] at v; cases v
        · have e4 := z4 v
          rw [← ez, e4] at w2
          have hw : (X j).why = 0 := by
            rcases w2 with u | u
            · omega
            · exact u.2
          exact ⟨.inr ⟨v, hw⟩, (okz.good v hw).2.2.2.1⟩
        · by_cases c3 : (X j).st = 3
          · exact ⟨.inl c3, v⟩
          · by_cases c4 : (X j).st = 4
            · have e4 := z4 c4
              rw [← ez, e4] at w2
              have hw : (X j).why = 0 := by
                rcases w2 with u | u
                · omega
                · exact u.2
              exact ⟨.inr ⟨c4, hw⟩, v⟩
            · have := (okz.opening (by omega)).2.2.2.2
              rw [v] at this
              cases this
      have oo := h.s0.ooJ hi hj hp yl zz.1
      obtain ⟨n1, n2⟩ := full_num cn oo zz.2 hfa
      exact ⟨n1, by rw [w3 (zz.1.elim .inl (fun u => .inr u.1)) zz.2]; exact n2⟩
    · rcases w with w | ⟨w1, w2, w3⟩
      · exact .inl w
      · exact .inr ⟨w1.tail.kp kg, w2, w3⟩
/-- A datagram is delivered. -/
theorem d_step (h : DSt T t t' G G' X X' Lg Lg' d q O) (hi : G[i]? = some g) (hl : g.gone = false) (h3 : (X i).st = 3) (hj : G[j]? = some y) (hp : Pair i j g y)
    (hi' : G'[i]? = some g') (hl' : g'.gone = false) (h3' : (X' i).st = 3) (hj' : G'[j]? = some y') (hp' : Pair i j g' y')
    (hz : Zc μ (q :: Qo) Qn g y (X i) (X j)) : Zc μ Qo (Qn ++ nwQ T d O) g' y' (X' i) (X' j) := by
  by_cases ti : To g q
  · exact d_self h hi hl h3 hj hp hi' hl' h3' hj' hp' ti hz
  · by_cases tj : To y q
    · cases yl : y.gone with
      | false => exact d_peer h hi hl h3 hj hp hi' hl' h3' hj' hp' yl tj hz
      | true => exact d_other h hi hl h3 hj hp hi' hl' h3' hj' hp' ti (fun w => by rw [yl] at w; cases w) hz
    · exact d_other h hi hl h3 hj hp hi' hl' h3' hj' hp' ti (fun _ => tj) hz
end
end Go.Proofs.Qxb6500424aGreat
