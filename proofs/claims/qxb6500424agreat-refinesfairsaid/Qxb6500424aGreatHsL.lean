/-
  host: the work: a frame of a whole datagram is delivered.
-/
import Derived.Test.Qxb6500424aGreatHsK
set_option linter.unusedVariables false
set_option linter.unusedSimpArgs false
namespace Go.Proofs.Qxb6500424aGreat
def adv (q : Gq) (Q : List Gq) (p : Nat) : List Gq × Nat := if p + 1 < q.cnt then (q :: Q, p + 1) else (Q, 0)
section
variable {s T : Int} {H H' : Nat → HS} {W W' : List FL} {M M' : Nat → List DG} {Qo Qn Q : List Gq} {p c n d : Nat} {G G' : List GE} {X X' : Nat → CS} {Lg Lg' : List LE} {q q0 : Gq} {g : DG}
theorem frsQ_len (T : Int) (q : Gq) : (frsQ T q).length = q.cnt := by unfold frsQ; simp
theorem frsQ_get {i : Nat} (h : i < q.cnt) : (frsQ T q)[i]? = some ⟨q.2.2.fr q.1 q.2.1 i, T - q.2.2.t, false⟩ := by
  unfold frsQ
  rw [List.getElem?_map, List.getElem?_range h]
  rfl
theorem Neat.p01 (h : Neat s T H W M (q0 :: Q) Qn p) (pw : PW T H W G X Lg M) : p < q0.cnt := by
  have := (h.qo q0 (List.mem_cons_self ..)).cnt pw
  rcases h.tab.ok with ⟨e, _⟩ | ⟨e, q1, Q1, e1, e2, _⟩
  · omega
  · cases e1
    omega
theorem adv_w (hp : p < q0.cnt) (T : Int) (Q : List Gq) : ((q0 :: Q).flatMap (frsQ T)).drop (p + 1) = ((adv q0 Q p).1.flatMap (frsQ T)).drop (adv q0 Q p).2 := by
  unfold adv
  split
  · rfl
  · have e : p + 1 = (frsQ T q0).length := by rw [frsQ_len]; omega
    show (frsQ T q0 ++ Q.flatMap (frsQ T)).drop (p + 1) = (Q.flatMap (frsQ T)).drop 0
    rw [e, List.drop_left, List.drop_zero]
theorem Neat.head (h : Neat s T H W M (q0 :: Q) Qn p) (pw : PW T H W G X Lg M) : W = ⟨q0.2.2.fr q0.1 q0.2.1 p, T - q0.2.2.t, false⟩ :: (((adv q0 Q p).1.flatMap (frsQ T)).drop (adv q0 Q p).2 ++ Qn.flatMap (frsQ T)) := by
  have hp := h.p01 pw
  rw [← adv_w hp, h.w]
  have hl : p < ((q0 :: Q).flatMap (frsQ T)).length := by
    show p < (frsQ T q0 ++ _).length
    rw [List.length_append, frsQ_len]
    omega
  have e : ((q0 :: Q).flatMap (frsQ T)).drop p = ((q0 :: Q).flatMap (frsQ T))[p] :: ((q0 :: Q).flatMap (frsQ T)).drop (p + 1) := List.drop_eq_getElem_cons hl
  have e2 : ((q0 :: Q).flatMap (frsQ T))[p] = ⟨q0.2.2.fr q0.1 q0.2.1 p, T - q0.2.2.t, false⟩ := by
    have a : ((q0 :: Q).flatMap (frsQ T))[p]? = some ⟨q0.2.2.fr q0.1 q0.2.1 p, T - q0.2.2.t, false⟩ := by
      show (frsQ T q0 ++ _)[p]? = _
      rw [List.getElem?_append_left (by rw [frsQ_len]; exact hp)]
      exact frsQ_get hp
    rw [List.getElem?_eq_getElem hl] at a
    exact Option.some.inj a
  rw [e, e2, List.cons_append]
theorem adv_sub : ∀ q ∈ (adv q0 Q p).1, q ∈ q0 :: Q := fun q hq => by
  unfold adv at hq
  split at hq
  · exact hq
  · exact List.mem_cons_of_mem _ hq
theorem adv_nd (h : (((q0 :: Q) ++ Qn).map fun q => (q.1, q.2.1)).Nodup) : (((adv q0 Q p).1 ++ Qn).map fun q => (q.1, q.2.1)).Nodup := by
  unfold adv
  split
  · exact h
  · exact (List.nodup_cons.1 h).2
/-- The bytes of a fragment lie in its frame. -/
theorem frag_byte {dst src : Int} {D : List Int} {om : Int} {x : List Int} {b : Int} (hb : b ∈ x) : b ∈ Fm.encFrame dst src 1 (Ip.pkt 6 src dst c om x) := by
  unfold Fm.encFrame Fm.encBody Ip.pkt
  simp [hb]
theorem frame_lo (hq : NQ T M q) (pw : PW T H W G X Lg M) (h2 : 16 < (q.2.2.D q.1).length) (hB : IsB (q.2.2.fr q.1 q.2.1 0)) : ∀ b ∈ (q.2.2.D q.1).take 16, 0 ≤ b := fun b hb => by
  have hl := hq.len pw
  refine (hB b ?_).1
  unfold DG.fr
  rw [pkt0 h2 hl.2]
  unfold Fm.encFrame Fm.encBody Ip.pkt
  simp [hb]
theorem frame_hi (hq : NQ T M q) (pw : PW T H W G X Lg M) (h2 : 16 < (q.2.2.D q.1).length) (hB : IsB (q.2.2.fr q.1 q.2.1 1)) : ∀ b ∈ (q.2.2.D q.1).drop 16, 0 ≤ b := fun b hb => by
  have hl := hq.len pw
  refine (hB b ?_).1
  unfold DG.fr
  rw [pkt1 h2 hl.2]
  unfold Fm.encFrame Fm.encBody Ip.pkt
  simp [hb]
/-- Behind a frame that is for nobody. -/
theorem neat_out (h : Neat s T H W M (q0 :: Q) Qn p) (pw : PW T H W G X Lg M) (hn : ∀ c : Nat, c < 3 → q0.2.2.d ≠ (c : Int) + 1) : Neat s T H (((adv q0 Q p).1.flatMap (frsQ T)).drop (adv q0 Q p).2 ++ Qn.flatMap (frsQ T)) M (adv q0 Q p).1 Qn (adv q0 Q p).2 := by
  have hp := h.p01 pw
  have hc := (h.qo q0 (List.mem_cons_self ..)).cnt pw
  refine ⟨rfl, fun q hq => h.qo q (adv_sub q hq), h.qn, adv_nd h.nd, ⟨?_⟩, fun d hd q hq => ?_⟩
  · rcases h.tab.ok with ⟨e, hS⟩ | ⟨e, q1, Q1, e1, e2, hS, _⟩
    · subst e
      unfold adv
      split
      · right
        exact ⟨rfl, q0, Q, rfl, by omega, fun c hc _ => hS c hc, fun d hd e => absurd e (hn d hd)⟩
      · exact .inl ⟨rfl, hS⟩
    · cases e1
      subst e
      unfold adv
      rw [if_neg (by omega)]
      exact .inl ⟨rfl, fun c hc => hS c hc (hn c hc)⟩
  · refine h.nk d hd q ?_
    rcases List.mem_append.1 hq with w | w
    · refine List.mem_append.2 (.inl ?_)
      unfold adv at w
      split at w
      · rcases (show p = 0 ∨ p = 1 by omega) with rfl | rfl
        · exact List.mem_of_mem_drop w
        · omega
      · rcases (show p = 0 ∨ p = 1 by omega) with rfl | rfl
        · exact List.mem_cons_of_mem _ w
        · exact w
    · exact List.mem_append.2 (.inr w)
/-- What the frame does at the host that it is for. -/
theorem neat_in (h : Neat s T H W M (q0 :: Q) Qn p) (pw : PW T H W G X Lg M) (hd : d < 3) (hdst : q0.2.2.d = (d : Int) + 1) (hB : IsB (q0.2.2.fr q0.1 q0.2.1 p)) :
    (∃ L' A', inputH (H d) (q0.2.2.fr q0.1 q0.2.1 p) = (dropH { H d with L := L', A := A' } 2, []) ∧ RsAll T d M A' ∧ ((s = 0 → p + 1 < q0.cnt) ∧ 16 < (q0.2.2.D q0.1).length) ∧
      Neat s T (updS H d (dropH { H d with L := L', A := A' } 2)) (((adv q0 Q p).1.flatMap (frsQ T)).drop (adv q0 Q p).2 ++ Qn.flatMap (frsQ T)) M (adv q0 Q p).1 Qn (adv q0 Q p).2) ∨
    (∃ L' A', inputH (H d) (q0.2.2.fr q0.1 q0.2.1 p) = inTopH { H d with L := L', A := A' } ((q0.1 : Int) + 1) q0.2.2.s ∧ RsAll T d M A' ∧ T - 4 ≤ q0.2.2.t ∧ p + 1 = q0.cnt ∧ Sl s A' ∧ (∀ c : Nat, c < 3 → c ≠ d → Sl s (H c).A) ∧ ∀ q ∈ Q ++ Qn, NoKey q.key A') := by
  have hp := h.p01 pw
  have hq0 := h.qo q0 (List.mem_cons_self ..)
  have hc := hq0.cnt pw
  have hl := hq0.len pw
  have b1 := hq0.lo
  have b2 := hq0.hi
  have hf : FrOk T M ⟨q0.2.2.fr q0.1 q0.2.1 p, T - q0.2.2.t, false⟩ q0.1 q0.2.1 p q0.2.2 := ⟨hq0.c3, hq0.at_, hp, by show 0 ≤ T - q0.2.2.t; omega, fun _ => rfl, fun _ => rfl, fun w => by cases w⟩
  obtain ⟨R, L', eR, hR, ht, r1, r2⟩ := input_R pw.lk (pw.rs d hd) hd hf (by show T - q0.2.2.t ≤ 4; omega) rfl hdst
  have e0 : inputH (H d) (⟨q0.2.2.fr q0.1 q0.2.1 p, T - q0.2.2.t, false⟩ : FL).raw = inputH (H d) (q0.2.2.fr q0.1 q0.2.1 p) := rfl
  rw [e0] at r1 r2
  have ek : q0.key = ((q0.1 : Int) + 1) * 65536 + 1536 + (q0.2.1 : Int) % 256 := rfl
  have hAd : ∀ A', (updS H d (dropH { H d with L := L', A := A' } 2) d).A = A' := fun A' => by rw [updS_at]; rfl
  have hAc : ∀ A' c, c ≠ d → (updS H d (dropH { H d with L := L', A := A' } 2) c).A = (H c).A := fun A' c hc => by rw [updS_ne hc]
  have rest : ∀ q ∈ Q ++ Qn, (q0.1, q0.2.1) ≠ (q.1, q.2.1) ∧ NQ T M q := fun q hq => by
    have nd := List.nodup_cons.1 h.nd
    refine ⟨fun e => nd.1 (List.mem_map.2 ⟨q, hq, e.symm⟩), ?_⟩
    rcases List.mem_append.1 hq with w | w
    · exact h.qo q (List.mem_cons_of_mem _ w)
    · exact (h.qn q w).1
  rcases h.tab.ok with ⟨e, hS⟩ | ⟨e, q1, Q1, e1, e2, hS, hS2⟩
  · subst e
    have nk0 : NoKey q0.key (H d).A := h.nk d hd q0 (List.mem_append.2 (.inl (List.mem_cons_self ..)))
    have nkr : ∀ c, c < 3 → ∀ q ∈ Q ++ Qn, NoKey q.key (H c).A := fun c hc q hq => h.nk c hc q (List.mem_cons_of_mem _ hq)
    rcases hc with ⟨c1, c2⟩ | ⟨c1, c2⟩
    · right
      have eR' := in_one (A := (H d).A) (src := (q0.1 : Int) + 1) (dst := (d : Int) + 1) (id := (q0.2.1 : Int) % 256) hl.1 c2
      rw [← eR] at eR'
      refine ⟨L', R.tab, r2 (by rw [eR']), hR, ht, by omega, ?_, fun c hc _ => hS c hc, fun q hq => ?_⟩
      · rw [eR']; exact hS d hd
      · rw [eR']; exact nkr d hd q hq
    · left
      have ea : adv q0 Q 0 = (q0 :: Q, 1) := by unfold adv; rw [if_pos (by omega)]
      rcases in_two0 (A := (H d).A) (src := (q0.1 : Int) + 1) (dst := (d : Int) + 1) (id := (q0.2.1 : Int) % 256) c2 hl.2 (by rw [← ek]; exact nk0) (frame_lo hq0 pw c2 hB) with ⟨h3, eR'⟩ | ⟨r, hr, hr4, eR'⟩
      · rw [← eR] at eR'
        have et : R.tab = (H d).A := by rw [eR']; rfl
        refine ⟨L', R.tab, r1 (by rw [eR']; show (11 : Int) ≠ 0; decide), hR, ⟨fun _ => by omega, c2⟩, ?_⟩
        rw [ea, et]
        refine ⟨rfl, h.qo, h.qn, h.nd, ⟨.inr ⟨rfl, q0, Q, rfl, c1, fun c hc hcd => ?_, fun d' hd' hdd => ?_⟩⟩, fun c hc q hq => ?_⟩
        · rw [hAc _ c (fun z => hcd (by rw [z]; exact hdst))]; exact hS c hc
        · have : d' = d := by omega
          subst this
          exact ⟨(H d').A, hS d' hd, nk0, .inr ⟨h3, hAd _⟩⟩
        · by_cases z : c = d
          · subst z; rw [hAd]; exact nkr c hc q hq
          · rw [hAc _ c z]; exact nkr c hc q hq
      · rw [← eR] at eR'
        have et : R.tab = Ip.insA r (H d).A := by rw [eR']; rfl
        refine ⟨L', R.tab, r1 (by rw [eR']; show (10 : Int) ≠ 0; decide), hR, ⟨fun _ => by omega, c2⟩, ?_⟩
        rw [ea, et]
        refine ⟨rfl, h.qo, h.qn, h.nd, ⟨.inr ⟨rfl, q0, Q, rfl, c1, fun c hc hcd => ?_, fun d' hd' hdd => ?_⟩⟩, fun c hc q hq => ?_⟩
        · rw [hAc _ c (fun z => hcd (by rw [z]; exact hdst))]; exact hS c hc
        · have : d' = d := by omega
          subst this
          exact ⟨(H d').A, hS d' hd, nk0, .inl ⟨r, hr, hAd _⟩⟩
        · by_cases z : c = d
          · subst z
            rw [hAd]
            intro x hx
            rcases List.mem_cons.1 ((Ip.insA_perm r _).subset hx) with v | v
            · rw [v, hr.key]
              obtain ⟨n1, n2⟩ := rest q hq
              exact hq0.keys n2 pw n1
            · exact nkr c hc q hq x v
          · rw [hAc _ c z]; exact nkr c hc q hq
  · cases e1
    subst e
    have c2 : 16 < (q0.2.2.D q0.1).length := by omega
    have ea : adv q0 Q 1 = (Q, 0) := by unfold adv; rw [if_neg (by omega)]
    obtain ⟨A0, s0, k0, alt⟩ := hS2 d hd hdst
    have nkr : ∀ c, c < 3 → ∀ q ∈ Q ++ Qn, NoKey q.key (H c).A := fun c hc q hq => h.nk c hc q hq
    rcases alt with ⟨r, hr, eA⟩ | ⟨h3, eA⟩
    · right
      obtain ⟨w1, w2⟩ := in_two1 (A := A0) (r := r) (src := (q0.1 : Int) + 1) (dst := (d : Int) + 1) (id := (q0.2.1 : Int) % 256) c2 hl.2 (by rw [← ek]; exact k0) (by rw [← ek]; exact hr) (frame_hi hq0 pw c2 hB)
      rw [← eA, ← eR] at w1 w2
      refine ⟨L', R.tab, r2 w1, hR, ht, by omega, by rw [w2]; exact s0, fun c hc hcd => hS c hc (fun z => hcd (by omega)), fun q hq => ?_⟩
      rw [w2]
      intro x hx
      refine nkr d hd q hq x ?_
      rw [eA]
      exact (Ip.insA_perm r A0).symm.subset (List.mem_cons_of_mem _ hx)
    · left
      have w := in_two1n (A := A0) (src := (q0.1 : Int) + 1) (dst := (d : Int) + 1) (id := (q0.2.1 : Int) % 256) c2 hl.2 (by rw [← ek]; exact k0) h3
      rw [← eA, ← eR] at w
      have et : R.tab = (H d).A := by rw [w]; rfl
      refine ⟨L', R.tab, r1 (by rw [w]; show (11 : Int) ≠ 0; decide), hR, ⟨fun z => ?_, by omega⟩, ?_⟩
      · exfalso
        subst z
        have := Sl.empty s0 (by rw [← eA]; exact pw.rs d hd)
        rw [this] at h3
        cases h3
      · rw [ea, et]
        refine ⟨rfl, fun q hq => h.qo q (List.mem_cons_of_mem _ hq), h.qn, (List.nodup_cons.1 h.nd).2, ⟨.inl ⟨rfl, fun c hc => ?_⟩⟩, fun c hc q hq => ?_⟩
        · by_cases z : c = d
          · subst z; rw [hAd, eA]; exact s0
          · rw [hAc _ c z]; exact hS c hc (fun v => z (by omega))
        · by_cases z : c = d
          · subst z; rw [hAd]; exact nkr c hc q hq
          · rw [hAc _ c z]; exact nkr c hc q hq
/-- Behind a datagram that has come whole. -/
theorem neat_top {A' : List Ip.AR} {h' : HS} {E : List DG} {W2 : List FL} (h : Neat s T H W M (q0 :: Q) Qn p) (pw : PW T H W G X Lg M) (hd : d < 3) (pw' : PW T (updS H d h') W2 G' X' Lg' M') (eA : h'.A = A') (rs : RsAll T d M A') (hS : Sl s A') (hSc : ∀ c : Nat, c < 3 → c ≠ d → Sl s (H c).A) (hk : ∀ q ∈ Q ++ Qn, NoKey q.key A')
    (hp : p + 1 = q0.cnt) (hM : M' d = M d ++ E) (hM2 : ∀ k, k ≠ d → M' k = M k) (hE : ∀ g ∈ E, g.t = T) :
    Neat s T (updS H d h') ((((adv q0 Q p).1.flatMap (frsQ T)).drop (adv q0 Q p).2 ++ Qn.flatMap (frsQ T)) ++ (fsOf d (M d).length E).map flF) M' Q (Qn ++ mkQ d (M d).length E) 0 := by
  have ea : adv q0 Q p = (Q, 0) := by unfold adv; rw [if_neg (by omega)]
  have up : ∀ {q : Gq}, NQ T M q → NQ T M' q := fun {q} w => by
    refine ⟨w.c3, ?_, w.lo, w.hi⟩
    by_cases z : q.1 = d
    · have a := w.at_
      rw [z] at a ⊢
      rw [hM, List.getElem?_append_left (List.getElem?_eq_some_iff.1 a).1]
      exact a
    · rw [hM2 _ z]; exact w.at_
  have new : ∀ q ∈ mkQ d (M d).length E, NQ T M' q ∧ q.2.2.t = T ∧ q.1 = d ∧ (M d).length ≤ q.2.1 := fun q hq => by
    obtain ⟨a, k, b, e, f⟩ := mkQ_mem E _ hq
    have ht := hE _ (List.mem_of_getElem? f)
    refine ⟨⟨by omega, ?_, by omega, by omega⟩, ht, a, by omega⟩
    rw [a, hM, e, List.getElem?_append_right (by omega), show (M d).length + k - (M d).length = k by omega]
    exact f
  rw [ea]
  refine ⟨?_, fun q hq => up (h.qo q (List.mem_cons_of_mem _ hq)), fun q hq => ?_, ?_, ⟨.inl ⟨rfl, fun c hc => ?_⟩⟩, fun c hc q hq => ?_⟩
  · rw [List.flatMap_append, mkQ_frs E _ hE, List.append_assoc]
  · rcases List.mem_append.1 hq with w | w
    · exact ⟨up (h.qn q w).1, (h.qn q w).2⟩
    · exact ⟨(new q w).1, (new q w).2.1⟩
  · rw [← List.append_assoc, List.map_append]
    refine List.nodup_append.2 ⟨(List.nodup_cons.1 h.nd).2, mkQ_nodup E _, fun a ha b hb e => ?_⟩
    obtain ⟨q1, hq1, rfl⟩ := List.mem_map.1 ha
    obtain ⟨q2, hq2, rfl⟩ := List.mem_map.1 hb
    obtain ⟨_, _, n3, n4⟩ := new q2 hq2
    have w : NQ T M q1 := by
      rcases List.mem_append.1 hq1 with v | v
      · exact h.qo q1 (List.mem_cons_of_mem _ v)
      · exact (h.qn q1 v).1
    have e0 : ((q1.1, q1.2.1) : Nat × Nat) = (q2.1, q2.2.1) := e
    have e1 : q1.1 = q2.1 := congrArg (fun z : Nat × Nat => z.1) e0
    have e2 : q1.2.1 = q2.2.1 := congrArg (fun z : Nat × Nat => z.2) e0
    have a := (List.getElem?_eq_some_iff.1 w.at_).1
    rw [e1, n3] at a
    omega
  · by_cases z : c = d
    · subst z; rw [updS_at, eA]; exact hS
    · rw [updS_ne z]; exact hSc c hc z
  · rcases List.mem_append.1 hq with w | w
    · by_cases z : c = d
      · subst z; rw [updS_at, eA]; exact hk q (List.mem_append.2 (.inl w))
      · rw [updS_ne z]
        refine h.nk c hc q (List.mem_append.2 (.inl ?_))
        rcases (show p = 0 ∨ p = 1 by have := (h.qo q0 (List.mem_cons_self ..)).cnt pw; omega) with rfl | rfl
        · exact List.mem_cons_of_mem _ w
        · exact w
    · rcases List.mem_append.1 w with v | v
      · by_cases z : c = d
        · subst z; rw [updS_at, eA]; exact hk q (List.mem_append.2 (.inr v))
        · rw [updS_ne z]; exact h.nk c hc q (List.mem_append.2 (.inr v))
      · obtain ⟨n1, n2, n3, n4⟩ := new q v
        have rsc : RsAll T c M (updS H d h' c).A := by
          by_cases z : c = d
          · subst z; rw [updS_at, eA]; exact rs
          · rw [updS_ne z]; exact pw.rs c hc
        have := row_new (H := updS H d h') (n := q.2.1) (c := d) (M' := M') rsc (pw'.lk d hd) ⟨E, hM⟩ (g := q.2.2) (by rw [← n3]; exact n1.at_) n4 n2
        unfold Gq.key
        rw [n3]
        exact this
end
end Go.Proofs.Qxb6500424aGreat
