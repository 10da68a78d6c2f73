/-
  host: the work: the clock ticks.
-/
import Derived.Test.Qxb6500424aGreatHsH
set_option linter.unusedVariables false
set_option linter.unusedSimpArgs false
namespace Go.Proofs.Qxb6500424aGreat
structure KSt (T : Int) (t t' : Nat → TC) (G G' : List GE) (X X' : Nat → CS) (Lg Lg' : List LE) (Of : Nat → List OutS) : Prop where
  s0 : Sys T t G X Lg
  s1 : Sys (T + 1) t' G' X' Lg'
  tr : TrAll (T + 1) G X G' X'
  sr : SameSR G G'
  hX : ∀ (i : Nat) g, G'[i]? = some g → g.gone = false → X' i = (tickF (X i)).1
  hO : ∀ c, c < 3 → TickO G X c (Of c)
def tkQ (T : Int) (Of : Nat → List OutS) : List Fg := nwQ T 0 (Of 0) ++ (nwQ T 1 (Of 1) ++ nwQ T 2 (Of 2))
theorem mem_tkQ {T : Int} {Of : Nat → List OutS} {q : Fg} : q ∈ tkQ T Of ↔ ∃ c, c < 3 ∧ q ∈ nwQ T c (Of c) := by
  unfold tkQ
  rw [List.mem_append, List.mem_append]
  constructor
  · rintro (h | h | h)
    · exact ⟨0, by omega, h⟩
    · exact ⟨1, by omega, h⟩
    · exact ⟨2, by omega, h⟩
  · rintro ⟨c, hc, h⟩
    rcases (show c = 0 ∨ c = 1 ∨ c = 2 by omega) with rfl | rfl | rfl
    · exact .inl h
    · exact .inr (.inl h)
    · exact .inr (.inr h)
section
variable {T : Int} {t t' : Nat → TC} {G G' : List GE} {X X' : Nat → CS} {Lg Lg' : List LE} {i j k d : Nat} {g y g' y' : GE} {x x' z : CS} {q : Fg} {Q Qo Qn : List Fg} {Of : Nat → List OutS} {μ : Int}
theorem HasFull.tk (h : HasFull Q g x) (m : TkS x x') : HasFull Q g x' := by
  obtain ⟨a, q, b, c, d, e⟩ := h
  exact ⟨m.fs a, q, b, c, d, by unfold endN; rw [m.una, m.D]; exact e⟩
theorem AllFull.tk (h : AllFull Q g x) (m : TkS x x') : AllFull Q g x' := fun q a b c => by
  obtain ⟨e, f⟩ := h q a b c
  exact ⟨m.fs e, by unfold endN; rw [m.una, m.D]; exact f⟩
theorem HasAck.tk (h : HasAck Q g x) (h3 : x.st = 3) (h3' : x'.st = 3) (m : TkS x x') : HasAck Q g x' := by
  obtain ⟨q, a, b, c, d, e1, e2⟩ := h
  have ed : ackD q.2.s.1.ak x' = ackD q.2.s.1.ak x := by unfold ackD sndUna; rw [m.una, m.fa]
  have := fly_mono h3 h3' m.sent m.fs m.fa
  exact ⟨q, a, b, c, d, by rw [ed]; exact e1, by rw [ed]; omega⟩
theorem HasFly.right {Q' : List Fg} (h : HasFly Q' y x) : HasFly (Q ++ Q') y x := by
  obtain ⟨q, a, b⟩ := h
  exact ⟨q, List.mem_append.2 (.inr a), b⟩
/-- The tick of an open end that stays open. -/
theorem tick_all3 (ok : CsOk x) (h3 : x.st = 3) (h3' : (tickF x).1.st = 3) : TkS x (tickF x).1 := by
  have ht := ok.tm
  by_cases c0 : x.tm = 0
  · exact (tick_zero ok h3 c0).2.1
  · by_cases c1 : x.tm = 1
    · rcases tick_one ok h3 c1 with ⟨w, _⟩ | ⟨_, w, _⟩
      · omega
      · exact w
    · exact (tick_gt ok h3 (by omega)).2.1
theorem k_step (h : KSt T t t' G G' X X' Lg Lg' Of) (hi : G[i]? = some g) (hl : g.gone = false) (h3 : (X i).st = 3) (hj : G[j]? = some y) (hp : Pair i j g y)
    (hi' : G'[i]? = some g') (hl' : g'.gone = false) (h3' : (X' i).st = 3) (hj' : G'[j]? = some y') (hp' : Pair i j g' y')
    (hz : Zc μ [] Qn g y (X i) (X j)) : Zc (μ - 1) (Qn ++ tkQ (T + 1) Of) [] g' y' (X' i) (X' j) := by
  have kg := h.tr.kp hi hi'
  have ky := h.tr.kp hj hj'
  have he := h.s0.inv.ends
  have ex : X' i = (tickF (X i)).1 := h.hX i g' hi' hl'
  have ez : y'.gone = false → X' j = (tickF (X j)).1 := fun w => h.hX j y' hj' w
  have lx := h.s0.inv.live i g hi hl
  have ok := lx.ok
  have htm := ok.tm
  have hrt := ok.rt
  rw [ex] at h3'
  have tk := tick_all3 ok h3 h3'
  have er : rem (tickF (X i)).1 = rem (X i) := tk.rem
  rw [ex]
  by_cases hr0 : rem (X i) = 0
  · exact .inl (by rw [er]; exact hr0)
  have hfa := fa_of ok h3 hr0
  -- the peer
  have yl' : y.gone = false → (X j).st = 3 → y'.gone = false := fun hy w => by
    cases v : y'.gone with
    | false => rfl
    | true => have := (h.tr.at hj hj' hy).go v; omega
  have z4 : y.gone = false → (X j).st = 4 → y'.gone = true ∨ (X' j).st = 4 := fun hy w => by
    cases v : y'.gone with
    | true => exact .inl rfl
    | false =>
      right
      have lz' := (h.s1.inv.live j y' hj' v).nz
      rw [ez v] at lz' ⊢
      have hnz := (h.s0.inv.live j y hj hy).nz
      rcases (tick_st hnz).1 w with u | u
      · exact absurd u lz'
      · exact u.1
  have z3 : y.gone = false → (X j).st = 3 → (X j).pf = false → (y'.pf = false ∧ (X' j).st = 4) ∨ ((X' j).st = 3 ∧ TkS (X j) (X' j)) := fun hy w wp => by
    have gl := yl' hy w
    have lz := h.s0.inv.live j y hj hy
    have oo := h.s0.ooJ hi hj hp hy (.inl w)
    rw [ez gl]
    rcases (tick_st lz.nz).2 (by omega) with u | u
    · right
      have u3 : (tickF (X j)).1.st = 3 := by omega
      exact ⟨u3, tick_all3 lz.ok w u3⟩
    · left
      refine ⟨?_, u⟩
      have hw : (tickF (X j)).1.why ≠ 0 := by
        intro hn
        have lz' := (h.s1.inv.live j y' hj' gl).ok
        rw [ez gl] at lz'
        have gp := (lz'.good u hn).2.2.2.1
        have htj := lz.ok.tm
        by_cases c0 : (X j).tm = 0
        · have := (tick_zero lz.ok w c0).1; omega
        · by_cases c1 : (X j).tm = 1
          · rcases tick_one lz.ok w c1 with ⟨_, v⟩ | ⟨v, _⟩
            · exact v hn
            · omega
          · have := (tick_gt lz.ok w (by omega)).1; omega
      rw [((h.tr.at hj hj' hy).frz (.inr (.inr (by rw [ez gl]; exact ⟨u, hw⟩)))).2.2, ← oo.pf]
      exact wp
  -- a segment of ours that the tick puts out
  have flyQ : ∀ s ∈ (tickF (X i)).2, Fly (tickF (X i)).1 s → HasFly (Qn ++ tkQ (T + 1) Of) y' (tickF (X i)).1 := fun s hs fl => by
    have ha : AckT s := by
      rcases fl.2 with ⟨v, _⟩ | ⟨v, _⟩
      · exact .inl v
      · exact .inr v
    obtain ⟨rg, _⟩ := tick_outs ok s hs ha
    have hen := h.s0.enc hi hl rg
    have h3g := h.s0.hlt i g hi
    have hm := (h.hO g.h h3g).1 i g hi hl rfl s hs
    refine HasFly.right ⟨_, mem_tkQ.2 ⟨g.h, h3g, mem_nw (s := s) hm hen⟩, ?_, fl⟩
    exact (To.of hp.symm (T + 1) s).kp ky
  rcases hz with hz | ⟨p1, p2⟩ | ⟨b1, b2, b3, b4, b5⟩ | ⟨m0, hf⟩ | ⟨m1, hf⟩ | ⟨s1, s2, s3, st⟩ | ⟨nm, af, w⟩
  · exact absurd hz hr0
  · refine .inr (.inl ?_)
    cases hy : y.gone with
    | true => rw [h.tr.dead hj hj' hy]; exact ⟨p1, .inl hy⟩
    | false =>
      rcases p2 with v | v
      · rw [hy] at v; cases v
      · exact ⟨by rw [((h.tr.at hj hj' hy).frz (.inr (.inl v))).2.2]; exact p1, z4 hy v⟩
  · have gl := yl' b1 b2
    rcases z3 b1 b2 b3 with ⟨u1, u2⟩ | ⟨u1, u2⟩
    · exact .inr (.inl ⟨u1, .inr u2⟩)
    · obtain ⟨r1, r2⟩ := blk_same h.s0 h.s1 h.sr hi hj hp hi' hj' hp' b1 gl (.inl b2) (.inl u1) (by rw [u2.B])
      exact .inr (.inr (.inl ⟨gl, u1, by rw [u2.pf]; exact b3, by rw [u2.B]; exact b4, by omega⟩))
  · obtain ⟨_, q, hq, _⟩ := hf
    cases hq
  · exact .inr (.inr (.inr (.inl ⟨by omega, ((hf.tk tk).kp kg).app⟩)))
  · have gl := yl' s1 s2
    rcases z3 s1 s2 s3 with ⟨u1, u2⟩ | ⟨u1, u2⟩
    · exact .inr (.inl ⟨u1, .inr u2⟩)
    have keep : Stg (μ - 1) (Qn ++ tkQ (T + 1) Of) [] g' y' (tickF (X i)).1 → Zc (μ - 1) (Qn ++ tkQ (T + 1) Of) [] g' y' (tickF (X i)).1 (X' j) := fun w => .inr (.inr (.inr (.inr (.inr (.inl ⟨gl, u1, by rw [u2.pf]; exact s3, w⟩)))))
    rcases st with ⟨a, b⟩ | ⟨a, b⟩ | ⟨a, b⟩ | ⟨a, b⟩ | ⟨a, b⟩
    · by_cases c1 : (X i).tm = 1
      · rcases tick_one ok h3 c1 with ⟨v, _⟩ | ⟨_, _, _, _, _, s, hs, fl⟩
        · omega
        · exact keep (.inr (.inl ⟨flyQ s hs fl, by rw [er]; omega⟩))
      · obtain ⟨_, _, v, _⟩ := tick_gt ok h3 (by omega)
        exact keep (.inl ⟨by omega, by rw [er, v]; omega⟩)
    · obtain ⟨q, hq, _⟩ := a
      cases hq
    · obtain ⟨q, hq, _⟩ := a
      cases hq
    · exact keep (.inr (.inr (.inl ⟨((a.tk h3 h3' tk).kp kg).app, by rw [er]; omega⟩)))
    · rcases a.2 with c0 | c2
      · rcases (tick_zero ok h3 c0).2.2 with v | ⟨_, s, hs, fl⟩
        · exact absurd v hr0
        · exact keep (.inr (.inl ⟨flyQ s hs fl, by rw [er]; omega⟩))
      · obtain ⟨_, _, v, _⟩ := tick_gt ok h3 (by omega)
        exact keep (.inl ⟨by omega, by rw [er, v]; omega⟩)
  · have nm' : NoM y' (X' j) := by
      cases hy : y.gone with
      | true => rw [h.tr.dead hj hj' hy]; exact .inl hy
      | false =>
        rcases nm with v | v | v
        · rw [hy] at v; cases v
        · rcases z4 hy v with u | u
          · exact .inl u
          · exact .inr (.inl u)
        · have lz := h.s0.inv.live j y hj hy
          by_cases c3 : (X j).st = 3
          · have gl := yl' hy c3
            rw [ez gl]
            rcases (tick_st lz.nz).2 (by omega) with u | u
            · have u3 : (tickF (X j)).1.st = 3 := by omega
              exact .inr (.inr (by rw [(tick_all3 lz.ok c3 u3).pf]; exact v))
            · exact .inr (.inl u)
          · by_cases c4 : (X j).st = 4
            · rcases z4 hy c4 with u | u
              · exact .inl u
              · exact .inr (.inl u)
            · have hst := lz.ok.st
              have hnz := lz.nz
              have := (lz.ok.opening (by omega)).2.2.2.2
              rw [v] at this
              cases this
    have all : AllFull (Qn ++ tkQ (T + 1) Of) g' (tickF (X i)).1 := by
      refine ((af.tk tk).kp kg).app ?_
      intro q' hq' to' ha'
      obtain ⟨c, hc, hq'⟩ := mem_tkQ.1 hq'
      obtain ⟨o, ho, rfl⟩ := List.mem_map.1 hq'
      have hoO := (List.mem_filter.1 ho).1
      obtain ⟨k, b, hk, hbl, hbh, s, hs, rfl⟩ := (h.hO c hc).2 o hoO
      have has : AckT s := ha'
      have lk := h.s0.inv.live k b hk hbl
      obtain ⟨_, w2, _, w4⟩ := tick_outs lk.ok s hs has
      have to := to'.kp' kg
      have hm : Mirror g b := ⟨by rw [to.c, hbh], to.d, by rw [← to.dp]; rfl, by rw [← to.sp]; rfl⟩
      have e := ack_of h.s0 hi hl h3 hj hp hk hbl (.inl w2) hm
      subst e
      have eb : b = y := by rw [hj] at hk; cases hk; rfl
      subst eb
      have hpf : (X k).pf = true := by
        rcases nm with v | v | v
        · rw [hbl] at v; cases v
        · omega
        · exact v
      have cn := h.s0.cnI hi hl h3 hj hp
      have oo := h.s0.ooJ hi hj hp hbl (.inl w2)
      obtain ⟨n1, n2⟩ := full_num cn oo hpf hfa
      refine ⟨tk.fs n1, ?_⟩
      show s.1.ak = _
      rw [w4, n2]
      unfold endN
      rw [tk.una, tk.D]
    refine .inr (.inr (.inr (.inr (.inr (.inr ⟨nm', fun q hq => (by cases hq), .inr ⟨all, ?_⟩⟩)))))
    have pw := pow_rt hrt
    rcases w with w | ⟨_, w2, w3⟩
    · -- the timer runs, and not for long
      have hx' : (tickF (X i)).1.tm ≤ 16 ∧ 0 ≤ (tickF (X i)).1.rt ∧ (tickF (X i)).1.rt ≤ 3 := by
        have := (tickF_ok ok)
        exact ⟨this.tm.2, this.rt⟩
      have pw' := pow_rt hx'.2
      have pos : 0 < (tickF (X i)).1.tm := by
        by_cases c0 : (X i).tm = 0
        · rcases (tick_zero ok h3 c0).2.2 with v | ⟨v, _⟩
          · exact absurd v hr0
          · exact v
        · by_cases c1 : (X i).tm = 1
          · rcases tick_one ok h3 c1 with ⟨v, _⟩ | ⟨_, _, v, _, v2, _⟩
            · omega
            · rw [v2]
              have : (0 : Int) < 2 ^ ((X i).rt + 1).toNat := Int.pow_pos (by decide)
              omega
          · have := (tick_gt ok h3 (by omega)).2.2.1
            omega
      refine ⟨pos, ?_⟩
      unfold life
      omega
    · by_cases c1 : (X i).tm = 1
      · rcases tick_one ok h3 c1 with ⟨v, _⟩ | ⟨_, _, v, v1, v2, _⟩
        · omega
        · have e2 : (2 : Int) ^ ((X i).rt + 1).toNat = 2 * 2 ^ (X i).rt.toNat := pow_succ_rt hrt.1
          unfold life at w3 ⊢
          rw [v1, v2, e2]
          omega
      · obtain ⟨_, _, v, v1⟩ := tick_gt ok h3 (by omega)
        unfold life at w3 ⊢
        rw [v, v1]
        omega
end
end Go.Proofs.Qxb6500424aGreat
