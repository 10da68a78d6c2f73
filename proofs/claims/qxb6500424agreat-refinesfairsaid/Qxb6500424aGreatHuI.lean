/-
  host: fair weather: a tick.
-/
import Derived.Test.Qxb6500424aGreatHuH
set_option linter.unusedVariables false
set_option linter.unusedSimpArgs false
namespace Go.Proofs.Qxb6500424aGreat
structure TkF (b T : Int) (t t' : Nat → TC) (Fs : List FL) (G G' : List GE) (X X' : Nat → CS) (M M' : Nat → List DG) (Lg Lg' : List LE) : Prop where
  s0 : Sys T t G X Lg
  s1 : Sys (T + 1) t' G' X' Lg'
  tr : TrAll (T + 1) G X G' X'
  len : G'.length = G.length
  cal : Calm G' X X'
  ht : ∀ (i : Nat) g, G'[i]? = some g → g.gone = false → X' i = (tickF (X i)).1
  mx : MExt M M'
  mo : ∀ c', c' < 3 → ∀ q ∈ M' c', q ∈ M c' ∨ ∃ (k : Nat) (g : GE) (s : SegV), G[k]? = some g ∧ g.gone = false ∧ s ∈ (tickF (X k)).2 ∧ q = dgO (T + 1) (stampG g s)
  nfs : ∀ x ∈ Fs, x.fl = false ∧ x.age = 0 ∧ ∃ (c n i k : Nat) (g : GE) (s : SegV), G[k]? = some g ∧ g.gone = false ∧ s ∈ (tickF (X k)).2 ∧ FrOk (T + 1) M' x c n i (dgO (T + 1) (stampG g s))
  fly : b + 4 ≤ T + 1 → ∀ (k : Nat) (g : GE) (s : SegV), G[k]? = some g → g.gone = false → s ∈ (tickF (X k)).2 → Rng s → ∃ f ∈ Fs, ∃ n i, FrOk (T + 1) M' f g.h n i (dgO (T + 1) (stampG g s)) ∧ i + 1 = Ip.cntF ((dgO (T + 1) (stampG g s)).D g.h).length
section
variable {x x' y z : CS} {s s' : SegV}
theorem tick_nosyn (h1 : x.st ≠ 1) : ∀ s ∈ (tickF x).2, s.1.fl ≠ 1 := by
  have pf : ∀ z : CS, ∀ s ∈ (pumpF z).2, s.1.fl ≠ 1 := fun z s hs => by
    unfold pumpF at hs
    split at hs
    · rcases List.mem_append.1 hs with q | q
      · unfold pump1 at q
        split at q
        · rw [List.mem_singleton.1 q]; show (2 : Int) ≠ 1; decide
        · cases q
      · unfold pump2 at q
        split at q
        · rw [List.mem_singleton.1 q]; show (6 : Int) ≠ 1; decide
        · cases q
    · cases hs
  intro s hs
  unfold tickF at hs
  split at hs
  · cases hs
  split at hs
  · cases hs
  split at hs
  · split at hs
    · split at hs
      · cases hs
      · rcases List.mem_cons.1 hs with q | q
        · rw [q]
          unfold againF
          split
          · rename_i w
            exfalso
            unfold armF at w
            split at w <;> exact h1 w
          split
          · show (3 : Int) ≠ 1; decide
          split
          · show (2 : Int) ≠ 1; decide
          · show (6 : Int) ≠ 1; decide
        · exact pf _ s q
    · exact pf _ s hs
  · exact pf _ s hs
theorem tick_st3 (h : CsOk x) (h3 : x.st = 3) : (tickF x).1.st = 3 ∨ (tickF x).1.why ≠ 0 := by
  have ht := h.tm
  by_cases c0 : x.tm = 0
  · exact .inl (tick_zero h h3 c0).1
  by_cases c1 : x.tm = 1
  · rcases tick_one h h3 c1 with w | w
    · exact .inr w.2
    · exact .inl w.1
  · exact .inl (tick_gt h h3 (by omega)).1
theorem tick_4 (h4 : x.st = 4) (h' : (tickF x).1.st = 4) : (tickF x).1 = { x with qt := dec1 x.qt } := by
  unfold tickF at h' ⊢
  rw [if_neg (by omega), if_pos h4] at h' ⊢
  split
  · rename_i q
    rw [if_pos q] at h'
    exact absurd h' (by show ¬ (0 : Int) = 4; decide)
  · rfl
theorem tick_pfm (h : CsOk x) (hw : (tickF x).1.why = 0) (hp : (tickF x).1.pf = true) : x.pf = true := by
  have hst := h.st
  by_cases c0 : x.st = 0
  · have e : tickF x = (x, []) := by unfold tickF; rw [if_pos c0]
    rw [e] at hp
    exact hp
  by_cases c4 : x.st = 4
  · unfold tickF at hp
    rw [if_neg c0, if_pos c4] at hp
    by_cases cq : dec1 x.qt = 0 ∧ x.B.A.length = 0
    · rw [if_pos cq] at hp
      have hp' : C0.pf = true := hp
      cases hp'
    · rw [if_neg cq] at hp
      exact hp
  by_cases c3 : x.st = 3
  · rcases tick_st3 h c3 with w | w
    · rw [tick_pf h c3 w] at hp; exact hp
    · exact absurd hw w
  · -- opening
    have pp : ∀ z : CS, (pumpF z).1.pf = z.pf := fun z => (pump_B z).2.1
    unfold tickF at hp hw
    rw [if_neg c0, if_neg c4] at hp hw
    split at hp
    · rename_i q
      rw [if_pos q] at hw
      split at hp
      · rename_i q2
        rw [if_pos q2] at hw
        split at hp
        · have hp' : (failF 19).pf = true := hp
          cases hp'
        · have hp' : (pumpF (armF { x with cr := 12, tm := x.tm - 1, rt := x.rt + 1 })).1.pf = true := hp
          rw [pp] at hp'
          unfold armF at hp'
          split at hp' <;> exact hp'
      · rw [pp] at hp; exact hp
    · rw [pp] at hp; exact hp
end
section
variable {b T T0 T1 : Int} {t t' : Nat → TC} {H : Nat → HS} {Wo Wo1 Wn Fs W : List FL} {G G' : List GE} {X X' : Nat → CS} {M M' : Nat → List DG} {Lg Lg' : List LE} {i j k l c n d m kk : Nat} {g y g' y' gm gm' : GE} {x x' z z' : CS} {f : FL} {q : DG} {O : List OutS}
theorem Sn.nil {q : Fg} (h : Sn T M [] q) : False := by obtain ⟨f, hf, _⟩ := h; cases hf
theorem HS1.nil (h : HS1 T M [] g x) : False := by obtain ⟨q, hq, _⟩ := h; exact hq.nil
theorem HF.nil (h : HF T M [] g x) : False := by obtain ⟨_, q, hq, _⟩ := h; exact hq.nil
theorem HasFlyF.nil (h : HasFlyF T M [] y x) : False := by obtain ⟨q, hq, _⟩ := h; cases hq
/-- Nobody's last retry is spent. -/
theorem FW.rt3 (h : FW b T t [] Wn G X M i) (sys : Sys T t G X Lg) (hk : G[k]? = some g) (hl : g.gone = false) : (X k).rt ≠ 3 := fun e => by
  have lv := sys.liv hk hl
  have hst := lv.ok.st
  have hnz := lv.nz
  by_cases c3 : (X k).st = 3
  · obtain ⟨j, y, hj, hp, _⟩ := sys.inv.cn hk hl c3
    rcases (h.prs k j g y hk hl c3 hj hp).2.1 with w | ⟨w, _⟩ | ⟨w, _⟩ <;> omega
  by_cases c4 : (X k).st = 4
  · have := (lv.ok.good c4 (h.wy k g hk hl)).2.2.2.2.2.2.1
    omega
  rcases h.os with ⟨_, z⟩ | ⟨g0, f0, n0, q0, d0, p⟩ | ⟨_, j, g0, y, tw, s1, s2, r1, r2, w⟩ | ⟨_, j, g0, y, tw, _, s1, s2, tm, w⟩
  · have := z k g hk hl; omega
  · have := p.wo; cases this
  · rcases tw.all h.cur sys hk hl with e1 | e1 <;> subst e1 <;> omega
  · rcases tw.all h.cur sys hk hl with e1 | e1
    · subst e1; omega
    · subst e1; rcases w with w | w <;> omega
theorem FW.tick (h : FW b T t [] Wn G X M i) (tk : TkF b T t t' Fs G G' X X' M M' Lg Lg') : FW b (T + 1) t' (Wn.map ageF ++ Fs) [] G' X' M' i := by
  have sys := tk.s0
  have sys' := tk.s1
  have ag0 : ∀ f ∈ Wn, f.age = 0 := fun f hf => (h.ag.n f hf).2
  have old : ∀ {k : Nat} {g' : GE}, G'[k]? = some g' → g'.gone = false → ∃ g, G[k]? = some g ∧ g.gone = false ∧ Tr (T + 1) G k g g' (X k) (X' k) := fun h1 h2 => tk.tr.alive tk.len h1 h2
  have wy' : Wy G' X' := fun k g' hk' hl' => by
    obtain ⟨g, hk, hl, _⟩ := old hk' hl'
    rw [tk.ht k g' hk' hl']
    exact tick_why (sys.liv hk hl).ok (h.rt3 sys hk hl) (h.wy k g hk hl)
  have alv : ∀ {k : Nat} {a a' : GE}, G[k]? = some a → a.gone = false → (X k).st ≠ 4 → G'[k]? = some a' → a'.gone = false := fun {k a a'} h1 h2 h3 h4 => by
    cases e : a'.gone with
    | false => rfl
    | true => exact absurd ((tk.tr.at h1 h4 h2).go e).1 h3
  have snn : ∀ {q : Fg}, Sn T M Wn q → Sn (T + 1) M' (Wn.map ageF ++ Fs) q := fun hq => ((hq.tick ag0).ext tk.mx).app
  have nsW : NoSyn T M ([] ++ Wn) → (∀ (k : Nat) (g : GE) (s : SegV), G[k]? = some g → g.gone = false → s ∈ (tickF (X k)).2 → s.1.fl ≠ 1) → NoSyn (T + 1) M' ((Wn.map ageF ++ Fs) ++ []) := fun hn ho f hf => by
    rw [List.append_nil] at hf
    rcases List.mem_append.1 hf with w | w
    · obtain ⟨f0, hf0, rfl⟩ := List.mem_map.1 w
      obtain ⟨c, n, i, g, fo, e⟩ := hn f0 hf0
      exact ⟨c, n, i, g, (fo.tick (by have := ag0 f0 hf0; omega)).ext tk.mx, e⟩
    · obtain ⟨_, _, c, n, i, k, g, s, hk, hl, hs, fo⟩ := tk.nfs f w
      exact ⟨c, n, i, _, fo, ho k g s hk hl hs⟩
  refine ⟨by have := h.b0; omega, ⟨fun f hf => ?_, fun f hf => (by cases hf)⟩, fun c' hc' q hq => ?_, wy', h.cur.step sys tk.tr tk.len, ?_, ?_, ?_⟩
  · rcases List.mem_append.1 hf with w | w
    · obtain ⟨f0, hf0, rfl⟩ := List.mem_map.1 w
      obtain ⟨a, e⟩ := h.ag.n f0 hf0
      refine ⟨a, ?_⟩
      unfold ageF
      show (if f0.age ≤ 4 then f0.age + 1 else f0.age) ≤ 1
      rw [if_pos (by omega)]
      omega
    · obtain ⟨a, e, _⟩ := tk.nfs f w
      exact ⟨a, by omega⟩
  · rcases tk.mo c' hc' q hq with w | ⟨k, g, s, hk, hl, hs, rfl⟩
    · exact h.rs c' hc' q w
    · exact tick_fl (sys.liv hk hl).ok s hs
  · -- openings
    rcases h.os with ⟨z0, z⟩ | ⟨g0, f0, n0, q0, d0, p⟩ | ⟨z0, j, g, y, tw, s1, s2, r1, r2, w⟩ | ⟨z0, j, g, y, tw, pr, s1, s2, tm, w⟩
    · refine .inl ⟨nsW z0 fun k g s hk hl hs => tick_nosyn (z k g hk hl).1 s hs, fun k g' hk' hl' => ?_⟩
      obtain ⟨g, hk, hl, t1⟩ := old hk' hl'
      have a := z k g hk hl
      rcases (t1.may hl').1 with e | ⟨e, _⟩ | ⟨_, e⟩
      · rw [e]; exact a
      · omega
      · omega
    · have := p.wo; cases this
    · have w2 : SA T M Wn g ∧ 2 ≤ (X i).tm ∧ 2 ≤ (X j).tm := w.resolve_left fun v => by obtain ⟨⟨q, hq, _⟩, _⟩ := v; exact hq.nil
      obtain ⟨⟨q, hq, to, fl⟩, t1, t2⟩ := w2
      have ti := tick_12 (sys.liv tw.hi tw.gi).ok (.inl s1) (by omega)
      have tj := tick_12 (sys.liv tw.hj tw.gj).ok (.inr s2) (by omega)
      obtain ⟨g', hg', w1⟩ := tk.tr i g tw.hi
      obtain ⟨y', hy', v1⟩ := tk.tr j y tw.hj
      have gl := alv tw.hi tw.gi (by omega) hg'
      have yl := alv tw.hj tw.gj (by omega) hy'
      have wt := tk.tr.at tw.hi hg' tw.gi
      have vt := tk.tr.at tw.hj hy' tw.gj
      have ei := tk.ht i g' hg' gl
      have ej := tk.ht j y' hy' yl
      rw [ti] at ei
      rw [tj] at ej
      have pr' : y'.pr = some i := by
        rcases vt.how with ⟨e, _⟩ | ⟨e, _⟩ | ⟨_, e, _⟩
        · rw [e]; exact tw.pr
        · omega
        · rw [e]; exact tw.pr
      refine .inr (.inr (.inl ⟨nsW z0 fun k a s hk hl hs => ?_, j, g', y', ⟨hg', hy', gl, yl, by rw [wt.kp.cl]; exact tw.ci, by rw [vt.kp.cl]; exact tw.cj, pr'⟩, by rw [ei]; exact s1, by rw [ej]; exact s2, by rw [ei]; exact r1, by rw [ej]; exact r2, .inl ⟨⟨q, snn hq, to.kp wt.kp, fl⟩, ?_, ?_⟩⟩))
      · exfalso
        rcases tw.all h.cur sys hk hl with e | e
        · subst e; rw [ti] at hs; cases hs
        · subst e; rw [tj] at hs; cases hs
      · rw [ei]; show 1 ≤ (X i).tm - 1; omega
      · rw [ej]; show 1 ≤ (X j).tm - 1; omega
    · have w2 : AK T M Wn y ∧ (X j).rt = 0 := w.resolve_left fun v => by obtain ⟨⟨q, hq, _⟩, _⟩ := v; exact hq.nil
      obtain ⟨⟨q, hq, to, ak⟩, r0⟩ := w2
      obtain ⟨g', hg', _⟩ := tk.tr i g tw.hi
      obtain ⟨y', hy', _⟩ := tk.tr j y tw.hj
      have gl := alv tw.hi tw.gi (by omega) hg'
      have yl := alv tw.hj tw.gj (by omega) hy'
      have wt := tk.tr.at tw.hi hg' tw.gi
      have vt := tk.tr.at tw.hj hy' tw.gj
      have ei := tk.ht i g' hg' gl
      have ej := tk.ht j y' hy' yl
      have pr' : y'.pr = some i := by
        rcases vt.how with ⟨e, _⟩ | ⟨e, _⟩ | ⟨_, e, _⟩
        · rw [e]; exact tw.pr
        · omega
        · rw [e]; exact tw.pr
      have pri : g'.pr = some j := by
        rcases wt.how with ⟨e, _⟩ | ⟨e, _⟩ | ⟨e, _⟩
        · rw [e]; exact pr
        · omega
        · omega
      have x3 : (X' i).st = 3 := by
        have hw := wy' i g' hg' gl
        rw [ei] at hw ⊢
        rcases tick_st3 (sys.liv tw.hi tw.gi).ok s1 with e | e
        · exact e
        · exact absurd hw e
      have okj := (sys.liv tw.hj tw.gj).ok
      have yj : (X' j).st = 2 ∧ 1 ≤ (X' j).tm ∧ (X' j).rt ≤ 1 := by
        rw [ej]
        by_cases c1 : (X j).tm = 1
        · obtain ⟨a1, a2, a3, _⟩ := tick_2f okj s2 c1 r0
          exact ⟨a1, by omega, by omega⟩
        · rw [tick_12 okj (.inr s2) (by omega)]
          exact ⟨s2, by show 1 ≤ (X j).tm - 1; omega, by show (X j).rt ≤ 1; omega⟩
      refine .inr (.inr (.inr ⟨nsW z0 fun k a s hk hl hs => ?_, j, g', y', ⟨hg', hy', gl, yl, by rw [wt.kp.cl]; exact tw.ci, by rw [vt.kp.cl]; exact tw.cj, pr'⟩, pri, x3, yj.1, yj.2.1, .inl ⟨⟨q, snn hq, to.kp vt.kp, ak⟩, yj.2.2⟩⟩))
      rcases tw.all h.cur sys hk hl with e | e
      · subst e; exact tick_nosyn (by omega) s hs
      · subst e; exact tick_nosyn (by omega) s hs
  · -- open ends
    intro k l g' y' hk' hl' h3' hj' hp'
    obtain ⟨g, hk, hl, t1⟩ := old hk' hl'
    have h3 := tk.cal k g' hk' hl' h3'
    have hll : l < G.length := by rw [← tk.len]; exact (List.getElem?_eq_some_iff.1 hj').1
    have hj : G[l]? = some G[l] := List.getElem?_eq_getElem hll
    generalize G[l] = y at hj
    have epr : g'.pr = g.pr := by
      rcases t1.how with ⟨e, _⟩ | ⟨e, _⟩ | ⟨e, _⟩
      · exact e
      · omega
      · omega
    obtain ⟨j0, y0, hj0, hp0, _⟩ := sys.inv.cn hk hl h3
    have e0 : j0 = l := by
      have a := hp0.pr
      have b := hp'.pr
      rw [epr, a] at b
      cases b
      rfl
    subst e0
    rw [hj] at hj0
    cases hj0
    obtain ⟨yl, rp, fn⟩ := h.prs k j0 g y hk hl h3 hj hp0
    have tyj := tk.tr.at hj hj' yl
    have qt10 : (X j0).st = 4 → (X j0).qt = 10 := fun h4 => by
      obtain ⟨_, zpf, xfa, _⟩ := open_qt sys h.wy h.prs hk hl h3 hj hp0 h4
      rcases fn zpf xfa with ⟨v, _⟩ | ⟨_, v⟩
      · exact absurd v.nil id
      · exact v h4
    have yl' : y'.gone = false := by
      cases e : y'.gone with
      | false => rfl
      | true =>
        obtain ⟨a1, _, a3⟩ := tyj.go e
        have := qt10 a1
        omega
    have ex := tk.ht k g' hk' hl'
    have ez := tk.ht j0 y' hj' yl'
    have ok := (sys.liv hk hl).ok
    rw [ex] at h3' ⊢
    rw [ez]
    have ts := tick_all3 ok h3 h3'
    have hs1 : HS1 T M Wn g (X k) → HS1 (T + 1) M' (Wn.map ageF ++ Fs) g' (tickF (X k)).1 := fun r => by
      obtain ⟨q, a, to, ak, e1, e2⟩ := r
      have ed : ackD q.2.s.1.ak (tickF (X k)).1 = ackD q.2.s.1.ak (X k) := by unfold ackD sndUna; rw [ts.una, ts.fa]
      have := fly_mono h3 h3' ts.sent ts.fs ts.fa
      exact ⟨q, snn a, to.kp t1.kp, ak, by rw [ed]; exact e1, by rw [ed]; omega⟩
    have flyq : b + 4 ≤ T + 1 → (∃ s ∈ (tickF (X k)).2, Fly (tickF (X k)).1 s) → HasFlyF (T + 1) M' (Wn.map ageF ++ Fs) y' (tickF (X k)).1 := fun hb hf => by
      obtain ⟨s, hs, fl⟩ := hf
      have ak : AckT s := by rcases fl.2 with v | v; exact .inl v.1; exact .inr v.1
      have rg := (tick_outs ok s hs ak).1
      obtain ⟨f, hfF, n1, i1, fo1, e1⟩ := tk.fly hb k g s hk hl hs rg
      exact ⟨f, List.mem_append.2 (.inr hfF), g.h, n1, i1, _, fo1, e1, (To.mir hp0.mir (T + 1) s).kp tyj.kp, fl⟩
    refine ⟨yl', ?_, ?_⟩
    · -- retries
      have htm := ok.tm
      have fire : (X k).tm = 1 → (X k).rt < 3 ∧ (tickF (X k)).1.rt = (X k).rt + 1 ∧ (tickF (X k)).1.tm = 2 * 2 ^ ((X k).rt + 1).toNat ∧ ∃ s ∈ (tickF (X k)).2, Fly (tickF (X k)).1 s := fun e => by
        rcases tick_one ok h3 e with ⟨v, _⟩ | ⟨_, _, a, b, c, d⟩
        · omega
        · exact ⟨a, b, c, d⟩
      rcases rp with r | ⟨r, v⟩ | ⟨r, hb, v⟩
      · -- none so far
        by_cases c0 : (X k).tm = 0
        · exact .inl (by rw [tick_rt0 h3 c0]; exact r)
        by_cases c1 : (X k).tm = 1
        · obtain ⟨_, a2, a3, a4⟩ := fire c1
          rw [r] at a2 a3
          have a3' : (tickF (X k)).1.tm = 4 := by rw [a3]; decide
          refine .inr (.inl ⟨by rw [a2]; decide, ?_⟩)
          by_cases hb : b + 4 ≤ T + 1
          · exact .inr (.inr (.inl ⟨a3', hb, flyq hb a4⟩))
          · have := h.b0
            exact .inr (.inr (.inr ⟨by omega, by omega, by omega⟩))
        · obtain ⟨_, _, _, a4⟩ := tick_gt ok h3 (by omega)
          exact .inl (by rw [a4]; exact r)
      · rcases v with v | ⟨v1, v⟩ | ⟨_, _, v⟩ | ⟨v1, v2, v3⟩
        · exact absurd v.nil id
        · obtain ⟨_, _, a3, a4⟩ := tick_gt ok h3 (by omega)
          exact .inr (.inl ⟨by rw [a4]; exact r, .inl (hs1 v)⟩)
        · exact absurd v.nil id
        · by_cases c1 : (X k).tm = 1
          · obtain ⟨_, a2, a3, a4⟩ := fire c1
            rw [r] at a2 a3
            have a3' : (tickF (X k)).1.tm = 8 := by rw [a3]; decide
            exact .inr (.inr ⟨by rw [a2]; decide, by omega, .inr (.inr ⟨a3', flyq (by omega) a4, by omega⟩)⟩)
          · obtain ⟨_, _, a3, a4⟩ := tick_gt ok h3 (by omega)
            exact .inr (.inl ⟨by rw [a4]; exact r, .inr (.inr (.inr ⟨by omega, by omega, by omega⟩))⟩)
      · rcases v with ⟨v, _⟩ | ⟨v1, v, v2⟩ | ⟨_, v, _⟩
        · exact absurd v.nil id
        · obtain ⟨_, _, a3, a4⟩ := tick_gt ok h3 (by omega)
          exact .inr (.inr ⟨by rw [a4]; exact r, by omega, .inl ⟨hs1 v, by omega⟩⟩)
        · exact absurd v.nil id
    · -- the full acknowledgement
      intro zp xf
      have hwz := wy' j0 y' hj' yl'
      rw [ez] at hwz
      have okz := (sys.liv hj yl).ok
      have zp0 := tick_pfm okz hwz zp
      rcases fn zp0 (by rw [← ts.fa]; exact xf) with ⟨v, _⟩ | ⟨⟨fs, q, a, to, ak, en⟩, v⟩
      · exact absurd v.nil id
      · refine .inl ⟨⟨ts.fs fs, q, snn a, to.kp t1.kp, ak, ?_⟩, fun h4 => ?_⟩
        · rw [en]
          unfold endN
          rw [ts.una, ts.D]
        · by_cases c4 : (X j0).st = 4
          · rw [tick_4 c4 h4]
            show 9 ≤ dec1 (X j0).qt
            rw [v c4]
            decide
          · exfalso
            have lz := sys.liv hj yl
            have hst := okz.st
            have hnz := lz.nz
            have mz := (tyj.may yl').1
            rw [ez] at mz
            by_cases c3 : (X j0).st = 3
            · rcases tick_st3 okz c3 with w | w
              · omega
              · exact w hwz
            · have hz : (X j0).pf = false := (okz.opening (by omega)).2.2.2.2
              rw [zp0] at hz
              cases hz
  · -- quiet ends
    intro k l g' y' hk' hl' h4' hj' hp'
    obtain ⟨g, hk, hl, t1⟩ := old hk' hl'
    have ex := tk.ht k g' hk' hl'
    have hw' := wy' k g' hk' hl'
    have lv := sys.liv hk hl
    have ok := lv.ok
    have hll : l < G.length := by rw [← tk.len]; exact (List.getElem?_eq_some_iff.1 hj').1
    have hj : G[l]? = some G[l] := List.getElem?_eq_getElem hll
    generalize G[l] = y at hj
    have h4of : ∀ {m : Nat} {a a' : GE}, G[m]? = some a → a.gone = false → G'[m]? = some a' → a'.gone = false → (X' m).st = 4 → (X m).st = 4 := fun {m a a'} hm hal hm' hal' m4 => by
      have lm := sys.liv hm hal
      have hwm := wy' m a' hm' hal'
      have em := tk.ht m a' hm' hal'
      rcases ((tk.tr.at hm hm' hal).may hal').1 with e | ⟨e, _⟩ | ⟨e, _⟩
      · rw [← e]; exact m4
      · exfalso
        have lm' := sys'.liv hm' hal'
        obtain ⟨_, _, _, hp2, oo, o, ho⟩ := lm'.s3 (.inr ⟨m4, hwm⟩)
        have wc := (lm'.ok.good m4 hwm).1
        have how := (tk.tr.at hm hm' hal).how
        have ot := (lm.op e).2.2.1
        rcases how with ⟨_, e2, _⟩ | ⟨_, e2, _⟩ | ⟨_, _, _, e2⟩
        · rw [e2, ot] at ho; cases ho
        · omega
        · omega
      · exfalso
        rw [em] at m4 hwm
        rcases tick_st3 lm.ok e with v | v
        · omega
        · exact v hwm
    have h4 := h4of hk hl hk' hl' h4'
    have epr : g'.pr = g.pr := by
      rcases t1.how with ⟨e, _⟩ | ⟨e, _⟩ | ⟨e, _⟩
      · exact e
      · omega
      · omega
    obtain ⟨j0, y0, hj0, hp0, _⟩ := lv.s3 (.inr ⟨h4, h.wy k g hk hl⟩)
    have e0 : j0 = l := by
      have a := hp0.pr
      have b := hp'.pr
      rw [epr, a] at b
      cases b
      rfl
    subst e0
    rw [hj] at hj0
    cases hj0
    obtain ⟨q1, q2⟩ := h.qts k j0 g y hk hl h4 hj hp0
    have hq := ok.qt
    have ek : (X' k).qt = dec1 (X k).qt := by
      rw [ex] at h4' ⊢
      rw [tick_4 h4 h4']
    have hd : dec1 (X k).qt ≤ (X k).qt - 1 ∨ (X k).qt = 0 ∧ dec1 (X k).qt = 0 := by unfold dec1; split <;> omega
    rw [ek]
    cases yg : y.gone with
    | true =>
      have e1 := q1 yg
      refine ⟨fun _ => by omega, fun e => ?_⟩
      exfalso
      obtain ⟨w, hw, v⟩ := tk.tr j0 y hj
      rw [hj'] at hw
      cases hw
      rcases v with ⟨_, rfl⟩ | ⟨v, _⟩
      · rw [yg] at e; cases e
      · rw [yg] at v; cases v
    | false =>
      refine ⟨fun e => ?_, fun e e4 => ?_⟩
      · obtain ⟨a1, _, a3⟩ := (tk.tr.at hj hj' yg).go e
        have := q2 yg a1
        omega
      · have y4 := h4of hj yg hj' e e4
        have := q2 yg y4
        have ey := tk.ht j0 y' hj' e
        rw [ey] at e4 ⊢
        rw [tick_4 y4 e4]
        show dec1 (X k).qt ≤ dec1 (X j0).qt + 1
        unfold dec1
        have := (sys.liv hj yg).ok.qt
        split <;> split <;> omega
end
end Go.Proofs.Qxb6500424aGreat
