/-
  host: the work: a round's tick; the settle's end.
-/
import Derived.Test.Qxb6500424aGreatHsO
import Derived.Test.Qxb6500424aGreatHrC
set_option linter.unusedVariables false
set_option linter.unusedSimpArgs false
namespace Go.Proofs.Qxb6500424aGreat
/-- The wire behind a tick at which nothing was spilt. -/
def tickWr (H : Nat → HS) (W : List FL) : List FL := W.map ageF ++ ((tickH (H 0)).2.map flF ++ ((tickH (H 1)).2.map flF ++ (tickH (H 2)).2.map flF))
section
variable {T T0 : Int} {H : Nat → HS} {W W1 : List FL} {G G' : List GE} {X X' : Nat → CS} {Lg Lg' : List LE} {M M' : Nat → List DG} {c d n i p cm r : Nat} {s : Int} {Qo Qn : List Gq}
theorem Neat.none (h : Neat s T H W M Qo Qn p) (pw : PW T H W G X Lg M) (h0 : ((Qo.flatMap (frsQ T)).drop p).length = 0) : Qo = [] ∧ p = 0 := by
  have e : Qo = [] := by
    cases Qo with
    | nil => rfl
    | cons q0 Q =>
      have hp := h.p01 pw
      rw [List.length_drop, List.flatMap_cons, List.length_append, frsQ_len] at h0
      omega
  refine ⟨e, ?_⟩
  rcases h.tab.ok with ⟨z, _⟩ | ⟨_, q0, Q', e2, _⟩
  · exact z
  · rw [e] at e2; cases e2
theorem InR.tick (h : InR T0 T cm r 0 H W G X M) (pw : PW T H W G X Lg M) (hb : Bth T0 G') (pw' : PW (T + 1) (tickHS H) W1 G' X' Lg' M') (tr : TrAll (T + 1) G X G' X') (sr : SameSR G G') (hlen : G'.length = G.length) (cal : Calm G' X X') (tx : TickX (T + 1) H G X G' X' M M')
    (hl : ∀ c, c < 3 → (tickH (H c)).1.lost = (H c).lost) : InR T0 (T + 1) (cm + 1) (r + 1) (tickWr H W).length (tickHS H) (tickWr H W) G' X' M' := by
  have tm := h.tm
  refine ⟨by push_cast; omega, fun q => by omega, fun _ => ?_⟩
  -- what was sent
  have hE : ∀ c, c < 3 → M' c = M c ++ (((tickT (sdsE (H c).t.K.E) (H c).t).2.filter (encB c)).map (dgO (T + 1))) ∧ (tickH (H c)).2 = fsOf c (M c).length (((tickT (sdsE (H c).t.K.E) (H c).t).2.filter (encB c)).map (dgO (T + 1))) := fun c hc => by
    obtain ⟨E, e1, e2, e3⟩ := tx.hs c hc
    rw [← e3 (hl c hc)]
    exact ⟨e1, e2⟩
  have nt0 : ∃ s0 Qn, (s0 : Int) - 1 ≤ ((4 - (cm + 1) : Nat) : Int) ∧ Neat s0 T H W M [] Qn 0 ∧ (42 ≤ r → 6 ≤ cm → ZAll (66 - (min (r - 42) (cm - 6) : Nat)) [] (Qn.map Gq.fg) G X) := by
    by_cases hc : cm = 0
    · obtain ⟨B, old, Qn, h1, ho⟩ := h.n0 hc
      have eo : old = [] := List.eq_nil_of_length_eq_zero ho
      rw [eo] at h1
      exact ⟨4, Qn, by omega, h1.stop pw, fun _ q => by omega⟩
    · obtain ⟨Qo, Qn, p', h1, hp, hz⟩ := h.n1 (by omega)
      obtain ⟨e1, e2⟩ := h1.none pw hp
      subst e1
      subst e2
      exact ⟨_, Qn, by omega, h1, hz⟩
  obtain ⟨s0, Qn, hs0, nt, hz⟩ := nt0
  have n2 := neat_tick (Ef := fun c => ((tickT (sdsE (H c).t.K.E) (H c).t).2.filter (encB c)).map (dgO (T + 1))) nt pw pw' tx.hA (fun c hc => (hE c hc).1) (fun c hc g hg => by
    obtain ⟨o, _, rfl⟩ := List.mem_map.1 hg
    rfl) hs0
  rw [← (hE 0 (by omega)).2, ← (hE 1 (by omega)).2, ← (hE 2 (by omega)).2] at n2
  refine ⟨_, [], 0, n2, ?_, fun hr h6 => ?_⟩
  · have w := n2.w
    rw [List.flatMap_nil, List.append_nil] at w
    rw [← w]
    rfl
  · rw [List.map_append]
    have et : (tQ M fun c => ((tickT (sdsE (H c).t.K.E) (H c).t).2.filter (encB c)).map (dgO (T + 1))).map Gq.fg = tkQ (T + 1) (fun c => (tickT (sdsE (H c).t.K.E) (H c).t).2) := by
      unfold tQ tkQ
      rw [List.map_append, List.map_append, nwQ_mk, nwQ_mk, nwQ_mk]
    rw [et]
    by_cases hold : 42 ≤ r ∧ 6 ≤ cm
    · have ks : KSt T (fun c => (H c).t) (fun c => (tickHS H c).t) G G' X X' Lg Lg' (fun c => (tickT (sdsE (H c).t.K.E) (H c).t).2) := ⟨pw.sys, pw'.sys, tr, sr, tx.ht, tx.ho⟩
      have := ZAll.tick ks hlen cal (hz hold.1 hold.2)
      have em : (66 - ((min (r + 1 - 42) (cm + 1 - 6) : Nat) : Int)) = 66 - ((min (r - 42) (cm - 6) : Nat) : Int) - 1 := by omega
      rw [em]
      exact this
    · have em : (66 - ((min (r + 1 - 42) (cm + 1 - 6) : Nat) : Int)) = 66 := by omega
      rw [em]
      refine ZAll.start pw'.sys hb (by omega) fun i g hi hgl h3 => ?_
      have h3o := cal i g hi hgl h3
      have hi0 : i < G.length := by rw [← hlen]; exact (List.getElem?_eq_some_iff.1 hi).1
      have hg0 : G[i]? = some G[i] := List.getElem?_eq_getElem hi0
      generalize G[i] = g0 at hg0
      obtain ⟨z, hz', w⟩ := tr i g0 hg0
      rw [hi] at hz'
      cases hz'
      rcases w with ⟨e, rfl⟩ | ⟨hl0, w⟩
      · rw [hgl] at e; cases e
      have eX := tx.ht i g hi hgl
      rw [eX] at h3 ⊢
      exact tick_tm (pw.sys.inv.live i g0 hg0 hl0).ok h3o h3
theorem InR.final (h : InR T0 T cm 120 p H W G X M) (hcm : 90 ≤ cm) : ∃ Qo Qn, ZAll (-12) Qo Qn G X ∧ T = T0 + 120 := by
  obtain ⟨Qo, Qn, p', _, _, hz⟩ := h.n1 (by omega)
  have z := hz (by omega) (by omega)
  have em : (66 - ((min (120 - 42) (cm - 6) : Nat) : Int)) = -12 := by omega
  rw [em] at z
  exact ⟨_, _, z, h.tm⟩
end
/-! ### the settle's end -/
structure SetP (N : List PE) (i : Nat) (E : PE) : Prop where
  op : E.st ≠ 1 ∧ E.st ≠ 2
  pe : E.peer < 0 ∨ ∃ j : Nat, E.peer = (j : Int) ∧ j < N.length
  pr : ∀ (p : Nat) Ep, E.peer = (p : Int) → N[p]? = some Ep → ¬ (E.st = 4 ∧ E.why ≠ 0) → Ep.peer = (i : Int) → ¬ (Ep.st = 4 ∧ Ep.why ≠ 0) →
    ((Ep.S.length : Int) ≤ E.off ∨ (E.R.length : Int) + 16 ≤ E.off) ∧ (Ep.clo = true → E.off = (Ep.S.length : Int) → E.pf = true) ∧ (E.pf = true → Ep.pf = true → E.st = 4)
section
variable {T T0 : Int} {t : Nat → TC} {G G' : List GE} {X X' : Nat → CS} {Lg Lg' : List LE} {N : List PE} {i p : Nat} {E Ep : PE} {g y s : GE} {x z : CS} {Qo Qn : List Fg} {μ : Int}
/-- Nothing is under way any more. -/
theorem Zc.over (h : Zc μ Qo Qn g y x z) (hμ : μ < 0) (ok : CsOk x) : rem x = 0 ∨ (y.pf = false ∧ (y.gone = true ∨ z.st = 4)) ∨ (y.gone = false ∧ z.st = 3 ∧ z.pf = false ∧ z.B.A.length = 16 ∧ y.rc < g.S.length) := by
  by_cases hr : rem x = 0
  · exact .inl hr
  rcases h with h | h | h | ⟨m, h⟩ | ⟨m, h⟩ | ⟨a, b, c, h⟩ | ⟨a, b, h⟩
  · exact .inl h
  · exact .inr (.inl h)
  · exact .inr (.inr h)
  · omega
  · omega
  · have := h.pos hr
    omega
  · exfalso
    rcases h with h | ⟨_, h1, h2⟩
    · omega
    · unfold life at h2
      have hrt := ok.rt
      have : x.rt = 0 ∨ x.rt = 1 ∨ x.rt = 2 ∨ x.rt = 3 := by omega
      have p : (2 : Int) ^ x.rt.toNat ≤ 8 := by rcases this with e | e | e | e <;> rw [e] <;> decide
      omega
/-- An end that has not failed is open, or it has ended well. -/
theorem Done.well (h : Sys T t G X Lg) (d : Done G X i E g) (hi : G[i]? = some g) (hop : g.gone = false → ¬ ((X i).st = 1 ∨ (X i).st = 2)) (hf : ¬ (E.st = 4 ∧ E.why ≠ 0)) : (g.gone = false ∧ (X i).st = 3) ∨ (E.st = 4 ∧ g.fa = true ∧ g.pf = true ∧ E.pf = true ∧ (g.rc : Int) ≤ E.off) := by
  cases gg : g.gone with
  | true =>
    have s4 := d.st4 gg
    have hw : E.why = 0 := Classical.byContradiction fun q => hf ⟨s4, q⟩
    exact .inr ⟨s4, d.ggd gg hw⟩
  | false =>
    have lv := h.inv.live i g hi gg
    obtain ⟨e1, e2⟩ := d.st gg
    have h1 := lv.ok.st
    have h2 := lv.nz
    have h3 := hop gg
    by_cases c4 : (X i).st = 4
    · have hw : (X i).why = 0 := Classical.byContradiction fun q => hf ⟨by rw [e1]; exact c4, by rw [e2]; exact q⟩
      exact .inr ⟨by rw [e1]; exact c4, d.qgd gg c4 hw⟩
    · exact .inl ⟨rfl, by omega⟩
theorem Ends.joined (h : Ends T G) (hi : G[i]? = some g) (hp : G[p]? = some s) (e1 : g.pr = some p) (e2 : s.pr = some i) : Pair i p g s := by
  cases c : g.cl with
  | true =>
    obtain ⟨y, hy, es⟩ := h.est i g hi c p e1
    rw [hp] at hy
    cases hy
    exact .inl ⟨c, es⟩
  | false =>
    obtain ⟨q, gq, hq, kid⟩ := h.kid i g hi c
    have := kid.pr
    rw [e1] at this
    cases this
    rw [hp] at hq
    cases hq
    obtain ⟨y, hy, es⟩ := h.est p s hp kid.cl2 i e2
    rw [hi] at hy
    cases hy
    exact .inr ⟨c, es⟩
theorem Pair.dirs (h : Pair i p g s) : Dir g s ∧ Dir s g := by
  rcases h with ⟨_, es⟩ | ⟨_, es⟩
  · exact ⟨es.d1, es.d2⟩
  · exact ⟨es.d2, es.d1⟩
theorem settled_plain (h : Sys T t G X Lg) (rs : Rest G X N) (hz : ZAll μ Qo Qn G X) (hμ : μ < 0) (hb : Bth T0 G) (hT : T0 + 64 ≤ T) : ∀ (i : Nat) E, N[i]? = some E → SetP N i E := fun i E hE => by
  have hil : i < G.length := by rw [← rs.len]; exact (List.getElem?_eq_some_iff.1 hE).1
  have hi : G[i]? = some G[i] := List.getElem?_eq_getElem hil
  generalize G[i] = g at hi
  have d := rs.end_ i E g hE hi
  have hop : ∀ {k : Nat} {a : GE}, G[k]? = some a → a.gone = false → ¬ ((X k).st = 1 ∨ (X k).st = 2) := fun hk hl => not_opening h hb hT hk hl
  refine ⟨?_, ?_, fun p Ep epr hEp hf emu hfp => ?_⟩
  rotate_left
  · rw [d.pe, rs.len]
    cases e : g.pr with
    | none => exact .inl (by show (-1 : Int) < 0; decide)
    | some j =>
      refine .inr ⟨j, rfl, ?_⟩
      cases c : g.cl with
      | true =>
        obtain ⟨y, hy, _⟩ := h.inv.ends.est i g hi c j e
        exact (List.getElem?_eq_some_iff.1 hy).1
      | false =>
        obtain ⟨q, gq, hq, kid⟩ := h.inv.ends.kid i g hi c
        have := kid.pr
        rw [e] at this
        cases this
        exact (List.getElem?_eq_some_iff.1 hq).1
  rotate_left
  · cases gg : g.gone with
    | true => rw [d.st4 gg]; exact ⟨by decide, by decide⟩
    | false =>
      have := hop hi gg
      rw [(d.st gg).1]
      exact ⟨fun q => this (.inl q), fun q => this (.inr q)⟩
  have hpl : p < G.length := by rw [← rs.len]; exact (List.getElem?_eq_some_iff.1 hEp).1
  have hp : G[p]? = some G[p] := List.getElem?_eq_getElem hpl
  generalize G[p] = s at hp
  have dp := rs.end_ p Ep s hEp hp
  have pI : ∀ {o : Option Nat} {k : Nat}, peerI o = (k : Int) → o = some k := fun {o k} e => by
    cases o with
    | none => have e' : (-1 : Int) = (k : Int) := e; omega
    | some j => have e' : (j : Int) = (k : Int) := e; congr 1; omega
  have pr1 : g.pr = some p := pI (by rw [← d.pe]; exact epr)
  have pr2 : s.pr = some i := pI (by rw [← dp.pe]; exact emu)
  have hpair := h.inv.ends.joined hi hp pr1 pr2
  obtain ⟨dgs, dsg⟩ := hpair.dirs
  have wi := d.well h hi (hop hi) hf
  have wp := dp.well h hp (hop hp) hfp
  -- an open receiver's bytes
  have opn : g.gone = false → (X i).st = 3 → OpenOk g s (X i) ∧ (g.R.length + (X i).B.A.length = g.rc) := fun gg g3 => by
    obtain ⟨j, y, hj, hpr, oo, _⟩ := (h.inv.live i g hi gg).s3 (.inl g3)
    have e := hpr.pr
    rw [pr1] at e
    cases e
    rw [hp] at hj
    cases hj
    refine ⟨oo, ?_⟩
    have hA := congrArg List.length oo.A
    rw [List.length_append, List.length_take] at hA
    have := dsg.rc
    have := dsg.un
    omega
  have opnS : s.gone = false → (X p).st = 3 → OpenOk s g (X p) := fun gg g3 => by
    obtain ⟨j, y, hj, hpr, oo, _⟩ := (h.inv.live p s hp gg).s3 (.inl g3)
    have e := hpr.pr
    rw [pr2] at e
    cases e
    rw [hi] at hj
    cases hj
    exact oo
  have all : g.rc = s.S.length → (s.S.length : Int) ≤ E.off := fun e => by
    rcases wi with ⟨gg, g3⟩ | ⟨_, _, _, _, w⟩
    · have := (opn gg g3).2
      have := d.offA gg
      omega
    · omega
  have seen : g.pf = true → E.pf = true := fun e => by
    rcases wi with ⟨gg, g3⟩ | ⟨_, _, _, w, _⟩
    · exact d.pf1 gg (by rw [(opn gg g3).1.pf]; exact e)
    · exact w
  have first : ((Ep.S.length : Int) ≤ E.off ∨ (E.R.length : Int) + 16 ≤ E.off) ∧ (Ep.clo = true → E.off = (Ep.S.length : Int) → E.pf = true) := by
    rw [dp.S, d.R]
    rcases wp with ⟨sg, s3⟩ | ⟨_, sfa, _⟩
    · have ls := h.inv.live p s hp sg
      have oos := opnS sg s3
      rcases (hz p i s g hp sg s3 hi hpair.symm).over hμ ls.ok with z | ⟨z, z2⟩ | ⟨z1, z2, z3, z4, z5⟩
      · have hD : (X p).S.D = [] ∧ ((X p).wc = true → (X p).fa = true) := by
          unfold rem at z
          refine ⟨List.eq_nil_of_length_eq_zero (by omega), fun q => ?_⟩
          cases e : (X p).fa with
          | true => rfl
          | false => rw [if_pos ⟨q, e⟩] at z; omega
        have hlen := congrArg List.length hD.1
        rw [oos.D, List.length_drop] at hlen
        have hrc : g.rc = s.S.length := by
          have := dsg.rc
          have := dsg.un
          simp at hlen
          omega
        refine ⟨.inl (all hrc), fun q _ => ?_⟩
        rcases dp.clo2 q sg with w | w
        · have fa := hD.2 (by rw [oos.wc]; exact w)
          exact seen (dsg.fa (by rw [← oos.fa]; exact fa)).2.2
        · omega
      · exfalso
        rcases wi with ⟨gg, g3⟩ | ⟨_, _, w, _⟩
        · rcases z2 with z2 | z2
          · rw [gg] at z2; cases z2
          · omega
        · rw [z] at w; cases w
      · have o := opn z1 z2
        refine ⟨.inr ?_, fun _ q => ?_⟩
        · have := d.offA z1
          omega
        · have := (d.pf2 z1 z2).2
          omega
    · obtain ⟨f1, f2, f3⟩ := dsg.fa sfa
      have hrc := (dsg.pf f3).2
      exact ⟨.inl (all hrc), fun _ _ => seen f3⟩
  refine ⟨first.1, first.2, fun q1 q2 => ?_⟩
  rcases wi with ⟨gg, g3⟩ | ⟨w, _⟩
  · exfalso
    have li := h.inv.live i g hi gg
    have oo := (opn gg g3).1
    have xpf := (d.pf2 gg g3).1 q1
    have spf : s.pf = true := by
      rcases wp with ⟨sg, s3⟩ | ⟨_, _, w, _⟩
      · rw [← (opnS sg s3).pf]
        exact (dp.pf2 sg s3).1 q2
      · exact w
    rcases (hz i p g s hi gg g3 hp hpair).over hμ li.ok with z | ⟨z, _⟩ | ⟨z1, z2, z3, _⟩
    · have xfs : (X i).fs = true := by rw [oo.fs]; exact (dgs.pf spf).1
      have xwc := (li.ok.openn g3).2.1 xfs
      have xfa : (X i).fa = true := by
        cases e : (X i).fa with
        | true => rfl
        | false =>
          unfold rem at z
          rw [if_pos ⟨xwc, e⟩] at z
          omega
      exact li.ok.nofp g3 ⟨xfa, xpf⟩
    · rw [spf] at z; cases z
    · have := (opnS z1 z2).pf
      rw [z3, spf] at this
      cases this
  · exact w
end
end Go.Proofs.Qxb6500424aGreat
