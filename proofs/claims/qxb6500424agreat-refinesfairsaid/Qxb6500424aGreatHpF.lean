/-
  host: the plain law of the network: rows that open, fail, wait out their quiet time.
-/
import Derived.Test.Qxb6500424aGreatHpE
set_option linter.unusedVariables false
set_option linter.unusedSimpArgs false
namespace Go.Proofs.Qxb6500424aGreat
section
variable {T dp : Int} {tk tk' : Nat → Bool} {G : List GE} {X : Nat → CS} {Lg N : List LE} {i j : Nat} {g y g' : GE} {x x' : CS} {L : List SegV}
/-- Only the end's own time, its pot and whether it is gone are touched. -/
theorem Inv.keep {p : Int} {e2 : Option Int} {b : Bool} (h : Inv T tk G X Lg) (hi : G[i]? = some g) (hl : g.gone = false) (htk : ∀ k, k ≠ i → tk' k = tk k) (hti : tk' i = true)
    (hp : p ≤ g.pot + 12 * (T - tau T tk i)) (hp2 : (∃ o, g.ot = some o) → p = g.pot) (hp3 : g.ot = none → 0 ≤ p ∧ p ≤ 12) (he : ∀ e, g.et = some e → e2 = some e) (he2 : g.et = none → ∀ e, e2 = some e → e = T) (hb : b = true → ∃ e, e2 = some e ∧ e + 10 ≤ T)
    (hlv : b = false → Live T (G.set i { g with pot := p, et := e2, gone := b }) i { g with pot := p, et := e2, gone := b } x')
    (hN : ∀ e ∈ N, e.t = T ∧ SegInv (tau T tk') (G.set i { g with pot := p, et := e2, gone := b }) e) : Inv T tk' (G.set i { g with pot := p, et := e2, gone := b }) (updX X i x') (Lg ++ N) := by
  have htm := h.ends.time i g hi
  have ti : tau T tk' i = T := by unfold tau; rw [if_pos hti]
  have ev : Evo T (12 * (tau T tk' i - tau T tk i)) g { g with pot := p, et := e2, gone := b } := ⟨rfl, rfl, rfl, rfl, rfl, rfl, rfl, rfl, fun j hj => hj, ⟨[], by simp⟩, Nat.le_refl _, Int.le_refl _, fun q => ⟨q, rfl⟩, he, fun hn e hx => by rw [he2 hn e hx]; omega, fun o ho => ho, fun hn o ho => (by have ho' : g.ot = some o := ho; rw [hn] at ho'; cases ho'), by rw [ti]; exact hp, hl⟩
  refine h.step hi ev rfl htk ⟨htm.bt, htm.iss, fun e hx => ?_, fun o ho => ?_, fun q => hb q⟩ (fun q => ?_) (fun q => by rw [ti]; exact hlv q) (fun k z hz hpz => ?_) (.inl rfl) (fun c o ho => h.ends.ot i g hi c o ho) (fun c hn o ho => ?_) hN
  · have hx' : e2 = some e := hx
    cases hg : g.et with
    | none => have := he2 hg e hx'; have := htm.bt; exact ⟨by show g.bt ≤ e; omega, by omega⟩
    | some e0 =>
      have := he e0 hg
      rw [hx'] at this
      cases this
      exact htm.et e hg
  · have := htm.ot o ho
    exact ⟨this.1, this.2.1, ev.notB this.2.2 this.2.1⟩
  · have q' : g.ot = none := q
    have z := h.zero i g hi q'
    exact ⟨z.S, z.R, z.n, z.f, hp3 q'⟩
  · have dd := hpz.dir
    have hpot : (g.nx : Int) + b2i g.fs ≤ p ∧ p ≤ (g.nx : Int) + b2i g.fs + 12 := by
      cases hg : g.ot with
      | some o => rw [hp2 ⟨o, hg⟩]; exact dd.1.pot
      | none =>
        have z := h.zero i g hi hg
        have := hp3 hg
        rw [z.n.2.1, z.f.1]
        have : b2i false = 0 := rfl
        omega
    exact ⟨⟨dd.1.un, dd.1.fs, dd.1.fa, dd.1.rc, dd.1.pf, hpot⟩, ⟨dd.2.un, dd.2.fs, dd.2.fa, dd.2.rc, dd.2.pf, dd.2.pot⟩⟩
  · have ho' : g.ot = some o := ho
    rw [hn] at ho'
    cases ho'
theorem tau_le1 (T : Int) (tk : Nat → Bool) (i : Nat) : 0 ≤ T - tau T tk i ∧ T - tau T tk i ≤ 1 := by have := tau_ge T tk i; omega
/-- The row fails, or one that ended well is thrown away. -/
theorem Inv.bad {why q : Int} (h : Inv T tk G X Lg) (hi : G[i]? = some g) (hl : g.gone = false) (htk : ∀ k, k ≠ i → tk' k = tk k) (hti : tk' i = true) (hw : why ≠ 0) (hq : 0 ≤ q ∧ q ≤ 10)
    (hqt : (g.et = none ∧ q = 10) ∨ ∃ e, g.et = some e ∧ 10 ≤ q + (T - e)) (hN : ∀ e ∈ N, e.t = T ∧ SegRst e) :
    Inv T tk' (G.set i { g with et := some (g.et.getD T) }) (updX X i { failF why with qt := q }) (Lg ++ N) := by
  have hd := tau_le1 T tk i
  have k := h.keep (p := g.pot) (e2 := some (g.et.getD T)) (b := false) (x' := { failF why with qt := q }) (N := N) hi hl htk hti (by omega) (fun _ => rfl) (fun q => (h.zero i g hi q).pot) (fun e he => by rw [he]; rfl) (fun hn e he => by rw [hn] at he; cases he; rfl) (fun q => by cases q) (fun _ => ?_) (fun e he => ⟨(hN e he).1, .inl (hN e he).2⟩)
  · have eg : ({ g with pot := g.pot, et := some (g.et.getD T), gone := false } : GE) = { g with et := some (g.et.getD T) } := by rw [← hl]
    rw [eg] at k
    exact k
  · refine ⟨failQ_ok hw hq, by show (4 : Int) ≠ 0; decide, fun _ => ⟨g.et.getD T, rfl, ?_⟩, fun c => absurd rfl c, fun c => ?_, fun c => ?_, fun c => ?_, fun c => ?_⟩
    · show 10 ≤ q + (T - g.et.getD T)
      rcases hqt with ⟨e1, e2⟩ | ⟨e, e1, e2⟩
      · rw [e1, e2]; show (10 : Int) ≤ 10 + (T - T); omega
      · rw [e1]; exact e2
    · rcases c with c | c <;> cases c
    · cases c
    · cases c
    · rcases c with c | ⟨_, c⟩
      · cases c
      · exact absurd c hw
/-- A tick of a row in its quiet time. -/
theorem Inv.tickQ (h : Inv T tk G X Lg) (hi : G[i]? = some g) (hl : g.gone = false) (htk : ∀ k, k ≠ i → tk' k = tk k) (hti : tk' i = true) (hto : tk i = false) (h4 : (X i).st = 4) :
    ∃ g2, Inv T tk' (G.set i g2) (updX X i (tickF (X i)).1) Lg ∧ (tickF (X i)).2 = [] ∧ g2 = { g with gone := g2.gone } ∧ (g2.gone = true ↔ (tickF (X i)).1.st = 0) := by
  have lv := h.live i g hi hl
  obtain ⟨e, he, hq⟩ := lv.e4 h4
  have to : tau T tk i = T - 1 := by unfold tau; rw [if_neg (by rw [hto]; decide)]
  rw [to] at hq
  have htick := tickF_ok lv.ok
  have hqb := lv.ok.qt
  unfold tickF at htick ⊢
  rw [if_neg (by omega), if_pos h4] at htick ⊢
  have hd : dec1 (X i).qt + 1 = (X i).qt ∨ (dec1 (X i).qt = 0 ∧ (X i).qt = 0) := by unfold dec1; split <;> omega
  by_cases c : dec1 (X i).qt = 0 ∧ (X i).B.A.length = 0
  · rw [if_pos c] at htick ⊢
    have k := h.keep (p := g.pot) (e2 := g.et) (b := true) (x' := C0) (N := []) hi hl htk hti (by omega) (fun _ => rfl) (fun q => (h.zero i g hi q).pot) (fun e he => he) (fun hn e he' => by rw [hn] at he'; cases he') (fun _ => ⟨e, he, by omega⟩) (fun q => by cases q) (fun e he => by cases he)
    rw [List.append_nil] at k
    exact ⟨_, k, rfl, rfl, by simp [C0]⟩
  · rw [if_neg c] at htick ⊢
    have k := h.keep (p := g.pot) (e2 := g.et) (b := false) (x' := { X i with qt := dec1 (X i).qt }) (N := []) hi hl htk hti (by omega) (fun _ => rfl) (fun q => (h.zero i g hi q).pot) (fun e he => he) (fun hn e he' => by rw [hn] at he'; cases he') (fun q => by cases q) (fun _ => ?_) (fun e he => by cases he)
    · rw [List.append_nil] at k
      exact ⟨_, k, rfl, rfl, ⟨fun q => (by cases q), fun q => (by have q' : (X i).st = 0 := q; omega)⟩⟩
    · have eg : ({ g with pot := g.pot, et := g.et, gone := false } : GE) = g := by rw [← hl]
      rw [eg]
      have egs : G.set i g = G := by
        apply List.ext_getElem?
        intro k
        by_cases q : k = i
        · subst q; rw [set_at hi, hi]
        · rw [set_ne q]
      rw [egs]
      refine ⟨htick, lv.nz, fun _ => ⟨e, he, ?_⟩, lv.ne4, fun q => ?_, fun q => ?_, fun q => ?_, fun q => ?_⟩
      · show 10 ≤ dec1 (X i).qt + (T - e)
        omega
      · have q' : (X i).st = 1 ∨ (X i).st = 2 := q; omega
      · have q' : (X i).st = 1 := q; omega
      · have q' : (X i).st = 2 := q; omega
      · obtain ⟨j, y, hj, hp, oo, ho⟩ := lv.s3 q
        exact ⟨j, y, hj, hp, ⟨oo.una, oo.D, oo.sent, oo.fs, oo.fa, oo.pf, oo.wc, oo.nxt, oo.A, oo.hv, oo.cr⟩, ho⟩
/-! ### the opening states -/
theorem set_self (hi : G[i]? = some g) : G.set i g = G := by
  apply List.ext_getElem?
  intro k
  by_cases q : k = i
  · subst q; rw [set_at hi, hi]
  · rw [set_ne q]
theorem again1 (h : x.st = 1) : againF x = (⟨0, 0, x.iss, 0, 1, 16 - (x.B.A.length : Int)⟩, []) := by unfold againF mkF; rw [if_pos h]; rfl
theorem again2 (h : x.st = 2) : againF x = (⟨0, 0, x.iss, rcvNxt x, 3, 16 - (x.B.A.length : Int)⟩, []) := by unfold againF mkF; rw [if_neg (by omega), if_pos h]; rfl
/-- What an opening row sends: its SYN, or its SYN|ACK. -/
theorem again_inv (hok : CsOk x) (hs : x.st = 1 ∨ x.st = 2) (hi : G[i]? = some g) (hiss : x.iss = g.iss) (hbt : g.bt ≤ T ∧ T ≤ g.bt + 29) (het : g.et = none) (hot : g.ot = none) (h1 : x.st = 1 → g.cl = true) (h2 : x.st = 2 → g.cl = false ∧ ∃ p q, g.pr = some p ∧ G[p]? = some q ∧ x.B = resetR (sqAdd q.iss 1)) : SegInv (tau T tk') G (stampE T g i (againF x)) := by
  rcases hs with c | c
  · rw [again1 c]
    exact .inr (.inl ⟨g, rfl, rfl, hi, h1 c, stamp_from _ _ _ _, hiss, hbt, fun e he => (by rw [het] at he; cases he), fun o ho => (by rw [hot] at ho; cases ho)⟩)
  · rw [again2 c]
    obtain ⟨c2, p, q, hp, hq, hB⟩ := h2 c
    refine .inr (.inr (.inl ⟨g, q, p, rfl, rfl, hi, c2, stamp_from _ _ _ _, hp, hq, hiss, ?_, hbt, fun e he => (by rw [het] at he; cases he)⟩))
    show rcvNxt x = sqAdd q.iss 1
    have hpf := (hok.opening (.inr c)).2.2.2.2
    unfold rcvNxt
    rw [if_neg (by rw [hpf]; decide), hB]
    show sqAdd (sqAdd q.iss 1) 0 = _
    unfold sqAdd
    omega
theorem pow_rt {r : Int} (h : 0 ≤ r ∧ r ≤ 3) : (2 : Int) ^ r.toNat = 1 ∨ (2 : Int) ^ r.toNat = 2 ∨ (2 : Int) ^ r.toNat = 4 ∨ (2 : Int) ^ r.toNat = 8 := by
  have : r = 0 ∨ r = 1 ∨ r = 2 ∨ r = 3 := by omega
  rcases this with e | e | e | e <;> rw [e] <;> decide
theorem pow_rt2 {r : Int} (h : 0 ≤ r ∧ r ≤ 2) : (2 : Int) ^ r.toNat = 1 ∨ (2 : Int) ^ r.toNat = 2 ∨ (2 : Int) ^ r.toNat = 4 := by
  have : r = 0 ∨ r = 1 ∨ r = 2 := by omega
  rcases this with e | e | e <;> rw [e] <;> decide
theorem pow_succ_rt {r : Int} (h : 0 ≤ r) : (2 : Int) ^ (r + 1).toNat = 2 * 2 ^ r.toNat := by
  rw [show (r + 1).toNat = r.toNat + 1 by omega, Int.pow_succ]
  omega
/-- A tick of an opening row. -/
theorem Inv.tickO (h : Inv T tk G X Lg) (hi : G[i]? = some g) (hl : g.gone = false) (htk : ∀ k, k ≠ i → tk' k = tk k) (hti : tk' i = true) (hto : tk i = false) (hs : (X i).st = 1 ∨ (X i).st = 2) (ho : Out T g i (tickF (X i)).2 N) :
    ∃ g2, Inv T tk' (G.set i g2) (updX X i (tickF (X i)).1) (Lg ++ N) ∧ g2 = { g with pot := g2.pot, et := g2.et } ∧ (tickF (X i)).1.st ≠ 0 := by
  have lv := h.live i g hi hl
  have to : tau T tk i = T - 1 := by unfold tau; rw [if_neg (by rw [hto]; decide)]
  have het : g.et = none := lv.ne4 (by omega)
  obtain ⟨o1, o2, o3, o4, o5⟩ := lv.op hs
  rw [to] at o2
  have htick := tickF_ok lv.ok
  have hf : flying (X i) = 1 := by unfold flying; rw [if_pos hs]
  have htm : 0 < (X i).tm := ((lv.ok.live (by omega)).2.2).1 (by omega)
  have htmb := lv.ok.tm
  have hrt := lv.ok.rt
  have hcr := lv.ok.cr
  have pw := pow_rt hrt
  have btm := h.ends.time i g hi
  have hz := h.zero i g hi o3
  unfold tickF at htick ho ⊢
  rw [if_neg (by omega), if_neg (by omega), if_pos htm] at htick ho ⊢
  have mkLive : ∀ {x1 : CS} {Gs : List GE}, CsOk x1 → x1.st = (X i).st → x1.iss = (X i).iss → x1.B = (X i).B → x1.wc = (X i).wc → x1.cr = 12 → T - g.bt = el x1 → (∀ k, k ≠ i → Gs[k]? = G[k]?) → Live T Gs i { g with pot := 12, et := none, gone := false } x1 := fun {x1 Gs} c1 c2 c3 c4 c5 c6 c7 c8 => by
    refine ⟨c1, by omega, fun q => by omega, fun _ => rfl, fun q => ⟨by rw [c3]; exact o1, c7, o3, c6.symm, by rw [c5]; exact o5⟩, fun q => lv.s1 (by omega), fun q => ?_, fun q => by omega⟩
    obtain ⟨z1, p, q0, z2, z3, z4⟩ := lv.s2 (by omega)
    have hp : p ≠ i := fun e => by
      subst e
      rw [hi] at z3
      cases z3
      obtain ⟨p', g', hg', kd⟩ := h.ends.kid p g hi z1
      have e1 := kd.pr
      rw [z2] at e1
      cases e1
      rw [hi] at hg'
      cases hg'
      have := kd.cl2
      rw [z1] at this
      cases this
    exact ⟨z1, p, q0, z2, by rw [c8 p hp]; exact z3, by rw [c4]; exact z4⟩
  by_cases c1 : (X i).tm - 1 = 0
  · rw [if_pos c1] at htick ho ⊢
    by_cases c2 : (X i).rt = 3
    · rw [if_pos c2] at htick ho ⊢
      have hN : ∀ e ∈ N, e.t = T ∧ SegRst e := fun e he => by
        obtain ⟨s, hs', _⟩ := ho e he
        cases hs'
      have k := h.bad (why := 19) (q := 10) (N := N) hi hl htk hti (by decide) (by decide) (.inl ⟨het, rfl⟩) hN
      exact ⟨_, k, rfl, by decide⟩
    · rw [if_neg c2] at htick ho ⊢
      have est : (armF { X i with cr := 12, tm := (X i).tm - 1, rt := (X i).rt + 1 }).st = (X i).st := by rw [armF_eq]
      have ep : pumpF (armF { X i with cr := 12, tm := (X i).tm - 1, rt := (X i).rt + 1 }) = (armF { X i with cr := 12, tm := (X i).tm - 1, rt := (X i).rt + 1 }, []) := by unfold pumpF; rw [if_neg (by omega)]
      rw [ep] at htick ho ⊢
      have ea : armF { X i with cr := 12, tm := (X i).tm - 1, rt := (X i).rt + 1 } = { X i with cr := 12, tm := 2 * 2 ^ ((X i).rt + 1).toNat, rt := (X i).rt + 1 } := by
        rw [armF_eq]
        show ({ X i with cr := 12, tm := if (X i).tm - 1 = 0 then 2 * 2 ^ ((X i).rt + 1).toNat else (X i).tm - 1, rt := (X i).rt + 1 } : CS) = _
        rw [if_pos c1]
      rw [ea] at htick ho ⊢
      have ps := pow_succ_rt hrt.1
      have hel : T - g.bt = el { X i with cr := 12, tm := 2 * 2 ^ ((X i).rt + 1).toNat, rt := (X i).rt + 1 } := by
        unfold el at o2 ⊢
        show T - g.bt = 4 * 2 ^ ((X i).rt + 1).toNat - 2 - 2 * 2 ^ ((X i).rt + 1).toNat
        rw [ps]
        omega
      have hb29 : g.bt ≤ T ∧ T ≤ g.bt + 29 := by
        unfold el at o2
        have := btm.bt
        have := pow_rt2 (r := (X i).rt) (by omega)
        omega
      have hl2 : ∀ (Gs : List GE), (∀ k, k ≠ i → Gs[k]? = G[k]?) → Live T Gs i { g with pot := 12, et := none, gone := false } { X i with cr := 12, tm := 2 * 2 ^ ((X i).rt + 1).toNat, rt := (X i).rt + 1 } := fun Gs hG => mkLive htick rfl rfl rfl rfl rfl hel hG
      have k := h.keep (p := 12) (e2 := none) (b := false) (x' := { X i with cr := 12, tm := 2 * 2 ^ ((X i).rt + 1).toNat, rt := (X i).rt + 1 }) (N := N) hi hl htk hti (by have := hz.pot; omega) (fun q => by obtain ⟨o, q⟩ := q; rw [o3] at q; cases q) (fun _ => by omega) (fun e he => by rw [het] at he; cases he) (fun _ e he => by cases he) (fun q => by cases q) (fun _ => hl2 _ fun k hk => set_ne hk) (fun e he => ?_)
      · exact ⟨_, k, by rw [← hl], by show (X i).st ≠ 0; omega⟩
      · obtain ⟨s, hs', rfl⟩ := ho e he
        simp only [List.mem_singleton] at hs'
        subst hs'
        have lv2 := hl2 (G.set i { g with pot := 12, et := none, gone := false }) (fun k hk => set_ne hk)
        exact ⟨rfl, again_inv (g := { g with pot := 12, et := none, gone := false }) lv2.ok hs (set_at hi) o1 hb29 rfl o3 lv2.s1 lv2.s2⟩
  · rw [if_neg c1] at htick ho ⊢
    have ep : pumpF { X i with cr := 12, tm := (X i).tm - 1 } = ({ X i with cr := 12, tm := (X i).tm - 1 }, []) := by
      unfold pumpF
      rw [if_neg (by show ¬ (X i).st = 3; omega)]
    rw [ep] at htick ho ⊢
    have hel : T - g.bt = el { X i with cr := 12, tm := (X i).tm - 1 } := by
      unfold el at o2 ⊢
      show T - g.bt = 4 * 2 ^ (X i).rt.toNat - 2 - ((X i).tm - 1)
      omega
    have k := h.keep (p := 12) (e2 := none) (b := false) (x' := { X i with cr := 12, tm := (X i).tm - 1 }) (N := N) hi hl htk hti (by have := hz.pot; omega) (fun q => by obtain ⟨o, q⟩ := q; rw [o3] at q; cases q) (fun _ => by omega) (fun e he => by rw [het] at he; cases he) (fun _ e he => by cases he) (fun q => by cases q) (fun _ => mkLive htick rfl rfl rfl rfl rfl hel fun k hk => set_ne hk) (fun e he => ?_)
    · exact ⟨_, k, by rw [← hl], by show (X i).st ≠ 0; omega⟩
    · obtain ⟨s, hs', _⟩ := ho e he
      cases hs'
end
end Go.Proofs.Qxb6500424aGreat
