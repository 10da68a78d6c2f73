/-
  host: the plain law of the network: ends and segments, with no Go in sight: what always holds, and what follows from it.
-/
import Derived.Test.Qxb6500424aGreatCnB
import Derived.Test.Qxb6500424aGreatSkD
set_option linter.unusedVariables false
set_option linter.unusedSimpArgs false
namespace Go.Proofs.Qxb6500424aGreat
/-- One end of a connection: what the abstract network keeps of it, and more. -/
structure GE where
  h : Nat
  sd : Int
  lp : Int
  rh : Int
  rp : Int
  cl : Bool
  pr : Option Nat
  S : List Int
  R : List Int
  iss : Int
  bt : Int
  ot : Option Int
  et : Option Int
  ua : Nat
  nx : Nat
  fs : Bool
  fa : Bool
  rc : Nat
  pf : Bool
  wc : Bool
  pot : Int
  gone : Bool
def b2i (b : Bool) : Int := if b = true then 1 else 0
theorem b2i_bd (b : Bool) : 0 ≤ b2i b ∧ b2i b ≤ 1 := by cases b <;> decide
structure Mirror (x y : GE) : Prop where
  rh : x.rh = (y.h : Int) + 1
  rh2 : y.rh = (x.h : Int) + 1
  lp : x.lp = y.rp
  rp : x.rp = y.lp
theorem Mirror.symm {x y : GE} (h : Mirror x y) : Mirror y x := ⟨h.rh2, h.rh, h.rp.symm, h.lp.symm⟩
/-- One direction of a connection. -/
structure Dir (x y : GE) : Prop where
  un : x.ua ≤ x.nx ∧ x.nx ≤ x.S.length ∧ x.nx ≤ x.ua + 16
  fs : x.fs = true → x.nx = x.S.length ∧ x.wc = true
  fa : x.fa = true → x.fs = true ∧ x.ua = x.nx ∧ y.pf = true
  rc : x.ua ≤ y.rc ∧ y.rc ≤ x.nx
  pf : y.pf = true → x.fs = true ∧ y.rc = x.S.length
  pot : (x.nx : Int) + b2i x.fs ≤ x.pot ∧ x.pot ≤ (x.nx : Int) + b2i x.fs + 12
/-- Not ended before t. -/
def NotB (g : GE) (t : Int) : Prop := ∀ e, g.et = some e → t ≤ e
structure SameT (x y : GE) : Prop where
  h : x.h = y.h
  lp : x.lp = y.lp
  rh : x.rh = y.rh
  rp : x.rp = y.rp
/-- The ends' own times. -/
structure TimeOk (T : Int) (g : GE) : Prop where
  bt : 0 ≤ g.bt ∧ g.bt ≤ T
  iss : g.iss = g.bt % 256
  et : ∀ e, g.et = some e → g.bt ≤ e ∧ e ≤ T
  ot : ∀ o, g.ot = some o → g.bt ≤ o ∧ o ≤ T ∧ NotB g o
  gone : g.gone = true → ∃ e, g.et = some e ∧ e + 10 ≤ T
/-- A client that has opened, and its child. -/
structure Est (x y : GE) (i j : Nat) : Prop where
  cl : x.cl = true
  cl2 : y.cl = false
  pr : x.pr = some j
  pr2 : y.pr = some i
  mir : Mirror x y
  d1 : Dir x y
  d2 : Dir y x
  ot : ∃ o, x.ot = some o ∧ y.bt ≤ o ∧ NotB y (o - 4)
structure Kid (y g : GE) (p : Nat) : Prop where
  cl : y.cl = false
  cl2 : g.cl = true
  pr : y.pr = some p
  mir : Mirror g y
  bt : g.bt ≤ y.bt ∧ y.bt ≤ g.bt + 33
  et : NotB g (y.bt - 4)
  ot : ∀ o, g.ot = some o → y.bt - 4 ≤ o
structure Ends (T : Int) (G : List GE) : Prop where
  time : ∀ (i : Nat) g, G[i]? = some g → TimeOk T g
  kid : ∀ (j : Nat) y, G[j]? = some y → y.cl = false → ∃ p g, G[p]? = some g ∧ Kid y g p
  est : ∀ (i : Nat) x, G[i]? = some x → x.cl = true → ∀ j, x.pr = some j → ∃ y, G[j]? = some y ∧ Est x y i j
  ot : ∀ (i : Nat) x, G[i]? = some x → x.cl = true → ∀ o, x.ot = some o → ∃ j, x.pr = some j
  kot : ∀ (j : Nat) y, G[j]? = some y → y.cl = false → ∀ o, y.ot = some o → ∃ i x, G[i]? = some x ∧ Est x y i j
  two : ∀ (i k : Nat) x y, i < k → G[i]? = some x → G[k]? = some y → SameT x y → x.gone = true ∧ ∃ e, x.et = some e ∧ e + 10 ≤ y.bt
  roles : ∀ (i : Nat) g, G[i]? = some g → (g.cl = true → 8 ≤ g.lp) ∧ (g.cl = false → g.lp ≤ 7)
/-- x and y belong to each other. -/
def Pair (i j : Nat) (x y : GE) : Prop := (x.cl = true ∧ Est x y i j) ∨ (x.cl = false ∧ Est y x j i)
section
variable {T : Int} {G : List GE}
theorem Ends.lt {i k : Nat} {x y : GE} (h : Ends T G) (hx : G[i]? = some x) (hy : G[k]? = some y) (hs : SameT x y) (hne : i ≠ k) : (i < k ∧ x.gone = true ∧ ∃ e, x.et = some e ∧ e + 10 ≤ y.bt) ∨ (k < i ∧ y.gone = true ∧ ∃ e, y.et = some e ∧ e + 10 ≤ x.bt) := by
  rcases Nat.lt_or_gt_of_ne hne with q | q
  · exact .inl ⟨q, h.two i k x y q hx hy hs⟩
  · exact .inr ⟨q, h.two k i y x q hy hx ⟨hs.h.symm, hs.lp.symm, hs.rh.symm, hs.rp.symm⟩⟩
theorem Mirror.same {x y z : GE} (h1 : Mirror x y) (h2 : Mirror x z) : SameT y z := by
  have a1 := h1.rh; have a2 := h2.rh; have b1 := h1.rh2; have b2 := h2.rh2; have c1 := h1.lp; have c2 := h2.lp; have d1 := h1.rp; have d2 := h2.rp
  exact ⟨by omega, by omega, by omega, by omega⟩
theorem Mirror.same2 {x y z : GE} (h1 : Mirror x y) (h2 : Mirror z y) : SameT x z := Mirror.same h1.symm h2.symm
/-- Whoever stands on the mirrored four-tuple, and has met its peer, is the peer of whoever has just spoken. -/
theorem peer_only {x yp y : GE} {i j k : Nat} {t : Int} (h : Ends T G) (hx : G[i]? = some x) (hyp : G[j]? = some yp) (hp : Pair i j x yp) (ht : T - 4 ≤ t) (hq : NotB x t ∨ NotB yp (t - 4))
    (hy : G[k]? = some y) (hm : Mirror x y) (hl : y.gone = false) (hcl : y.cl = !x.cl) (hop : y.cl = true → ∃ j2, y.pr = some j2) : k = j := by
  apply Classical.byContradiction
  intro hne
  have hm' : Mirror x yp := by
    rcases hp with ⟨_, e⟩ | ⟨_, e⟩
    · exact e.mir
    · exact e.mir.symm
  rcases h.lt hyp hy (hm'.same hm) (fun q => hne q.symm) with ⟨_, _, e', he', hb⟩ | ⟨_, hg, _⟩
  rotate_left
  · rw [hl] at hg; cases hg
  have hyt := h.time k y hy
  rcases hp with ⟨hcx, es⟩ | ⟨hcx, es⟩
  · -- x a client
    have hcy : y.cl = false := by rw [hcl, hcx]; rfl
    obtain ⟨p, g, hg, kd⟩ := h.kid k y hy hcy
    obtain ⟨o, ho, ho1, ho2⟩ := es.ot
    have q1 := ho2 e' he'
    by_cases hpi : p = i
    · subst hpi
      rw [hx] at hg
      cases hg
      have := kd.ot o ho
      omega
    · have hst : SameT x g := hm.same2 kd.mir
      rcases h.lt hx hg hst (fun q => hpi q.symm) with ⟨_, _, ex, hex, hbx⟩ | ⟨_, _, ep, hep, hbp⟩
      · have b1 := kd.bt
        have b2 := hyt.bt
        rcases hq with q | q
        · have := q ex hex; omega
        · have := q e' he'; omega
      · have := kd.et ep hep
        have := (h.time i x hx).ot o ho
        omega
  · -- x a child
    have hcy : y.cl = true := by rw [hcl, hcx]; rfl
    obtain ⟨j2, hj2⟩ := hop hcy
    obtain ⟨z, hz, es2⟩ := h.est k y hy hcy j2 hj2
    obtain ⟨o2, ho2, hob, hoe⟩ := es2.ot
    have hyo := hyt.ot o2 ho2
    by_cases hji : j2 = i
    · subst hji
      rw [hx] at hz
      cases hz
      have e1 := es2.pr2
      have e2 := es.pr2
      rw [e1] at e2
      cases e2
      exact hne rfl
    · have hst : SameT x z := hm.symm.same es2.mir
      rcases h.lt hx hz hst (fun q => hji q.symm) with ⟨_, _, ex, hex, hbx⟩ | ⟨_, _, e2, he2, hb2⟩
      · rcases hq with q | q
        · have := q ex hex; omega
        · have := q e' he'; omega
      · have q2 := hoe e2 he2
        obtain ⟨p, g, hg, kd⟩ := h.kid i x hx hcx
        have e1 := es.pr2
        rw [kd.pr] at e1
        cases e1
        rw [hyp] at hg
        cases hg
        have := kd.et e' he'
        omega
/-- A SYN|ACK that acknowledges a client's SYN comes from a child that was born of it, the youngest on its four-tuple. -/
theorem synack_peer {x y : GE} {i j p : Nat} {t : Int} (h : Ends T G) (hx : G[i]? = some x) (hcx : x.cl = true) (hl : x.gone = false) (hy : G[j]? = some y) (hcy : y.cl = false) (hm : Mirror x y) (hpr : y.pr = some p) {g : GE} (hg : G[p]? = some g) (hi : g.iss = x.iss) (ht : T - 4 ≤ t) (htb : t ≤ y.bt + 29) (hte : NotB y t) :
    p = i ∧ (∀ (k : Nat) z, G[k]? = some z → SameT y z → k ≤ j) := by
  obtain ⟨p', g', hg', kd⟩ := h.kid j y hy hcy
  rw [kd.pr] at hpr
  cases hpr
  rw [hg'] at hg
  cases hg
  have tx := h.time i x hx
  have tg := h.time p g hg'
  refine ⟨?_, fun k z hz hst => ?_⟩
  · apply Classical.byContradiction
    intro hne
    rcases h.lt hg' hx (kd.mir.same2 hm) hne with ⟨_, _, e, he, hb⟩ | ⟨_, q, _⟩
    · have := kd.bt
      have := tg.iss
      have := tx.iss
      have := tx.bt
      have := tg.et e he
      omega
    · rw [hl] at q; cases q
  · apply Classical.byContradiction
    intro hlt
    obtain ⟨_, e, he, hb⟩ := h.two j k y z (by omega) hy hz hst
    have := hte e he
    have := (h.time k z hz).bt
    omega
end
end Go.Proofs.Qxb6500424aGreat
