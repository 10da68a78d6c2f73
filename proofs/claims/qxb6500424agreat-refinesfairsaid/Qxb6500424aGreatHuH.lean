/-
  host: fair weather: a child is born.
-/
import Derived.Test.Qxb6500424aGreatHuG
set_option linter.unusedVariables false
set_option linter.unusedSimpArgs false
namespace Go.Proofs.Qxb6500424aGreat
section
variable {b T T0 T1 : Int} {t t' : Nat → TC} {H : Nat → HS} {Wo Wo1 Wn Fs W : List FL} {G G' : List GE} {X X' : Nat → CS} {M M' : Nat → List DG} {Lg Lg' : List LE} {i j k l c n d m kk : Nat} {g y g' y' gm gm' : GE} {x x' z z' : CS} {f : FL} {q : DG} {O : List OutS}
/-- A listener with no connection at its host has room. -/
theorem child_room {K : Sk.SkS} {lp rh rp : Int} (hK : Sk.SkOk K) (hl : Sk.lisE K.E lp ≠ 0) (h1 : 1 ≤ rh ∧ rh ≤ 255) (h2 : 1 ≤ rp ∧ rp ≤ 15) (hno : ∀ a ∈ K.E, a.1.kind ≠ 2) : Sk.lookE K.E lp rh rp = 0 ∧ (Sk.childA lp rh rp K).1.2 = 0 := by
  have h0 : Sk.lookE K.E lp rh rp = 0 := Sk.lookE_none fun a ha hp => hno a ha (Sk.lookP_iff.1 hp).1
  refine ⟨h0, ?_⟩
  have hsd : 1 ≤ Sk.lisE K.E lp := by
    obtain ⟨a, ha, hp, e⟩ := Sk.lisE_ne hl
    rw [← e]
    exact (hK.ei.sd a ha).1
  have hk : K.E.filter (Sk.kidOf (Sk.lisE K.E lp)) = [] := by
    rw [List.filter_eq_nil_iff]
    intro a ha hp
    unfold Sk.kidOf at hp
    have e : a.1.par = Sk.lisE K.E lp := by simpa using hp
    have ok := hK.ei.ok a ha
    have k1 : a.1.kind = 1 := ok.kind.resolve_right (hno a ha)
    have := (ok.lis k1)
    omega
  have hlow : Sk.lowE K.E ≠ -1 := fun e => by
    have := Sk.lowF_none e (s := 0) (by omega)
    obtain ⟨a, ha, hk2, _⟩ := Sk.occE_iff.1 this
    exact hno a ha hk2
  unfold Sk.childA
  rw [if_neg hl, if_neg (by omega), if_neg (by omega), if_neg (fun z => z h0), if_neg]
  rw [hk]
  rintro (z | z)
  · simp at z
  · exact hlow z
theorem P1.room {f0 : FL} {n0 : Nat} {q0 : DG} (p : P1 T t Wo Wn G X M i g f0 n0 q0 d) (sys : Sys T t G X Lg) : Sk.lookE (t d).K.E q0.s.1.dp ((g.h : Int) + 1) q0.s.1.sp = 0 ∧ Sk.lisE (t d).K.E q0.s.1.dp ≠ 0 ∧ (Sk.childA q0.s.1.dp ((g.h : Int) + 1) q0.s.1.sp (t d).K).1.2 = 0 := by
  have tb := sys.tab d p.d3
  have hh := sys.hlt i g p.at_
  obtain ⟨a, ha, hk, ro⟩ := sys.rowI p.at_ p.gone
  have ok := ((sys.tab g.h hh).sk.ei.ok a ha).con hk
  have hno : ∀ a ∈ (t d).K.E, a.1.kind ≠ 2 := fun a ha hk => by
    obtain ⟨k, z, r⟩ := tb.row a ha hk
    have := p.all k z r.at_ r.gone
    subst this
    have := r.at_
    rw [p.at_] at this
    cases this
    exact p.nd r.h.symm
  have hlp := ro.lp
  have hl : Sk.lisE (t d).K.E q0.s.1.dp ≠ 0 := by rw [p.dp]; exact p.lis
  obtain ⟨a1, a2⟩ := child_room (rh := (g.h : Int) + 1) (rp := q0.s.1.sp) tb.sk hl (by omega) (by rw [p.sp]; omega) hno
  exact ⟨a1, hl, a2⟩
theorem FW.birth {f0 : FL} {n0 : Nat} {q0 : DG} {d0 : Nat} (h : FW b T t Wo Wn G X M i) (p : P1 T t Wo Wn G X M i g f0 n0 q0 d0) (dv : DvF T t t' H Wo Wo1 Fs G G' X X' M M' Lg Lg' d c n kk f q O) (bi : Birth T q.t d G G' X' O) (hW1 : Wo1 = []) : FW b T t' Wo1 (Wn ++ Fs) G' X' M' i := by
  have sys := dv.ds.s0
  have sys' := dv.ds.s1
  obtain ⟨fl, ef, ec, eq⟩ := p.no h.ag dv.lk dv.fW dv.fo
  subst ef
  subst eq
  have hd : d0 = d := by
    have a := p.qd
    have b := p.rh
    have c1 : q.d = (d : Int) + 1 := dv.ds.hd
    omega
  subst hd
  obtain ⟨y, pp, gp, eG, bn, hgp, hnb, tm2, rt2, eO⟩ := bi
  have ag := h.ag.o f dv.fW
  have hage := dv.fo.age (by omega)
  have hpi : pp = i := p.all pp gp hgp (not_gone (sys.inv.ends.time pp gp hgp) hnb (by omega))
  subst hpi
  rw [p.at_] at hgp
  cases hgp
  obtain ⟨g2, hg2, _, mi, _⟩ := bn.of
  rw [p.at_] at hg2
  cases hg2
  have hsame : ∀ k, k < G.length → X' k = X k := by
    rcases dv.ds.hx with ⟨a, k, z, ham, hk, r, _⟩ | ⟨_, z, _⟩
    · exfalso
      have := p.all k z r.at_ r.gone
      subst this
      have := r.at_
      rw [p.at_] at this
      cases this
      exact p.nd r.h.symm
    · exact z
  have hil := (List.getElem?_eq_some_iff.1 p.at_).1
  have eXi := hsame pp hil
  have alive : ∀ (k : Nat) z, G'[k]? = some z → z.gone = false → (k = pp ∧ z = g) ∨ (k = G.length ∧ z = y) := fun k z hk hz => by
    rw [eG] at hk
    by_cases w : k < G.length
    · rw [List.getElem?_append_left w] at hk
      have := p.all k z hk hz
      subst this
      rw [p.at_] at hk
      cases hk
      exact .inl ⟨rfl, rfl⟩
    · have hlt := (List.getElem?_eq_some_iff.1 hk).1
      rw [List.length_append] at hlt
      have ek : k = G.length := by simp at hlt; omega
      subst ek
      simp at hk
      exact .inr ⟨rfl, hk.symm⟩
  have hi' : G'[pp]? = some g := by rw [eG]; exact get_app p.at_
  have hj' : G'[G.length]? = some y := by rw [eG]; simp
  have lvj := sys'.liv hj' bn.gone
  have n3 : ∀ (k : Nat) z, G'[k]? = some z → z.gone = false → (X' k).st = 1 ∨ (X' k).st = 2 := fun k z hk hz => by
    rcases alive k z hk hz with ⟨rfl, _⟩ | ⟨rfl, _⟩
    · rw [eXi]; exact .inl p.st
    · exact .inr bn.st
  -- the SYN|ACK
  have hag : againF (X' G.length) = mkF (X' G.length) 3 (X' G.length).iss [] := by
    unfold againF
    rw [if_neg (by rw [bn.st]; decide), if_pos bn.st]
  have rg : Rng (againF (X' G.length)) := by
    rw [hag]
    exact rng_mk lvj.ok.toCsW lvj.ok.iss (by decide) (by simp)
  have hoO : stampG y (againF (X' G.length)) ∈ O := by rw [eO]; exact List.mem_singleton.2 rfl
  have enc := sys'.enc hj' bn.gone rg
  rw [bn.h] at enc
  have sn := dv.new _ hoO enc (by show (againF (X' G.length)).2 = []; rw [hag]; rfl)
  have fl3 : (stampG y (againF (X' G.length))).2.1.fl = 3 := by
    show (againF (X' G.length)).1.fl = 3
    rw [hag]
    rfl
  refine ⟨h.b0, dv.ages h.ag, fun c' hc' z hz => ?_, fun k z hk hz => ?_, fun k z hk hz => ?_, .inr (.inr (.inl ⟨fun x hx => ?_, G.length, g, y, ⟨hi', hj', p.gone, bn.gone, p.cl, bn.cl, bn.pr⟩, ?_, bn.st, ?_, rt2, .inr ⟨⟨_, sn.app2, ?_, fl3⟩, ?_, ?_⟩⟩)), fun k l a a2 hk hz h3 => ?_, fun k l a a2 hk hz h4 => ?_⟩
  · rcases dv.mo c' hc' z hz with w | ⟨o, ho, rfl⟩
    · exact h.rs c' hc' z w
    · rw [eO] at ho
      rw [List.mem_singleton.1 ho]
      exact .inr (.inl fl3)
  · rcases alive k z hk hz with ⟨rfl, rfl⟩ | ⟨rfl, rfl⟩
    · rw [eXi]; exact h.wy k z p.at_ hz
    · exact bn.why
  · rcases alive k z hk hz with ⟨rfl, rfl⟩ | ⟨rfl, rfl⟩
    · exact .inl ⟨rfl, p.cl⟩
    · exact .inr ⟨bn.cl, bn.pr⟩
  · rw [hW1, List.nil_append, p.wn, List.nil_append] at hx
    obtain ⟨_, _, n1, i1, o, ho, fo1⟩ := dv.nfs x hx
    rw [eO] at ho
    refine ⟨d0, n1, i1, dgO T o, fo1, ?_⟩
    rw [List.mem_singleton.1 ho]
    show (stampG y (againF (X' G.length))).2.1.fl ≠ 1
    rw [fl3]
    decide
  · rw [eXi]; exact p.st
  · rw [eXi]; exact p.rt
  · have := To.mir (g := y) (y := g) mi.symm T (againF (X' G.length))
    rw [bn.h] at this
    exact this
  · rw [eXi, p.tm]; decide
  · rw [tm2]; decide
  · have := n3 k a hk hz
    omega
  · have := n3 k a hk hz
    omega
end
end Go.Proofs.Qxb6500424aGreat
