/-
  host: fair weather: a frame is delivered.
-/
import Derived.Test.Qxb6500424aGreatHuJ
set_option linter.unusedVariables false
set_option linter.unusedSimpArgs false
namespace Go.Proofs.Qxb6500424aGreat
section
variable {b b' T T0 T1 : Int} {t t' : Nat → TC} {H : Nat → HS} {Wo Wo1 Wn Wn1 Fs W : List FL} {G G' : List GE} {X X' : Nat → CS} {M M' : Nat → List DG} {Lg Lg' : List LE} {i j k l c n d m kk : Nat} {g y g' y' gm gm' : GE} {x x' z z' : CS} {f : FL} {q : DG} {O : List OutS} {rel : Prop}
theorem FW.deliver (h : FW b T (fun c => (H c).t) Wo Wn G X M i) (pw : PW T H W G X Lg M) (hd : d < 3) (st : StpX T H d f.raw W G X G' X' Lg' M') (dx : DX rel T H d f G X M G' X' M') (fW : f ∈ Wo) (sub : ∀ x ∈ Wo, x = f ∨ x ∈ Wo1) (sub1 : ∀ x ∈ Wo1, x ∈ Wo) (h0 : f.raw[0]? = some ((d : Int) + 1)) (hl : (inputH (H d) f.raw).1.lost = (H d).lost) (hW1 : Wo = [f] → Wo1 = []) (hrel : b + 4 ≤ T → rel) :
    FW b T (fun c => (updS H d (inputH (H d) f.raw).1 c).t) Wo1 (Wn ++ (inputH (H d) f.raw).2.map flF) G' X' M' i := by
  have agf := h.ag.o f fW
  obtain ⟨c, n, k, q, fo, dx⟩ := dx
  have hdst : q.d = (d : Int) + 1 := by
    have e := fo.raw agf.1
    rw [e, fr_head] at h0
    injection h0
  rcases dx with ⟨e1, e2, e3, eF, et, h16, hk⟩ | tx
  · subst e1
    subst e2
    subst e3
    have ett : (fun c => (updS H d (inputH (H d) f.raw).1 c).t) = fun c => (H c).t := by
      rw [updS_t, et]
      exact updH_same _ _
    rw [ett, eF, List.map_nil, List.append_nil]
    exact h.quiet pw.lk fo fW sub sub1 (h16 agf.1 hdst) (fun z => hk (hrel z))
  · obtain ⟨⟨E, hM, hF, hE⟩, oth⟩ := tx.se
    have hE := hE hl
    have hEt : ∀ g ∈ E, g.t = T := fun g hg => by
      rw [hE] at hg
      obtain ⟨o, _, rfl⟩ := List.mem_map.1 hg
      rfl
    have dv : DvF T (fun c => (H c).t) (fun c => (updS H d (inputH (H d) f.raw).1 c).t) H Wo Wo1 ((inputH (H d) f.raw).2.map flF) G G' X X' M M' Lg Lg' d c n k f q (inSegT T ((c : Int) + 1) q.s (H d).t).2.1 := by
      refine ⟨⟨pw.sys, st.pw.sys, st.tr, st.sr, tx.sx, hdst, hd, fo.c3, tx.ht, ((pw.lk c fo.c3).ok q (List.mem_of_getElem? fo.at_)).2⟩, pw.lk, fo, fW, sub, sub1, fun c' n' g _ hg => ?_, fun c' hc' g hg => ?_, fun o ho he hD => ?_, fun x hx => ?_⟩
      · by_cases z : c' = d
        · subst z
          rw [hM, List.getElem?_append_left (List.getElem?_eq_some_iff.1 hg).1]
          exact hg
        · rw [oth c' z]
          exact hg
      · by_cases z : c' = d
        · subst z
          rw [hM] at hg
          rcases List.mem_append.1 hg with w | w
          · exact .inl w
          · rw [hE] at w
            obtain ⟨o, ho, rfl⟩ := List.mem_map.1 w
            exact .inr ⟨o, (List.mem_filter.1 ho).1, rfl⟩
        · rw [oth c' z] at hg
          exact .inl hg
      · rw [hF]
        have hm : dgO T o ∈ E := by rw [hE]; exact List.mem_map.2 ⟨o, List.mem_filter.2 ⟨ho, he⟩, rfl⟩
        have hlen : ((dgO T o).D d).length = 8 := by
          unfold DG.D
          rw [encSeg_len]
          show 8 + o.2.2.length = 8
          rw [hD]
          rfl
        exact sn_new hd hM hm rfl ⟨by omega, by omega⟩
      · rw [hF] at hx
        obtain ⟨a, b, n1, i1, g1, hg1, fo1⟩ := fs_new hd hM hEt x hx
        rw [hE] at hg1
        obtain ⟨o, ho, rfl⟩ := List.mem_map.1 hg1
        exact ⟨a, b, n1, i1, o, (List.mem_filter.1 ho).1, fo1⟩
    rcases h.arrive pw.sys pw.lk (List.mem_append.2 (.inl fW)) fo with fl | ⟨m, gm, hm, hgl, to, ar⟩
    · -- the SYN
      have nope : NoSyn T M (Wo ++ Wn) → False := fun z0 => by
        obtain ⟨c', n', k', q', fo', e⟩ := z0 f (List.mem_append.2 (.inl fW))
        obtain ⟨_, _, e3⟩ := fo'.uniq pw.lk fo agf.1 (by omega)
        rw [e3] at e
        exact e fl
      rcases h.os with ⟨z0, _⟩ | ⟨g0, f0, n0, q0, d0, p⟩ | ⟨z0, _⟩ | ⟨z0, _⟩
      · exact absurd (nope z0) id
      · obtain ⟨_, ef, ec, eq⟩ := p.no h.ag pw.lk fW fo
        obtain ⟨r1, r2, r3⟩ := p.room pw.sys
        have ed : d0 = d := by
          have a := p.qd
          have b := p.rh
          rw [← eq] at a
          omega
        subst ed
        rw [← eq, ← ec] at r1 r3
        rw [← eq] at r2
        exact h.birth p dv (tx.bi r1 fl r2 r3) (hW1 (by rw [p.wo, ef]))
      · exact absurd (nope z0) id
      · exact absurd (nope z0) id
    · refine h.hit dv (tx.nb fun h00 => ?_) hm hgl to ar
      have hh : gm.h = d := by
        have := to.d
        have e : q.d = (gm.h : Int) + 1 := this
        omega
      have := (pw.sys.tab d hd).gone h00 m gm hm hh to.dp.symm to.c to.sp.symm
      rw [hgl] at this
      cases this
/-- Every frame is for one of the hosts. -/
theorem FW.dest (h : FW b T (fun c => (H c).t) Wo Wn G X M i) (pw : PW T H W G X Lg M) (fW : f ∈ Wo) (hfr : ∃ c n i g, FrOk T M f c n i g) : f.age ≤ 4 ∧ ∃ d : Nat, d < 3 ∧ f.raw[0]? = some ((d : Int) + 1) := by
  have agf := h.ag.o f fW
  obtain ⟨c, n, k, q, fo⟩ := hfr
  refine ⟨by omega, ?_⟩
  rw [fo.raw agf.1, fr_head]
  rcases h.arrive pw.sys pw.lk (List.mem_append.2 (.inl fW)) fo with fl | ⟨m, gm, hm, hgl, to, ar⟩
  · rcases h.os with ⟨z0, _⟩ | ⟨g0, f0, n0, q0, d0, p⟩ | ⟨z0, _⟩ | ⟨z0, _⟩
    · obtain ⟨c', n', k', q', fo', e⟩ := z0 f (List.mem_append.2 (.inl fW))
      obtain ⟨_, _, e3⟩ := fo'.uniq pw.lk fo agf.1 (by omega)
      rw [e3] at e
      exact absurd fl e
    · obtain ⟨_, ef, ec, eq⟩ := p.no h.ag pw.lk fW fo
      exact ⟨d0, p.d3, by rw [eq, p.qd, p.rh]⟩
    · obtain ⟨c', n', k', q', fo', e⟩ := z0 f (List.mem_append.2 (.inl fW))
      obtain ⟨_, _, e3⟩ := fo'.uniq pw.lk fo agf.1 (by omega)
      rw [e3] at e
      exact absurd fl e
    · obtain ⟨c', n', k', q', fo', e⟩ := z0 f (List.mem_append.2 (.inl fW))
      obtain ⟨_, _, e3⟩ := fo'.uniq pw.lk fo agf.1 (by omega)
      rw [e3] at e
      exact absurd fl e
  · have e : q.d = (gm.h : Int) + 1 := to.d
    exact ⟨gm.h, pw.sys.hlt m gm hm, by rw [e]⟩
end
end Go.Proofs.Qxb6500424aGreat
