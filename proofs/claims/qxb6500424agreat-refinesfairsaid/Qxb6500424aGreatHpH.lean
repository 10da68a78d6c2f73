/-
  host: the plain law of the network: reading, aborting; a segment comes.
-/
import Derived.Test.Qxb6500424aGreatHpG
set_option linter.unusedVariables false
set_option linter.unusedSimpArgs false
namespace Go.Proofs.Qxb6500424aGreat
section
variable {T dp : Int} {tk tk' : Nat → Bool} {G : List GE} {X : Nat → CS} {Lg N : List LE} {i j : Nat} {g y g' g1 g2 : GE} {x x' : CS} {L : List SegV}
/-- A bare acknowledgement of a row that is open or ended well. -/
theorem ack_any (oo : OpenOk g y x) (d1 : Dir g y) (d2 : Dir y g) (hst : x.st = 3 ∨ x.st = 4) (hB : x.B.A.length ≤ 16) : AS g y (ackF x) := by
  have n1 := n2_b2i g.fs
  have n2' := n2_b2i g.pf
  have hun := d1.un
  have hfa := d1.fa
  have hs := oo.sent
  have hp := d2.pot
  have hu2 := d2.un
  have hr2 := d2.rc
  have b1 := b2i_bd y.fs
  have b2 := b2i_bd g.pf
  have hsn : sndNxt x = (g.iss + 1 + ((g.nx + n2 g.fs : Nat) : Int)) % 256 := by
    have hu := oo.una
    have e1 := oo.fs
    have e2 := oo.fa
    unfold sndNxt sndUna flying sqAdd
    rw [if_neg (show ¬ (x.st = 1 ∨ x.st = 2) by omega), e1, e2, hu]
    cases hfs : g.fs <;> cases hfa' : g.fa
    · simp only [Bool.false_eq_true, if_false, and_true, n2]; push_cast; omega
    · have := (hfa hfa').1; rw [hfs] at this; cases this
    · simp only [Bool.false_eq_true, if_false, if_true, and_self, n2]; push_cast; omega
    · have := (hfa hfa').2.1; simp only [Bool.true_eq_false, and_false, if_false, if_true, n2]; push_cast; omega
  have hrn : rcvNxt x = (y.iss + 1 + ((g.rc + n2 g.pf : Nat) : Int)) % 256 := by
    have h1 := oo.nxt
    have h2 := oo.pf
    unfold rcvNxt sqAdd
    rw [h1, h2]
    cases g.pf
    · simp only [Bool.false_eq_true, if_false, n2]; push_cast; omega
    · simp only [if_true, n2]; push_cast; omega
  refine ⟨g.nx + n2 g.fs, g.rc + n2 g.pf, .inl rfl, hsn, hrn, fun hd => ?_, fun h6 => (by cases h6), by push_cast; omega, by push_cast; omega, by simp [ackF, mkF], IsB.nil, by show 0 ≤ 16 - (x.B.A.length : Int) ∧ 16 - (x.B.A.length : Int) ≤ 16; omega⟩
  rcases hd with q | q
  · simp [ackF, mkF] at q
  · cases q
/-- Nothing changes but what is under way. -/
theorem Inv.emit (h : Inv T tk G X Lg) (hN : ∀ e ∈ N, e.t = T ∧ SegInv (tau T tk) G e) : Inv T tk G X (Lg ++ N) :=
  ⟨h.ends, h.zero, h.live, fun e he ha => by
    rcases List.mem_append.1 he with q | q
    · exact h.seg e q ha
    · exact ⟨by have := (hN e q).1; omega, (hN e q).2⟩⟩
theorem updX_self (X : Nat → CS) (i : Nat) : updX X i (X i) = X := by
  funext k
  unfold updX
  split
  · rename_i e; rw [e]
  · rfl
/-- Recv: bytes are read. -/
theorem Inv.recv {mx : Int} (h : Inv T tk G X Lg) (hi : G[i]? = some g) (hl : g.gone = false) (hti : tk i = true) (h0 : (recvF mx (X i)).2.e = 0) (hmx : 0 < mx) (hA : 0 < (X i).B.A.length) (ho : Out T g i (recvF mx (X i)).2.G N) :
    ∃ g2, Inv T tk (G.set i g2) (updX X i (recvF mx (X i)).2.C) (Lg ++ N) ∧ Kp g g2 ∧ g2.pr = g.pr ∧ g2.S = g.S ∧ g2.R = g.R ++ (recvF mx (X i)).1 ∧ g2.wc = g.wc ∧ g2.gone = false ∧ g2.ot = g.ot ∧ g2.et = g.et ∧ g2.rc = g.rc ∧ g2.pf = g.pf ∧ g2.fa = g.fa := by
  have lv := h.live i g hi hl
  have hcs := recvF_ok (mx := mx) lv.ok
  have hnz := lv.nz
  have hst := lv.ok.st
  have hs3 : (X i).st = 3 ∨ ((X i).st = 4 ∧ (X i).why = 0) := by
    by_cases c1 : (X i).st = 1 ∨ (X i).st = 2
    · exfalso
      rcases c1 with c1 | c1
      · have := lv.ok.syn c1
        rw [this] at hA
        simp [resetR] at hA
      · obtain ⟨_, p, q, _, _, hB⟩ := lv.s2 c1
        rw [hB] at hA
        simp [resetR] at hA
    · by_cases c4 : (X i).st = 4
      · refine .inr ⟨c4, ?_⟩
        apply Classical.byContradiction
        intro hw
        have := lv.ok.bad c4 hw
        rw [this] at hA
        simp [C0, resetR] at hA
      · exact .inl (by omega)
  obtain ⟨j, y, hj, hp, oo, o0, hot⟩ := lv.s3 hs3
  unfold recvF at hcs h0 ho ⊢
  rw [if_neg hnz, if_neg (by omega), if_neg (by omega)] at hcs h0 ho ⊢
  have htm := h.ends.time i g hi
  let gb : GE := { g with R := g.R ++ (X i).B.A.take (leastN mx (X i).B.A.length) }
  have hji : j ≠ i := fun q => hp.ne hi hj q.symm
  have hun := hp.dir
  have ev : Evo T (12 * (tau T tk i - tau T tk i)) g gb := ⟨rfl, rfl, rfl, rfl, rfl, rfl, rfl, rfl, fun j hj => hj, ⟨[], by simp [gb]⟩, Nat.le_refl _, Int.le_refl _, fun q => ⟨q, rfl⟩, fun e he => he, fun hn e he => (by have he' : g.et = some e := he; rw [hn] at he'; cases he'), fun o ho => ho, fun hn o ho => (by have ho' : g.ot = some o := ho; rw [hn] at ho'; cases ho'), by show g.pot ≤ g.pot + 12 * (tau T tk i - tau T tk i); omega, hl⟩
  have dd1 : Dir gb y := ⟨hun.1.un, hun.1.fs, hun.1.fa, hun.1.rc, hun.1.pf, hun.1.pot⟩
  have dd2 : Dir y gb := ⟨hun.2.un, hun.2.fs, hun.2.fa, hun.2.rc, hun.2.pf, hun.2.pot⟩
  have hpair2 : Pair i j gb y := by
    rcases hp with ⟨c, es⟩ | ⟨c, es⟩
    · exact .inl ⟨c, ⟨es.cl, es.cl2, es.pr, es.pr2, ev.mir es.mir, dd1, dd2, es.ot⟩⟩
    · obtain ⟨o, ho, h1, h2⟩ := es.ot
      exact .inr ⟨c, ⟨es.cl, es.cl2, es.pr, es.pr2, ev.mir2 es.mir, dd2, dd1, o, ho, h1, h2⟩⟩
  have oob : OpenOk gb y { X i with B := readA mx (X i).B } := by
    refine ⟨oo.una, oo.D, oo.sent, oo.fs, oo.fa, oo.pf, oo.wc, oo.nxt, ?_, oo.hv, oo.cr⟩
    show (g.R ++ (X i).B.A.take (leastN mx (X i).B.A.length)) ++ (X i).B.A.drop (leastN mx (X i).B.A.length) = y.S.take g.rc
    rw [List.append_assoc, List.take_append_drop]
    exact oo.A
  have hj' : (G.set i gb)[j]? = some y := by rw [set_ne hji]; exact hj
  have ti : tau T tk i = T := by unfold tau; rw [if_pos hti]
  refine ⟨gb, h.step hi ev rfl (fun k _ => rfl) ⟨htm.bt, htm.iss, htm.et, fun o ho => htm.ot o ho, htm.gone⟩ (fun q => ?_) (fun _ => ⟨hcs, hnz, lv.e4, lv.ne4, fun q => ?_, fun q => ?_, fun q => ?_, fun _ => ⟨j, y, hj', hpair2, oob, o0, hot⟩⟩) (fun k z hz hpz => ?_) (.inl rfl) (fun c o ho => h.ends.ot i g hi c o ho) (fun c hn => (by rw [hot] at hn; cases hn)) (ho.inv fun s hs => ?_), ⟨rfl, rfl, rfl, rfl, rfl, rfl, rfl⟩, rfl, rfl, rfl, rfl, hl, rfl, rfl, rfl, rfl, rfl⟩
  · have q' : g.ot = none := q
    rw [hot] at q'
    cases q'
  · have q' : (X i).st = 1 ∨ (X i).st = 2 := q; omega
  · have q' : (X i).st = 1 := q; omega
  · have q' : (X i).st = 2 := q; omega
  · have ek := hp.uniq hpz
    subst ek
    rw [hj] at hz
    cases hz
    exact ⟨dd1, dd2⟩
  · by_cases c : (X i).B.A.length = 16 ∧ (X i).st = 3
    · have hs' : s ∈ [ackF { X i with B := readA mx (X i).B }] := by
        have : s ∈ (if (X i).B.A.length = 16 ∧ (X i).st = 3 then [ackF { X i with B := readA mx (X i).B }] else []) := hs
        rw [if_pos c] at this
        exact this
      simp only [List.mem_singleton] at hs'
      subst hs'
      have hbl := hcs.B.len
      have as1 : AS gb y (ackF { X i with B := readA mx (X i).B }) := ack_any oob dd1 dd2 (.inl c.2) hbl
      have het : g.et = none := lv.ne4 (by omega)
      exact as1.inv (set_at hi) hj' hpair2 hti (.inl fun e he => (by have he' : g.et = some e := he; rw [het] at he'; cases he'))
    · have : s ∈ (if (X i).B.A.length = 16 ∧ (X i).st = 3 then [ackF { X i with B := readA mx (X i).B }] else []) := hs
      rw [if_neg c] at this
      cases this
theorem rst_out {e : LE} (n : Int) (h : Out T g i [rstF n] N) (he : e ∈ N) : e.t = T ∧ SegRst e := by
  obtain ⟨s, hs, rfl⟩ := h e he
  simp only [List.mem_singleton] at hs
  subst hs
  exact ⟨rfl, .inl rfl⟩
theorem nil_out {e : LE} {Q : Prop} (h : Out T g i [] N) (he : e ∈ N) : Q := by
  obtain ⟨s, hs, _⟩ := h e he
  cases hs
theorem out_nil (h : Out T g i [] N) : N = [] := by
  cases N with
  | nil => rfl
  | cons e N => exact nil_out h (List.mem_cons_self ..)
/-- Abort: the row ends, and not well. -/
theorem Inv.abort (h : Inv T tk G X Lg) (hi : G[i]? = some g) (hl : g.gone = false) (hti : tk i = true) (ho : Out T g i (abortF (X i)).G N) :
    ∃ g2, Inv T tk (G.set i g2) (updX X i (abortF (X i)).C) (Lg ++ N) ∧ Kq g g2 ∧ g2.gone = false ∧ (abortF (X i)).e = 0 ∧ (abortF (X i)).C.st = 4 ∧ (abortF (X i)).C.why ≠ 0 ∧ (g2.rc = g.rc ∧ g2.fa = g.fa ∧ g2.pf = g.pf) := by
  have lv := h.live i g hi hl
  have hnz := lv.nz
  have ti : tau T tk i = T := by unfold tau; rw [if_pos hti]
  have kq : ∀ e, Kq g { g with et := e } := fun e => ⟨⟨rfl, rfl, rfl, rfl, rfl, rfl, rfl⟩, rfl, rfl, rfl, rfl, rfl⟩
  unfold abortF at ho ⊢
  rw [if_neg hnz] at ho ⊢
  by_cases c4 : (X i).st = 4
  · rw [if_pos c4] at ho ⊢
    by_cases cw : (X i).why = 0
    · rw [if_pos cw] at ho ⊢
      obtain ⟨e, he, hq⟩ := lv.e4 c4
      rw [ti] at hq
      exact ⟨_, h.bad (why := 20) hi hl (fun k _ => rfl) hti (by decide) lv.ok.qt (.inr ⟨e, he, hq⟩) (fun e he => nil_out ho he), kq _, hl, rfl, rfl, by show (20 : Int) ≠ 0; decide, rfl, rfl, rfl⟩
    · rw [if_neg cw] at ho ⊢
      have := out_nil ho
      subst this
      rw [List.append_nil]
      exact ⟨g, by rw [set_self hi]; show Inv T tk G (updX X i (X i)) Lg; rw [updX_self]; exact h, Kq.refl g, hl, rfl, c4, cw, rfl, rfl, rfl⟩
  · rw [if_neg c4] at ho ⊢
    have het : g.et = none := lv.ne4 c4
    by_cases c1 : (X i).st = 1
    · rw [if_pos c1] at ho ⊢
      exact ⟨_, h.bad (why := 20) (q := 10) hi hl (fun k _ => rfl) hti (by decide) (by decide) (.inl ⟨het, rfl⟩) (fun e he => nil_out ho he), kq _, hl, rfl, rfl, by show (20 : Int) ≠ 0; decide, rfl, rfl, rfl⟩
    · rw [if_neg c1] at ho ⊢
      exact ⟨_, h.bad (why := 20) (q := 10) hi hl (fun k _ => rfl) hti (by decide) (by decide) (.inl ⟨het, rfl⟩) (fun e he => rst_out _ ho he), kq _, hl, rfl, rfl, by show (20 : Int) ≠ 0; decide, rfl, rfl, rfl⟩
/-- Close of an opening that the row began. -/
theorem Inv.close1 (h : Inv T tk G X Lg) (hi : G[i]? = some g) (hl : g.gone = false) (hti : tk i = true) (h1 : (X i).st = 1) (ho : Out T g i (closeF (X i)).G N) :
    ∃ g2, Inv T tk (G.set i g2) (updX X i (closeF (X i)).C) (Lg ++ N) ∧ Kq g g2 ∧ g2.gone = false ∧ (closeF (X i)).e = 0 ∧ (g2.rc = g.rc ∧ g2.fa = g.fa ∧ g2.pf = g.pf) := by
  have lv := h.live i g hi hl
  have het : g.et = none := lv.ne4 (by omega)
  unfold closeF at ho ⊢
  rw [if_neg (by omega), if_neg (by omega), if_pos h1] at ho ⊢
  exact ⟨_, h.bad (why := 20) (q := 10) hi hl (fun k _ => rfl) hti (by decide) (by decide) (.inl ⟨het, rfl⟩) (fun e he => nil_out ho he), ⟨⟨rfl, rfl, rfl, rfl, rfl, rfl, rfl⟩, rfl, rfl, rfl, rfl, rfl⟩, hl, rfl, rfl, rfl, rfl⟩
end
end Go.Proofs.Qxb6500424aGreat
