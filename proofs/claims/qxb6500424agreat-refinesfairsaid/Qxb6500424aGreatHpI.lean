/-
  host: the plain law of the network: a segment comes to a row.
-/
import Derived.Test.Qxb6500424aGreatHpH
set_option linter.unusedVariables false
set_option linter.unusedSimpArgs false
namespace Go.Proofs.Qxb6500424aGreat
/-- The segment comes to the end's row. -/
structure At (g : GE) (e : LE) : Prop where
  d : e.d = (g.h : Int) + 1
  c : g.rh = (e.c : Int) + 1
  sp : e.s.1.sp = g.rp
  dp : e.s.1.dp = g.lp
theorem sqAdd0 {x : Int} (h : 0 ≤ x ∧ x < 256) : sqAdd x 0 = x := by unfold sqAdd; omega
/-- What a row does to a segment, and what is known of it behind. -/
structure InRes (T : Int) (G : List GE) (i : Nat) (g g2 : GE) (x x' : CS) : Prop extends Kp g g2 where
  S : g2.S = g.S
  R : g2.R = g.R
  wc : g2.wc = g.wc
  gone : g2.gone = false
  how : (g2.pr = g.pr ∧ g2.ot = g.ot ∧ (x'.st = 3 → x.st = 3)) ∨ (x.st = 1 ∧ x'.st = 3 ∧ g2.ot = some T ∧ ∃ j y, g2.pr = some j ∧ G[j]? = some y ∧ j ≠ i ∧ y.pr = some i ∧ y.cl = false ∧ Mirror g y ∧ (∀ (k : Nat) z, G[k]? = some z → SameT y z → k ≤ j)) ∨ (x.st = 2 ∧ g2.pr = g.pr ∧ g2.ot = some T ∧ x'.st = 3)
  st : x'.st = x.st ∨ x'.st = 4 ∨ ((x.st = 1 ∨ x.st = 2) ∧ x'.st = 3)
  st4 : x.st = 4 → x' = x
  frz : x.st = 4 ∨ (x'.st = 4 ∧ x'.why ≠ 0) → g2.rc = g.rc ∧ g2.fa = g.fa ∧ g2.pf = g.pf
section
variable {T dp : Int} {tk tk' : Nat → Bool} {G : List GE} {X : Nat → CS} {Lg N : List LE} {i j jj o a : Nat} {g y g' g1 g2 x0 yy : GE} {x x' : CS} {L : List SegV} {e : LE}
theorem From.mir (hf : From x0 e) (ha : At g e) : Mirror x0 g := by
  have a1 := hf.h; have a2 := hf.lp; have a3 := hf.rp; have a4 := hf.rh; have b1 := ha.d; have b2 := ha.c; have b3 := ha.sp; have b4 := ha.dp
  exact ⟨by omega, by rw [a1]; exact b2, by rw [a2]; exact b3, by rw [a3]; exact b4⟩
/-- Whose segment it is. -/
theorem Inv.who (h : Inv T tk G X Lg) (hi : G[i]? = some g) (hl : g.gone = false) (hc : g.cl = true → ∃ j2, g.pr = some j2) (hs : SegA (tau T tk) G e x0 yy jj o a) (ht : T - 4 ≤ e.t) (hat : At g e) : Pair e.o i x0 g ∧ jj = i ∧ yy = g := by
  have hm := hs.src.mir hat
  have hE := h.ends
  have r0 := hE.roles e.o x0 hs.at_
  have rg := hE.roles i g hi
  have ry := hE.roles jj yy hs.aj
  have hrole : g.cl = !x0.cl := by
    rcases hs.pair with ⟨c, es⟩ | ⟨c, es⟩
    · rw [c]
      cases hg : g.cl with
      | false => rfl
      | true =>
        have := rg.1 hg
        have := ry.2 es.cl2
        have := es.mir.rp
        have := hm.rp
        omega
    · rw [c]
      cases hg : g.cl with
      | true => rfl
      | false =>
        have := rg.2 hg
        have := ry.1 es.cl
        have := es.mir.lp
        have := hm.rp
        omega
  have k := peer_only hE hs.at_ hs.aj hs.pair ht hs.q hi hm hl hrole hc
  subst k
  have : yy = g := by have := hs.aj; rw [hi] at this; cases this; rfl
  subst this
  exact ⟨hs.pair, rfl, rfl⟩
theorem Pair.symm (h : Pair i j g y) : Pair j i y g := by
  rcases h with ⟨c, es⟩ | ⟨c, es⟩
  · exact .inr ⟨es.cl2, es⟩
  · exact .inl ⟨es.cl, es⟩
/-- The row stays as it is. -/
theorem Inv.inSame (h : Inv T tk G X Lg) (hi : G[i]? = some g) (hl : g.gone = false) (hN : ∀ e ∈ N, e.t = T ∧ SegInv (tau T tk) G e) : ∃ g2, Inv T tk (G.set i g2) (updX X i (X i)) (Lg ++ N) ∧ InRes T G i g g2 (X i) (X i) :=
  ⟨g, by rw [set_self hi, updX_self]; exact h.emit hN, ⟨⟨rfl, rfl, rfl, rfl, rfl, rfl, rfl⟩, rfl, rfl, rfl, hl, .inl ⟨rfl, rfl, fun q => q⟩, .inl rfl, fun _ => rfl, fun _ => ⟨rfl, rfl, rfl⟩⟩⟩
theorem Inv.inFail {why : Int} (h : Inv T tk G X Lg) (hi : G[i]? = some g) (hl : g.gone = false) (hti : tk i = true) (h4 : (X i).st ≠ 4) (hw : why ≠ 0) (ho : Out T g i [] N) : ∃ g2, Inv T tk (G.set i g2) (updX X i (failF why)) (Lg ++ N) ∧ InRes T G i g g2 (X i) (failF why) := by
  have lv := h.live i g hi hl
  have het : g.et = none := lv.ne4 h4
  exact ⟨_, h.bad (q := 10) hi hl (fun k _ => rfl) hti hw (by decide) (.inl ⟨het, rfl⟩) (fun e he => nil_out ho he), ⟨⟨rfl, rfl, rfl, rfl, rfl, rfl, rfl⟩, rfl, rfl, rfl, hl, .inl ⟨rfl, rfl, fun q => by cases q⟩, .inr (.inl rfl), fun q => absurd q h4, fun _ => ⟨rfl, rfl, rfl⟩⟩⟩
theorem ack_inv (h : Inv T tk G X Lg) (hi : G[i]? = some g) (hl : g.gone = false) (hti : tk i = true) (h3 : (X i).st = 3) : SegInv (tau T tk) G (stampE T g i (ackF (X i))) := by
  obtain ⟨j, y, hj, hp, cn, o0, hot⟩ := h.cn hi hl h3
  have het : g.et = none := (h.live i g hi hl).ne4 (by omega)
  exact cn.ack.inv hi hj hp hti (.inl fun e he => (by rw [het] at he; cases he))
/-! ### a row in its quiet time -/
theorem Inv.inQuiet {s : SegV} (h : Inv T tk G X Lg) (hi : G[i]? = some g) (hl : g.gone = false) (hti : tk i = true) (h4 : (X i).st = 4) (hem : e ∈ Lg) (ht : T - 4 ≤ e.t) (hat : At g e) (ho : Out T g i (inputF e.s.1 e.s.2 (X i)).2 N) :
    ∃ g2, Inv T tk (G.set i g2) (updX X i (inputF e.s.1 e.s.2 (X i)).1) (Lg ++ N) ∧ InRes T G i g g2 (X i) (inputF e.s.1 e.s.2 (X i)).1 := by
  have lv := h.live i g hi hl
  obtain ⟨tle, inv⟩ := h.seg e hem ht
  unfold inputF at ho ⊢
  rw [if_pos h4] at ho ⊢
  have e1 : (quietF (fAnd e.s.1.fl 15) e.s.2 (X i)).1 = X i := by unfold quietF; split <;> rfl
  rw [e1]
  refine h.inSame hi hl (ho.inv fun s hs => ?_)
  unfold quietF at hs
  split at hs
  rotate_left
  · cases hs
  rename_i q
  obtain ⟨q1, q2, q3⟩ := q
  simp only [List.mem_singleton] at hs
  subst hs
  obtain ⟨j, y, hj, hp, oo, o0, hot⟩ := lv.s3 (.inr ⟨h4, q1⟩)
  have hdat : ∀ {fl : Int}, e.s.1.fl = fl → fAnd (fAnd fl 15) 4 = 0 → e.s.2 = [] → False := fun {fl} hf hz hD => by
    rw [hf, hD] at q3
    rcases q3 with z | z
    · exact z hz
    · simp at z
  rcases inv with s | ⟨x0, s⟩ | ⟨x0, q0, p, s⟩ | ⟨x0, yy, jj, o, a, s⟩
  · exfalso
    rcases s with s | s
    · rw [s] at q2; exact absurd q2 (by decide)
    · rw [s] at q2; exact absurd q2 (by decide)
  · exact (hdat s.fl (by decide) s.D).elim
  · exact (hdat s.fl (by decide) s.D).elim
  · have hc : g.cl = true → ∃ j2, g.pr = some j2 := fun c => by
      rcases hp with ⟨_, es⟩ | ⟨c2, es⟩
      · exact ⟨j, es.pr⟩
      · rw [c] at c2; cases c2
    obtain ⟨pp, e1, e2⟩ := h.who hi hl hc s ht hat
    have ej : j = e.o := pp.symm.uniq hp
    subst ej
    have : x0 = y := by have := s.at_; rw [hj] at this; cases this; rfl
    subst this
    have hd : 0 < e.s.2.length ∨ e.s.1.fl = 6 := by
      rcases s.fl with f | f
      · refine .inl ?_
        rw [f] at q3
        rcases q3 with z | z
        · exact absurd (show fAnd (fAnd 2 15) 4 = 0 by decide) z
        · exact z
      · exact .inr f.1
    have nb := (s.dat hd).2.2.2
    exact (ack_any oo hp.dir.1 hp.dir.2 (.inr h4) lv.ok.B.len).inv hi hj hp hti (.inr ⟨fun e' he' => (by have := nb e' he'; omega), rfl, rfl⟩)
/-! ### the flags -/
theorem f1 : fAnd 1 15 = 1 ∧ fAnd 1 8 = 0 ∧ fAnd 1 1 ≠ 0 ∧ fAnd 1 2 = 0 := by decide
theorem f3 : fAnd 3 15 = 3 ∧ fAnd 3 8 = 0 ∧ fAnd 3 1 ≠ 0 ∧ fAnd 3 2 ≠ 0 := by decide
theorem f2 : fAnd 2 15 = 2 ∧ fAnd 2 8 = 0 ∧ fAnd 2 1 = 0 ∧ fAnd 2 2 ≠ 0 ∧ fAnd 2 4 = 0 := by decide
theorem f6 : fAnd 6 15 = 6 ∧ fAnd 6 8 = 0 ∧ fAnd 6 1 = 0 ∧ fAnd 6 2 ≠ 0 ∧ fAnd 6 4 ≠ 0 := by decide
theorem f8 : fAnd 8 15 = 8 ∧ fAnd 8 8 ≠ 0 ∧ fAnd 8 2 = 0 := by decide
theorem f10 : fAnd 10 15 = 10 ∧ fAnd 10 8 ≠ 0 ∧ fAnd 10 2 ≠ 0 := by decide
/-! ### a row that has sent its SYN -/
theorem Inv.open1 {q0 : GE} {p : Nat} (h : Inv T tk G X Lg) (hi : G[i]? = some g) (hl : g.gone = false) (hti : tk i = true) (h1 : (X i).st = 1) (ht : T - 4 ≤ e.t) (hle : e.t ≤ T) (hat : At g e) (s : SegSA G e y q0 p) (hak : e.s.1.ak = sqAdd (X i).iss 1) {wn : Int}
    (hok : CsOk { openedF (X i) with B := resetR (sqAdd e.s.1.sq 1), pw := windowF wn }) (ho : Out T g i [ackF { openedF (X i) with B := resetR (sqAdd e.s.1.sq 1), pw := windowF wn }] N) :
    ∃ g2, Inv T tk (G.set i g2) (updX X i { openedF (X i) with B := resetR (sqAdd e.s.1.sq 1), pw := windowF wn }) (Lg ++ N) ∧ InRes T G i g g2 (X i) { openedF (X i) with B := resetR (sqAdd e.s.1.sq 1), pw := windowF wn } := by
  have lv := h.live i g hi hl
  obtain ⟨o1, o2, o3, o4, o5⟩ := lv.op (.inl h1)
  have hcl := lv.s1 h1
  have het : g.et = none := lv.ne4 (by omega)
  have hm := s.src.mir hat
  have htg := h.ends.time i g hi
  have hty := h.ends.time e.o y s.at_
  have htq := h.ends.time p q0 s.ap
  have b1 := iss_bd htg
  have b2 := iss_bd htq
  have b3 := iss_bd hty
  have hiss : q0.iss = g.iss := by
    have := s.ak
    rw [hak, o1] at this
    unfold sqAdd at this
    omega
  obtain ⟨hpi, hyoung⟩ := synack_peer h.ends hi hcl hl s.at_ s.cl hm.symm s.pr s.ap hiss ht s.bt.2 s.et
  subst hpi
  have hgpr : g.pr = none := by
    cases hg : g.pr with
    | none => rfl
    | some j =>
      obtain ⟨z, hz, es⟩ := h.ends.est p g hi hcl j hg
      obtain ⟨o, ho, _⟩ := es.ot
      rw [o3] at ho
      cases ho
  have hyot : y.ot = none := by
    cases hg : y.ot with
    | none => rfl
    | some o =>
      obtain ⟨k, z, hz, es⟩ := h.ends.kot e.o y s.at_ s.cl o hg
      have := es.pr2
      rw [s.pr] at this
      cases this
      rw [hi] at hz
      cases hz
      have := es.pr
      rw [hgpr] at this
      cases this
  have zg := h.zero p g hi o3
  have zy := h.zero e.o y s.at_ hyot
  have hne : e.o ≠ p := fun q => by
    have := s.at_
    rw [q, hi] at this
    cases this
    have := s.cl
    rw [hcl] at this
    cases this
  let g2 : GE := { g with pr := some e.o, ot := some T }
  have ev : Evo T (12 * (tau T tk p - tau T tk p)) g g2 := ⟨rfl, rfl, rfl, rfl, rfl, rfl, rfl, rfl, fun j hj => (by rw [hgpr] at hj; cases hj), ⟨[], by simp [g2]⟩, Nat.le_refl _, Int.le_refl _, fun q => ⟨q, rfl⟩, fun e he => he, fun hn e he => (by have he' : g.et = some e := he; rw [hn] at he'; cases he'), fun o ho => (by rw [o3] at ho; cases ho), fun hn o ho => (by have ho' : some T = some o := ho; cases ho'; omega), by show g.pot ≤ g.pot + 12 * (tau T tk p - tau T tk p); omega, hl⟩
  have bz : b2i false = 0 := rfl
  have dz : ∀ {u v : GE}, u.S = [] → u.ua = 0 → u.nx = 0 → u.fs = false → u.fa = false → (0 ≤ u.pot ∧ u.pot ≤ 12) → v.rc = 0 → v.pf = false → Dir u v := fun {u v} z1 z2 z3 z4 z5 z6 z7 z8 =>
    ⟨by rw [z1, z2, z3]; simp, fun q => (by rw [z4] at q; cases q), fun q => (by rw [z5] at q; cases q), by rw [z2, z3, z7]; simp, fun q => (by rw [z8] at q; cases q), by rw [z3, z4, bz]; push_cast; omega⟩
  have dd1 : Dir g2 y := dz zg.S zg.n.1 zg.n.2.1 zg.f.1 zg.f.2.1 zg.pot zy.n.2.2 zy.f.2.2.1
  have dd2 : Dir y g2 := dz zy.S zy.n.1 zy.n.2.1 zy.f.1 zy.f.2.1 zy.pot zg.n.2.2 zg.f.2.2.1
  have hybt := s.bt
  have es2 : Est g2 y p e.o := ⟨hcl, s.cl, rfl, s.pr, ev.mir hm.symm, dd1, dd2, T, rfl, by omega, fun e' he' => by have := s.et e' he'; omega⟩
  have hpair2 : Pair p e.o g2 y := .inl ⟨hcl, es2⟩
  have hj' : (G.set p g2)[e.o]? = some y := by rw [set_ne hne]; exact s.at_
  have ti : tau T tk p = T := by unfold tau; rw [if_pos hti]
  have hx3 : ({ openedF (X p) with B := resetR (sqAdd e.s.1.sq 1), pw := windowF wn } : CS).st = 3 := rfl
  obtain ⟨w1, w2, w3, w4, w5⟩ := lv.ok.opening (.inl h1)
  have oob : OpenOk g2 y { openedF (X p) with B := resetR (sqAdd e.s.1.sq 1), pw := windowF wn } := by
    refine ⟨?_, ?_, ?_, ?_, ?_, ?_, ?_, ?_, ?_, fun d v hv => (by cases hv), fun _ => ?_⟩
    · show sqAdd (sqAdd (X p).iss 1) 0 = (g.iss + 1 + (g.ua : Int)) % 256
      rw [o1, zg.n.1]
      unfold sqAdd
      push_cast
      omega
    · show [] = g.S.drop g.ua
      rw [zg.S]; simp
    · show g.ua + 0 = g.nx
      rw [zg.n.1, zg.n.2.1]
    · show (X p).fs = g.fs
      rw [w3, zg.f.1]
    · show (X p).fa = g.fa
      rw [w4, zg.f.2.1]
    · show (X p).pf = g.pf
      rw [w5, zg.f.2.2.1]
    · show (X p).wc = g.wc
      rw [o5, zg.f.2.2.2]
    · show sqAdd (sqAdd e.s.1.sq 1) 0 = (y.iss + 1 + (g.rc : Int)) % 256
      rw [s.sq, zg.n.2.2]
      unfold sqAdd
      push_cast
      omega
    · show g.R ++ [] = y.S.take g.rc
      rw [zg.R, zg.n.2.2]; simp
    · show g.pot = (g.nx : Int) + b2i g.fs + (X p).cr
      rw [zg.n.2.1, zg.f.1, bz, o4]
      push_cast
      omega
  refine ⟨g2, h.step hi ev rfl (fun k _ => rfl) ⟨htg.bt, htg.iss, htg.et, fun o ho => ?_, htg.gone⟩ (fun q => (by cases q)) (fun _ => ⟨hok, by rw [hx3]; decide, fun q => (by cases q), fun _ => het, fun q => (by rcases q with q | q <;> cases q), fun q => (by cases q), fun q => (by cases q), fun _ => ⟨e.o, y, hj', hpair2, oob, T, rfl⟩⟩) (fun k z hz hpz => ?_) (.inr ⟨hcl, hgpr, e.o, y, rfl, s.at_, es2⟩) (fun c o ho => ⟨e.o, rfl⟩) (fun c => (by rw [hcl] at c; cases c)) (ho.inv fun s' hs' => ?_), ⟨⟨rfl, rfl, rfl, rfl, rfl, rfl, rfl⟩, rfl, rfl, rfl, hl, .inr (.inl ⟨h1, rfl, rfl, e.o, y, rfl, s.at_, hne, s.pr, s.cl, hm.symm, hyoung⟩), .inr (.inr ⟨.inl h1, rfl⟩), fun q => by omega, fun q => (by rcases q with q | ⟨q, _⟩; omega; cases q)⟩⟩
  · have ho' : some T = some o := ho
    cases ho'
    have := htg.bt
    exact ⟨this.2, by omega, fun e' he' => (by have he2 : g.et = some e' := he'; rw [het] at he2; cases he2)⟩
  · exfalso
    rcases hpz with ⟨c, es⟩ | ⟨c, es⟩
    · have := es.pr; rw [hgpr] at this; cases this
    · rw [hcl] at c; cases c
  · simp only [List.mem_singleton] at hs'
    subst hs'
    exact (ack_any oob dd1 dd2 (.inl hx3) hok.B.len).inv (set_at hi) hj' hpair2 hti (.inl fun e' he' => (by have he2 : g.et = some e' := he'; rw [het] at he2; cases he2))
end
end Go.Proofs.Qxb6500424aGreat
