/-
  host: fair weather: what holds; where a datagram arrives.
-/
import Derived.Test.Qxb6500424aGreatHuB
set_option linter.unusedVariables false
set_option linter.unusedSimpArgs false
namespace Go.Proofs.Qxb6500424aGreat
def NoRs (M : Nat → List DG) : Prop := ∀ c, c < 3 → ∀ g ∈ M c, Fai g.s
def Wy (G : List GE) (X : Nat → CS) : Prop := ∀ (k : Nat) g, G[k]? = some g → g.gone = false → (X k).why = 0
/-- The ends that live are one client and its child. -/
def Cur (i : Nat) (G : List GE) : Prop := ∀ (k : Nat) g, G[k]? = some g → g.gone = false → (k = i ∧ g.cl = true) ∨ (g.cl = false ∧ g.pr = some i)
def NoSyn (T : Int) (M : Nat → List DG) (W : List FL) : Prop := ∀ f ∈ W, ∃ c n i g, FrOk T M f c n i g ∧ g.s.1.fl ≠ 1
def SA (T : Int) (M : Nat → List DG) (W : List FL) (g : GE) : Prop := ∃ q, Sn T M W q ∧ To g q ∧ q.2.s.1.fl = 3
def AK (T : Int) (M : Nat → List DG) (W : List FL) (g : GE) : Prop := ∃ q, Sn T M W q ∧ To g q ∧ AckT q.2.s
def HS1 (T : Int) (M : Nat → List DG) (W : List FL) (g : GE) (x : CS) : Prop := ∃ q, Sn T M W q ∧ To g q ∧ AckT q.2.s ∧ 0 ≤ ackD q.2.s.1.ak x ∧ ackD q.2.s.1.ak x ≤ flying x
def HF (T : Int) (M : Nat → List DG) (W : List FL) (g : GE) (x : CS) : Prop := x.fs = true ∧ ∃ q, Sn T M W q ∧ To g q ∧ AckT q.2.s ∧ q.2.s.1.ak = endN x
/-- The SYN alone is on the wire. -/
structure P1 (T : Int) (t : Nat → TC) (Wo Wn : List FL) (G : List GE) (X : Nat → CS) (M : Nat → List DG) (i : Nat) (g : GE) (f : FL) (n : Nat) (q : DG) (d : Nat) : Prop where
  at_ : G[i]? = some g
  gone : g.gone = false
  cl : g.cl = true
  st : (X i).st = 1
  rt : (X i).rt = 0
  tm : (X i).tm = 2
  wo : Wo = [f]
  wn : Wn = []
  fo : FrOk T M f g.h n 0 q
  fl : q.s.1.fl = 1
  one : (q.D g.h).length ≤ 16
  qd : q.d = g.rh
  sp : q.s.1.sp = g.lp
  dp : q.s.1.dp = g.rp
  d3 : d < 3
  rh : g.rh = (d : Int) + 1
  nd : d ≠ g.h
  all : ∀ (k : Nat) y, G[k]? = some y → y.gone = false → k = i
  lis : Sk.lisE (t d).K.E g.rp ≠ 0
structure Two (G : List GE) (i j : Nat) (g y : GE) : Prop where
  hi : G[i]? = some g
  hj : G[j]? = some y
  gi : g.gone = false
  gj : y.gone = false
  ci : g.cl = true
  cj : y.cl = false
  pr : y.pr = some i
/-- How far an opening is. -/
def OS (T : Int) (t : Nat → TC) (Wo Wn : List FL) (G : List GE) (X : Nat → CS) (M : Nat → List DG) (i : Nat) : Prop :=
  (NoSyn T M (Wo ++ Wn) ∧ ∀ (k : Nat) g, G[k]? = some g → g.gone = false → (X k).st ≠ 1 ∧ (X k).st ≠ 2) ∨
  (∃ g f n q d, P1 T t Wo Wn G X M i g f n q d) ∨
  (NoSyn T M (Wo ++ Wn) ∧ ∃ j g y, Two G i j g y ∧ (X i).st = 1 ∧ (X j).st = 2 ∧ (X i).rt = 0 ∧ (X j).rt = 0 ∧ ((SA T M Wo g ∧ 1 ≤ (X i).tm ∧ 1 ≤ (X j).tm) ∨ (SA T M Wn g ∧ 2 ≤ (X i).tm ∧ 2 ≤ (X j).tm))) ∨
  (NoSyn T M (Wo ++ Wn) ∧ ∃ j g y, Two G i j g y ∧ g.pr = some j ∧ (X i).st = 3 ∧ (X j).st = 2 ∧ 1 ≤ (X j).tm ∧ ((AK T M Wo y ∧ (X j).rt ≤ 1) ∨ (AK T M Wn y ∧ (X j).rt = 0)))
/-- The last fragment of a segment at the first number that is not acknowledged is on the wire. -/
def HasFlyF (T : Int) (M : Nat → List DG) (W : List FL) (y : GE) (x : CS) : Prop := ∃ f ∈ W, ∃ c n i g, FrOk T M f c n i g ∧ i + 1 = Ip.cntF (g.D c).length ∧ To y (c, g) ∧ Fly x g.s
/-- An open end's retries. -/
def Rp (b T : Int) (Wo Wn : List FL) (M : Nat → List DG) (g y : GE) (x : CS) : Prop :=
  x.rt = 0 ∨
  (x.rt = 1 ∧ (HS1 T M Wo g x ∨ (2 ≤ x.tm ∧ HS1 T M Wn g x) ∨ (x.tm = 4 ∧ b + 4 ≤ T ∧ HasFlyF T M Wo y x) ∨ (1 ≤ x.tm ∧ b + 4 ≤ T + x.tm ∧ T + x.tm < b + 8))) ∨
  (x.rt = 2 ∧ b + 4 ≤ T ∧ ((HS1 T M Wo g x ∧ T ≤ b + 8) ∨ (2 ≤ x.tm ∧ HS1 T M Wn g x ∧ T ≤ b + 7) ∨ (x.tm = 8 ∧ HasFlyF T M Wo y x ∧ T ≤ b + 7)))
def Fin1 (T : Int) (Wo Wn : List FL) (M : Nat → List DG) (g : GE) (x z : CS) : Prop :=
  z.pf = true → x.fa = false → (HF T M Wo g x ∧ (z.st = 4 → 9 ≤ z.qt)) ∨ (HF T M Wn g x ∧ (z.st = 4 → z.qt = 10))
def Prs (b T : Int) (Wo Wn : List FL) (G : List GE) (X : Nat → CS) (M : Nat → List DG) : Prop :=
  ∀ (i j : Nat) g y, G[i]? = some g → g.gone = false → (X i).st = 3 → G[j]? = some y → Pair i j g y → y.gone = false ∧ Rp b T Wo Wn M g y (X i) ∧ Fin1 T Wo Wn M g (X i) (X j)
/-- Both ends end within one tick. -/
def Qts (G : List GE) (X : Nat → CS) : Prop := ∀ (i j : Nat) g y, G[i]? = some g → g.gone = false → (X i).st = 4 → G[j]? = some y → Pair i j g y → (y.gone = true → (X i).qt ≤ 1) ∧ (y.gone = false → (X j).st = 4 → (X i).qt ≤ (X j).qt + 1)
structure FW (b T : Int) (t : Nat → TC) (Wo Wn : List FL) (G : List GE) (X : Nat → CS) (M : Nat → List DG) (i : Nat) : Prop where
  b0 : b ≤ T
  ag : Ages Wo Wn
  rs : NoRs M
  wy : Wy G X
  cur : Cur i G
  os : OS T t Wo Wn G X M i
  prs : Prs b T Wo Wn G X M
  qts : Qts G X
section
variable {b T T0 T1 : Int} {t t' : Nat → TC} {Wo Wn : List FL} {G G' : List GE} {X X' : Nat → CS} {M M' : Nat → List DG} {Lg Lg' : List LE} {i j k l c n d m : Nat} {g y g' y' : GE} {x z : CS} {f : FL} {q : DG} {H : Nat → HS}
theorem Sys.liv (sys : Sys T t G X Lg) (hk : G[k]? = some g) (hl : g.gone = false) : Live T G k g (X k) := sys.inv.live k g hk hl
/-- An end whose peer has ended will end at once. -/
theorem open_qt (sys : Sys T t G X Lg) (wy : Wy G X) (prs : Prs b T Wo Wn G X M) (hk : G[k]? = some g) (hl : g.gone = false) (h3 : (X k).st = 3) (hj : G[l]? = some y) (hp : Pair k l g y) (h4 : (X l).st = 4) : y.gone = false ∧ (X l).pf = true ∧ (X k).fa = false ∧ 9 ≤ (X l).qt := by
  obtain ⟨yl, _, fn⟩ := prs k l g y hk hl h3 hj hp
  have ly := sys.liv hj yl
  have hw := wy l y hj yl
  obtain ⟨_, _, zfa, zpf, _⟩ := ly.ok.good h4 hw
  have oo := sys.ooJ hk hj hp yl (.inr ⟨h4, hw⟩)
  have cn := sys.cnI hk hl h3 hj hp
  have gpf := (cn.d2.fa (by rw [← oo.fa]; exact zfa)).2.2
  have lv := sys.liv hk hl
  have xfa : (X k).fa = false := by
    cases q : (X k).fa with
    | false => rfl
    | true => exact absurd ⟨q, by rw [cn.oo.pf]; exact gpf⟩ (lv.ok.nofp h3)
  refine ⟨yl, zpf, xfa, ?_⟩
  rcases fn zpf xfa with ⟨_, w⟩ | ⟨_, w⟩
  · exact w h4
  · have := w h4; omega
theorem not_gone (h : TimeOk T g) {e : Int} (hn : NotB g e) (ht : T - 9 ≤ e) : g.gone = false := by
  cases q : g.gone with
  | false => rfl
  | true =>
    obtain ⟨e', h1, h2⟩ := h.gone q
    have := hn e' h1
    omega
/-- A child that opens has a client that lives. -/
theorem OS.client (h : OS T t Wo Wn G X M i) (cur : Cur i G) (hk : G[k]? = some y) (hl : y.gone = false) (h2 : (X k).st = 2) (hc : y.cl = false) : ∃ g, G[i]? = some g ∧ g.gone = false := by
  rcases h with ⟨_, h⟩ | ⟨g, f, n, q, d, p⟩ | ⟨_, j, g, y', tw, _⟩ | ⟨_, j, g, y', tw, _⟩
  · exact absurd h2 (h k y hk hl).2
  · exact ⟨g, p.at_, p.gone⟩
  · exact ⟨g, tw.hi, tw.gi⟩
  · exact ⟨g, tw.hi, tw.gi⟩
/-- Where a datagram arrives. -/
structure ArrS (G : List GE) (i m : Nat) (gm : GE) (q : DG) : Prop where
  cl : gm.cl = true
  fl : q.s.1.fl = 3
  D : q.s.2 = []
  mi : m = i
  ak : q.s.1.ak = sqAdd gm.iss 1
structure ArrA (T : Int) (G : List GE) (m : Nat) (gm : GE) (q : DG) (o : Nat) (x0 : GE) (a : Nat) : Prop where
  ak : AckT q.s
  at_ : G[o]? = some x0
  pair : Pair o m x0 gm
  num : q.s.1.ak = (gm.iss + 1 + (a : Int)) % 256
  rc : (a : Int) ≤ (x0.rc : Int) + b2i x0.pf
  dat : 0 < q.s.2.length ∨ q.s.1.fl = 6 → NotB x0 q.t
theorem FW.arrive (h : FW b T t Wo Wn G X M i) (sys : Sys T t G X Lg) (lk : ∀ c, c < 3 → LinkOk c T (H c) (M c) Lg) (hf : f ∈ Wo ++ Wn) (fo : FrOk T M f c n k q) :
    q.s.1.fl = 1 ∨ ∃ m gm, G[m]? = some gm ∧ gm.gone = false ∧ To gm (c, q) ∧ (ArrS G i m gm q ∨ ∃ o x0 a, ArrA T G m gm q o x0 a) := by
  have hag : f.fl = false ∧ f.age ≤ 1 := by
    rcases List.mem_append.1 hf with z | z
    · exact h.ag.o f z
    · have := h.ag.n f z; exact ⟨this.1, by omega⟩
  have hage := fo.age (by omega)
  have ha0 := fo.a0
  have hqm := List.mem_of_getElem? fo.at_
  obtain ⟨_, e, heL, et, ec, ed, es⟩ := (lk c fo.c3).ok q hqm
  have hrs := h.rs c fo.c3 q hqm
  have ends := sys.inv.ends
  obtain ⟨_, inv⟩ := sys.inv.seg e heL (by omega)
  rcases inv with s | ⟨g, s⟩ | ⟨y, g, p, s⟩ | ⟨x0, yy, jj, oo, a, s⟩
  · exfalso
    rw [SegRst, es] at s
    rcases hrs with z | z | z | z <;> omega
  · exact .inl (by rw [← es]; exact s.fl)
  · right
    have yl : y.gone = false := not_gone (ends.time e.o y s.at_) s.et (by omega)
    rcases h.cur e.o y s.at_ yl with ⟨_, z⟩ | ⟨_, z⟩
    · rw [s.cl] at z; cases z
    have hpi : p = i := by have := s.pr; rw [z] at this; cases this; rfl
    subst hpi
    obtain ⟨p2, g2, hg2, kd⟩ := ends.kid e.o y s.at_ s.cl
    have e2 : p2 = p := by have := kd.pr; rw [z] at this; cases this; rfl
    subst e2
    have eg : g2 = g := by have := s.ap; rw [hg2] at this; cases this; rfl
    subst eg
    have gl : g2.gone = false := by
      cases qg : g2.gone with
      | false => rfl
      | true =>
        exfalso
        have ly := sys.liv s.at_ yl
        have hst := ly.ok.st
        have hnz := ly.nz
        by_cases c2 : (X e.o).st = 2
        · obtain ⟨g3, hg3, hl3⟩ := h.os.client h.cur s.at_ yl c2 s.cl
          rw [hg2] at hg3
          cases hg3
          rw [qg] at hl3
          cases hl3
        have c1 : (X e.o).st ≠ 1 := fun q => by have := ly.s1 q; rw [s.cl] at this; cases this
        by_cases c3 : (X e.o).st = 3
        · obtain ⟨j2, y2, hj2, hp2, _⟩ := ly.s3 (.inl c3)
          have := hp2.pr
          rw [z] at this
          cases this
          rw [hg2] at hj2
          cases hj2
          have := (h.prs e.o p2 y g2 s.at_ yl c3 hg2 hp2).1
          rw [qg] at this
          cases this
        · have c4 : (X e.o).st = 4 := by omega
          obtain ⟨j2, y2, hj2, hp2, _⟩ := ly.s3 (.inr ⟨c4, h.wy e.o y s.at_ yl⟩)
          have := hp2.pr
          rw [z] at this
          cases this
          rw [hg2] at hj2
          cases hj2
          obtain ⟨ey, hey, hq⟩ := ly.e4 c4
          have a1 := (h.qts e.o p2 y g2 s.at_ yl c4 hg2 hp2).1 qg
          have a2 := s.et ey hey
          omega
    have src := s.src
    have mi := kd.mir
    refine ⟨p2, g2, hg2, gl, ⟨?_, ?_, ?_, ?_⟩, .inl ⟨kd.cl2, by rw [← es]; exact s.fl, by rw [← es]; exact s.D, rfl, by rw [← es]; exact s.ak⟩⟩
    · have a1 := src.rh; have a2 := mi.rh2; show q.d = _; rw [← ed, ← a1]; exact a2
    · have a1 := src.h; have a2 := mi.rh; show g2.rh = (c : Int) + 1; rw [← ec, ← a1]; exact a2
    · have a1 := src.lp; have a2 := mi.rp; show q.s.1.sp = _; rw [← es, ← a1]; exact a2.symm
    · have a1 := src.rp; have a2 := mi.lp; show q.s.1.dp = _; rw [← es, ← a1]; exact a2.symm
  · right
    have yl : yy.gone = false := by
      cases qg : yy.gone with
      | false => rfl
      | true =>
        exfalso
        obtain ⟨ey, h1, h2⟩ := (ends.time jj yy s.aj).gone qg
        rcases s.q with z | z
        · have xl : x0.gone = false := not_gone (ends.time e.o x0 s.at_) z (by omega)
          have lx := sys.liv s.at_ xl
          have hst := lx.ok.st
          have hnz := lx.nz
          by_cases c3 : (X e.o).st = 3
          · have := (h.prs e.o jj x0 yy s.at_ xl c3 s.aj s.pair).1
            rw [qg] at this
            cases this
          by_cases c4 : (X e.o).st = 4
          · obtain ⟨ex, hex, hq⟩ := lx.e4 c4
            have a1 := z ex hex
            have a2 := (h.qts e.o jj x0 yy s.at_ xl c4 s.aj s.pair).1 qg
            omega
          · have o12 : (X e.o).st = 1 ∨ (X e.o).st = 2 := by omega
            have ot := (lx.op o12).2.2.1
            rcases s.pair with ⟨xc, es2⟩ | ⟨xc, es2⟩
            · obtain ⟨o2, ho2, _⟩ := es2.ot
              rw [ot] at ho2
              cases ho2
            · have c2 : (X e.o).st = 2 := o12.resolve_left fun q => by have := lx.s1 q; rw [xc] at this; cases this
              obtain ⟨g3, hg3, hl3⟩ := h.os.client h.cur s.at_ xl c2 xc
              rcases h.cur e.o x0 s.at_ xl with ⟨_, w⟩ | ⟨_, w⟩
              · rw [xc] at w; cases w
              · have := es2.pr2
                rw [w] at this
                cases this
                rw [s.aj] at hg3
                cases hg3
                rw [qg] at hl3
                cases hl3
        · have a1 := z ey h1
          omega
    have src := s.src
    have mi := s.pair.mir
    refine ⟨jj, yy, s.aj, yl, ⟨?_, ?_, ?_, ?_⟩, .inr ⟨e.o, x0, a, ?_, s.at_, s.pair, by rw [← es]; exact s.ak, s.rc, fun z => ?_⟩⟩
    · have a1 := src.rh; have a2 := mi.rh; show q.d = _; rw [← ed, ← a1]; exact a2
    · have a1 := src.h; have a2 := mi.rh2; show yy.rh = (c : Int) + 1; rw [← ec, ← a1]; exact a2
    · have a1 := src.lp; have a2 := mi.lp; show q.s.1.sp = _; rw [← es, ← a1]; exact a2
    · have a1 := src.rp; have a2 := mi.rp; show q.s.1.dp = _; rw [← es, ← a1]; exact a2
    · rw [← es]; exact s.fl.imp id (fun z => z.1)
    · rw [← et]; exact (s.dat (by rw [es]; exact z)).2.2.2
/-! ### what steps keep -/
theorem Cur.step (h : Cur i G) (sys : Sys T t G X Lg) (tr : TrAll T1 G X G' X') (hlen : G'.length = G.length) : Cur i G' := fun k g' hk hl' => by
  have hi : k < G.length := by rw [← hlen]; exact (List.getElem?_eq_some_iff.1 hk).1
  have hg : G[k]? = some G[k] := List.getElem?_eq_getElem hi
  generalize G[k] = g at hg
  obtain ⟨z, hz, w⟩ := tr k g hg
  rw [hk] at hz
  cases hz
  rcases w with ⟨e, rfl⟩ | ⟨hl, w⟩
  · rw [hl'] at e; cases e
  rcases h k g hg hl with ⟨a, b⟩ | ⟨a, b⟩
  · exact .inl ⟨a, by rw [w.kp.cl]; exact b⟩
  · refine .inr ⟨by rw [w.kp.cl]; exact a, ?_⟩
    rcases w.how with ⟨e, _⟩ | ⟨s, _⟩ | ⟨_, e, _⟩
    · rw [e]; exact b
    · have := (sys.liv hg hl).s1 s; rw [a] at this; cases this
    · rw [e]; exact b
/-- The ends that live, one by one. -/
theorem TrAll.alive (tr : TrAll T1 G X G' X') (hlen : G'.length = G.length) (hk : G'[k]? = some g') (hl' : g'.gone = false) : ∃ g, G[k]? = some g ∧ g.gone = false ∧ Tr T1 G k g g' (X k) (X' k) := by
  have hi : k < G.length := by rw [← hlen]; exact (List.getElem?_eq_some_iff.1 hk).1
  have hg : G[k]? = some G[k] := List.getElem?_eq_getElem hi
  generalize G[k] = g at hg
  obtain ⟨z, hz, w⟩ := tr k g hg
  rw [hk] at hz
  cases hz
  rcases w with ⟨e, rfl⟩ | ⟨hl, w⟩
  · rw [hl'] at e; cases e
  exact ⟨g, hg, hl, w⟩
end
end Go.Proofs.Qxb6500424aGreat
