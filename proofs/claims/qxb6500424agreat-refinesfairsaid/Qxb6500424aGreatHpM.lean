/-
  host: the plain law of the network: three hosts; what one step does to the ends.
-/
import Derived.Test.Qxb6500424aGreatHpL
set_option linter.unusedVariables false
set_option linter.unusedSimpArgs false
namespace Go.Proofs.Qxb6500424aGreat
def allT : Nat → Bool := fun _ => true
structure Sys (T : Int) (t : Nat → TC) (G : List GE) (X : Nat → CS) (Lg : List LE) : Prop where
  T0 : 0 ≤ T
  inv : Inv T allT G X Lg
  tab : ∀ c, c < 3 → Tab c (t c) G X
  hlt : ∀ (i : Nat) g, G[i]? = some g → g.h < 3
def updH (t : Nat → TC) (c : Nat) (v : TC) : Nat → TC := fun k => if k = c then v else t k
theorem updH_at (t : Nat → TC) (c : Nat) (v : TC) : updH t c v c = v := by simp [updH]
theorem updH_ne {t : Nat → TC} {c k : Nat} {v : TC} (h : k ≠ c) : updH t c v k = t k := by unfold updH; rw [if_neg h]
/-- All that a host wanted to send is in the log. -/
def Cov (T : Int) (c : Nat) (O : List OutS) (N : List LE) : Prop := ∀ o ∈ O, ∃ e ∈ N, e.t = T ∧ e.c = c ∧ e.d = o.1 ∧ e.s = o.2
theorem Cov.nil (T : Int) (c : Nat) (N : List LE) : Cov T c [] N := fun o ho => by cases ho
theorem Cov.app {T : Int} {c : Nat} {O O' : List OutS} {N N' : List LE} (h : Cov T c O N) (h' : Cov T c O' N') : Cov T c (O ++ O') (N ++ N') := fun o ho => by
  rcases List.mem_append.1 ho with q | q
  · obtain ⟨e, he, r⟩ := h o q; exact ⟨e, List.mem_append.2 (.inl he), r⟩
  · obtain ⟨e, he, r⟩ := h' o q; exact ⟨e, List.mem_append.2 (.inr he), r⟩
/-- All of a row's segments, as entries of the log. -/
def leN (T : Int) (g : GE) (i : Nat) (L : List SegV) : List LE := L.map (stampE T g i)
theorem leN_out (T : Int) (g : GE) (i : Nat) (L : List SegV) : Out T g i L (leN T g i L) := fun e he => by
  obtain ⟨s, hs, rfl⟩ := List.mem_map.1 he
  exact ⟨s, hs, rfl⟩
theorem leN_cov {T : Int} {c : Nat} {t : TC} {G : List GE} {X : Nat → CS} {a : Sk.AE} {i : Nat} {g : GE} (r : RowOk c t G X a i g) (L : List SegV) : Cov T c (L.map (stampS a.1)) (leN T g i L) := fun o ho => by
  obtain ⟨s, hs, rfl⟩ := List.mem_map.1 ho
  refine ⟨stampE T g i s, List.mem_map.2 ⟨s, hs, rfl⟩, rfl, r.h, r.rh, ?_⟩
  unfold stampE stampS
  rw [r.lp, r.rp]
def May (x x' : CS) : Prop := (x'.st = x.st ∨ ((x.st = 1 ∨ x.st = 2) ∧ (x'.st = 3 ∨ x'.st = 4)) ∨ (x.st = 3 ∧ x'.st = 4)) ∧ (x.st = 4 → x'.why = x.why ∨ (x.why = 0 ∧ x'.why = 20))
theorem May.refl (x : CS) : May x x := ⟨.inl rfl, fun _ => .inl rfl⟩
/-- What one step does to one end. -/
structure Tr (T : Int) (G : List GE) (i : Nat) (g g2 : GE) (x x' : CS) : Prop where
  kp : Kp g g2
  may : g2.gone = false → May x x'
  go : g2.gone = true → x.st = 4 ∧ x'.st = 0 ∧ x.qt ≤ 1
  how : (g2.pr = g.pr ∧ g2.ot = g.ot ∧ (g2.gone = false → x'.st = 3 → x.st = 3)) ∨ (x.st = 1 ∧ x'.st = 3 ∧ g2.ot = some T ∧ ∃ j y, g2.pr = some j ∧ G[j]? = some y ∧ j ≠ i ∧ y.pr = some i ∧ y.cl = false ∧ Mirror g y ∧ (∀ (k : Nat) z, G[k]? = some z → SameT y z → k ≤ j)) ∨ (x.st = 2 ∧ g2.pr = g.pr ∧ g2.ot = some T ∧ x'.st = 3)
  frz : g2.gone = true ∨ x.st = 4 ∨ (x'.st = 4 ∧ x'.why ≠ 0) → g2.rc = g.rc ∧ g2.fa = g.fa ∧ g2.pf = g.pf
  pfm : x.st = 3 → x'.st = 3 → x.pf = true → x'.pf = true
  rcm : x.st = 3 → x'.st = 3 → g.R.length + x.B.A.length ≤ g2.R.length + x'.B.A.length
theorem Kp.refl (g : GE) : Kp g g := ⟨rfl, rfl, rfl, rfl, rfl, rfl, rfl⟩
theorem Tr.refl {T : Int} {G : List GE} {i : Nat} {g : GE} {x : CS} (h : g.gone = false) : Tr T G i g g x x := ⟨Kp.refl g, fun _ => May.refl x, fun q => (by rw [h] at q; cases q), .inl ⟨rfl, rfl, fun _ q => q⟩, fun _ => ⟨rfl, rfl, rfl⟩, fun _ _ q => q, fun _ _ => Nat.le_refl _⟩
/-- What one step does to all ends that were there. -/
def TrAll (T : Int) (G : List GE) (X : Nat → CS) (G' : List GE) (X' : Nat → CS) : Prop := ∀ (i : Nat) g, G[i]? = some g → ∃ g2, G'[i]? = some g2 ∧ ((g.gone = true ∧ g2 = g) ∨ (g.gone = false ∧ Tr T G i g g2 (X i) (X' i)))
theorem TrAll.refl (T : Int) (G : List GE) (X : Nat → CS) : TrAll T G X G X := fun i g hg => by
  cases q : g.gone with
  | true => exact ⟨g, hg, .inl ⟨rfl, rfl⟩⟩
  | false => exact ⟨g, hg, .inr ⟨rfl, Tr.refl q⟩⟩
/-- One end at most has moved, and it is one of host c. -/
def One (c : Nat) (G : List GE) (X X' : Nat → CS) : Prop := ∃ i : Nat, (∀ k, k ≠ i → X' k = X k) ∧ ∀ g, G[i]? = some g → g.h = c
theorem One.refl (c : Nat) (G : List GE) (X : Nat → CS) : One c G X X := ⟨G.length, fun _ _ => rfl, fun g hg => by rw [List.getElem?_eq_none (Nat.le_refl _)] at hg; cases hg⟩
theorem One.push (c : Nat) (G : List GE) (X : Nat → CS) (x' : CS) : One c G X (updX X G.length x') := ⟨G.length, fun k hk => by unfold updX; rw [if_neg hk], fun g hg => by rw [List.getElem?_eq_none (Nat.le_refl _)] at hg; cases hg⟩
/-- Nothing opens. -/
def Calm (G1 : List GE) (X X1 : Nat → CS) : Prop := ∀ (i : Nat) g, G1[i]? = some g → g.gone = false → (X1 i).st = 3 → (X i).st = 3
theorem Calm.set {G1 : List GE} {X X1 : Nat → CS} {i : Nat} {g g2 : GE} {x' : CS} (h : Calm G1 X X1) (hi : G1[i]? = some g) (hx : g2.gone = false → x'.st = 3 → (X i).st = 3) : Calm (G1.set i g2) X (updX X1 i x') := fun k y hy hg q => by
  rcases set_cases hi hy with ⟨e, rfl⟩ | ⟨e, hy'⟩
  · subst e
    rw [show updX X1 k x' k = x' by simp [updX]] at q
    exact hx hg q
  · rw [show updX X1 i x' k = X1 k by unfold updX; rw [if_neg e]] at q
    exact h k y hy' hg q
section
variable {T : Int} {t : Nat → TC} {G : List GE} {X : Nat → CS} {Lg N : List LE} {c i : Nat} {g g2 : GE} {x' : CS} {a : Sk.AE}
theorem TrAll.one (hi : G[i]? = some g) (hl : g.gone = false) (tr : Tr T G i g g2 (X i) x') : TrAll T G X (G.set i g2) (updX X i x') := fun k y hy => by
  by_cases q : k = i
  · subst q
    rw [hi] at hy
    cases hy
    exact ⟨g2, set_at hi, .inr ⟨hl, by rw [show updX X k x' k = x' by simp [updX]]; exact tr⟩⟩
  · rw [show updX X i x' k = X k by unfold updX; rw [if_neg q]]
    cases qg : y.gone with
    | true => exact ⟨y, by rw [set_ne q]; exact hy, .inl ⟨rfl, rfl⟩⟩
    | false => exact ⟨y, by rw [set_ne q]; exact hy, .inr ⟨rfl, Tr.refl qg⟩⟩
theorem TrAll.push (g : GE) (x' : CS) : TrAll T G X (G ++ [g]) (updX X G.length x') := fun k y hy => by
  have hk := (List.getElem?_eq_some_iff.1 hy).1
  rw [show updX X G.length x' k = X k by unfold updX; rw [if_neg (by omega)]]
  cases qg : y.gone with
  | true => exact ⟨y, get_app hy, .inl ⟨rfl, rfl⟩⟩
  | false => exact ⟨y, get_app hy, .inr ⟨rfl, Tr.refl qg⟩⟩
theorem Sys.rowOf (h : Sys T t G X Lg) (hc : c < 3) {sd : Int} (hg : Sk.getE (t c).K.E sd = some a) (hk : a.1.kind = 2) : a ∈ (t c).K.E ∧ a.1.sd = sd ∧ ∃ i g, RowOk c (t c) G X a i g := by
  have hm := List.mem_of_find?_eq_some hg
  have hs := List.find?_some hg
  simp only [decide_eq_true_eq] at hs
  exact ⟨hm, hs, (h.tab c hc).row a hm hk⟩
/-- One row of one host has moved on. -/
theorem Sys.one {v : TC} (h : Sys T t G X Lg) (hc : c < 3) (hi : G[i]? = some g) (hh : g.h = c) (kp : g2.h = g.h) (iv : Inv T allT (G.set i g2) (updX X i x') (Lg ++ N)) (tb : Tab c v (G.set i g2) (updX X i x')) : Sys T (updH t c v) (G.set i g2) (updX X i x') (Lg ++ N) := by
  refine ⟨h.T0, iv, fun k hk => ?_, fun k y hy => ?_⟩
  · by_cases q : k = c
    · subst q; rw [updH_at]; exact tb
    · rw [updH_ne q]
      exact (h.tab k hk).set_other hi (by rw [hh]; exact fun e => q e.symm) kp
  · rcases set_cases hi hy with ⟨_, rfl⟩ | ⟨_, hy'⟩
    · rw [kp]; exact h.hlt i g hi
    · exact h.hlt k y hy'
/-- A new end of one host. -/
theorem Sys.pushed {v : TC} (h : Sys T t G X Lg) (hc : c < 3) (hh : g.h = c) (iv : Inv T allT (G ++ [g]) (updX X G.length x') (Lg ++ N)) (tb : Tab c v (G ++ [g]) (updX X G.length x')) : Sys T (updH t c v) (G ++ [g]) (updX X G.length x') (Lg ++ N) := by
  refine ⟨h.T0, iv, fun k hk => ?_, fun k y hy => ?_⟩
  · by_cases q : k = c
    · subst q; rw [updH_at]; exact tb
    · rw [updH_ne q]
      exact (h.tab k hk).push_other (by rw [hh]; exact fun e => q e.symm)
  · rcases app_cases hy with ⟨_, rfl⟩ | ⟨_, hy'⟩
    · omega
    · exact h.hlt k y hy'
/-- Nothing of the ends moves; entries come. -/
theorem Sys.emit {v : TC} (h : Sys T t G X Lg) (hv : Tab c v G X) (hN : ∀ e ∈ N, e.t = T ∧ SegRst e) : Sys T (updH t c v) G X (Lg ++ N) :=
  ⟨h.T0, h.inv.emit fun e he => ⟨(hN e he).1, .inl (hN e he).2⟩, fun k hk => by
    by_cases q : k = c
    · subst q; rw [updH_at]; exact hv
    · rw [updH_ne q]; exact h.tab k hk, h.hlt⟩
theorem updH_same (t : Nat → TC) (c : Nat) : updH t c (t c) = t := by
  funext k
  unfold updH
  split
  · rename_i e; rw [e]
  · rfl
theorem tkk (k : Nat) : allT k = true := rfl
/-! ### a segment comes to a host -/
/-- What a step leaves. -/
structure After (T : Int) (t t' : Nat → TC) (G : List GE) (X : Nat → CS) (Lg : List LE) (c : Nat) (O : List OutS) (G' : List GE) (X' : Nat → CS) (N : List LE) : Prop where
  sys : Sys T t' G' X' (Lg ++ N)
  cov : Cov T c O N
  tr : TrAll T G X G' X'
theorem readyA_E {K : Sk.SkS} (hK : Sk.SkOk K) (ha : a ∈ K.E) (hp : a.1.par ≠ 0) (hr : a.1.rdy = false) : (Sk.readyA a.1.sd K).2 = { K with E := Sk.turnE a.1.sd (Sk.rdyG (K.tick + 1)) K.E, tick := K.tick + 1 } ∧ (Sk.readyA a.1.sd K).1 = 0 := by
  unfold Sk.readyA
  rw [Sk.getE_some hK.ei ha]
  show (if a.1.par = 0 then ((21, K) : Int × Sk.SkS) else if a.1.rdy = true then (13, K) else (0, { K with E := Sk.turnE a.1.sd (Sk.rdyG (K.tick + 1)) K.E, tick := K.tick + 1 })).2 = _ ∧ _
  rw [if_neg hp, if_neg (by rw [hr]; decide)]
  show _ ∧ (if a.1.par = 0 then ((21, K) : Int × Sk.SkS) else if a.1.rdy = true then (13, K) else (0, { K with E := Sk.turnE a.1.sd (Sk.rdyG (K.tick + 1)) K.E, tick := K.tick + 1 })).1 = 0
  rw [if_neg hp, if_neg (by rw [hr]; decide)]
  exact ⟨rfl, rfl⟩
theorem mem_turn {E : List Sk.AE} {sd : Int} {f : Sk.AE → Sk.AE} {b : Sk.AE} : b ∈ Sk.turnE sd f E ↔ ∃ b0 ∈ E, b = if b0.1.sd = sd then f b0 else b0 := by
  unfold Sk.turnE
  rw [List.mem_map]
  exact ⟨fun ⟨b0, h1, h2⟩ => ⟨b0, h1, h2.symm⟩, fun ⟨b0, h1, h2⟩ => ⟨b0, h1, h2.symm⟩⟩
/-- What a segment for host c did: to one row, or to none that stood. -/
def SegX (c : Nat) (u : TC) (G : List GE) (X X' : Nat → CS) (src : Int) (s : SegV) (O : List OutS) : Prop :=
  (∃ a i g, a ∈ u.K.E ∧ a.1.kind = 2 ∧ RowOk c u G X a i g ∧ g.lp = s.1.dp ∧ g.rh = src ∧ g.rp = s.1.sp ∧ X' = updX X i (inputF s.1 s.2 (X i)).1 ∧ O = (inputF s.1 s.2 (X i)).2.map (stampS a.1)) ∨
  (Sk.lookE u.K.E s.1.dp src s.1.sp = 0 ∧ (∀ k, k < G.length → X' k = X k) ∧ ∀ o ∈ O, o.2.1.fl = 3 ∨ o.2.1.fl = 8 ∨ o.2.1.fl = 10)
theorem Sys.toRow {e : LE} {sd : Int} (h : Sys T t G X Lg) (hc : c < 3) (hem : e ∈ Lg) (ht : T - 4 ≤ e.t) (hd : e.d = (c : Int) + 1) (hlk : Sk.lookE (t c).K.E e.s.1.dp ((e.c : Int) + 1) e.s.1.sp = sd) (hsd : sd ≠ 0) :
    ∃ G' X' N, After T t (updH t c (toRowT sd e.s (t c)).1) G X Lg c (toRowT sd e.s (t c)).2 G' X' N ∧ G'.length = G.length ∧ (∀ (i : Nat) g g2, G[i]? = some g → G'[i]? = some g2 → g2.S = g.S ∧ g2.R = g.R ∧ g2.wc = g.wc) ∧ One c G X X' ∧ SegX c (t c) G X X' ((e.c : Int) + 1) e.s (toRowT sd e.s (t c)).2 := by
  have tb := h.tab c hc
  -- the row
  obtain ⟨a, ham, hap⟩ : ∃ a ∈ (t c).K.E, Sk.lookP e.s.1.dp ((e.c : Int) + 1) e.s.1.sp a = true := by
    apply Classical.byContradiction
    intro hn
    have := Sk.lookE_none (E := (t c).K.E) (lp := e.s.1.dp) (rh := (e.c : Int) + 1) (rp := e.s.1.sp) (fun a ha hp => hn ⟨a, ha, hp⟩)
    rw [hlk] at this
    exact hsd this
  have hsda : sd = a.1.sd := by rw [← hlk]; exact Sk.lookE_some tb.sk.ei ham hap
  subst hsda
  obtain ⟨hka, q1, q2, q3⟩ := Sk.lookP_iff.1 hap
  obtain ⟨i, g, r⟩ := tb.row a ham hka
  have hat : At g e := ⟨by rw [r.h]; exact hd, by rw [r.rh]; exact q2, by rw [r.rp]; exact q3.symm, by rw [r.lp]; exact q1.symm⟩
  have hget := Sk.getE_some tb.sk.ei ham
  have hto : toRowT a.1.sd e.s (t c) = (⟨if a.1.par ≠ 0 ∧ a.1.rdy = false ∧ (inputF e.s.1 e.s.2 ((t c).C (slotN a))).1.st = 3 then (Sk.readyA a.1.sd (t c).K).2 else (t c).K, updX (t c).C (slotN a) (inputF e.s.1 e.s.2 ((t c).C (slotN a))).1⟩, (inputF e.s.1 e.s.2 ((t c).C (slotN a))).2.map (stampS a.1)) := by
    unfold toRowT
    rw [hget]
  rw [hto, r.C]
  obtain ⟨g2, iv, res⟩ := h.inv.input r.at_ r.gone (tkk i) hem ht hat (leN_out T g i (inputF e.s.1 e.s.2 (X i)).2)
  have lv := h.inv.live i g r.at_ r.gone
  have lv2 := iv.live i g2 (set_at r.at_) res.gone
  rw [show updX X i (inputF e.s.1 e.s.2 (X i)).1 i = (inputF e.s.1 e.s.2 (X i)).1 by simp [updX]] at lv2
  have hrdy : a.1.par ≠ 0 → (a.1.rdy = true ↔ g.ot.isSome = true) := r.rdy
  -- what the row shows: it is ready just if it has opened
  have hbl : Tab c ⟨if a.1.par ≠ 0 ∧ a.1.rdy = false ∧ (inputF e.s.1 e.s.2 (X i)).1.st = 3 then (Sk.readyA a.1.sd (t c).K).2 else (t c).K, updX (t c).C (slotN a) (inputF e.s.1 e.s.2 (X i)).1⟩ (G.set i g2) (updX X i (inputF e.s.1 e.s.2 (X i)).1) := by
    by_cases cr : a.1.par ≠ 0 ∧ a.1.rdy = false ∧ (inputF e.s.1 e.s.2 (X i)).1.st = 3
    · rw [if_pos cr]
      obtain ⟨eR, _⟩ := readyA_E tb.sk ham cr.1 cr.2.1
      have hsk := Sk.readyA_ok tb.sk a.1.sd
      rw [eR] at hsk ⊢
      have ot2 : g2.ot.isSome = true := by
        obtain ⟨j, y, _, _, _, o, ho⟩ := lv2.s3 (.inl cr.2.2)
        rw [ho]; rfl
      refine tb.change (a' := Sk.rdyG ((t c).K.tick + 1) a) ham hka r res.toKp res.gone hsk rfl rfl (fun b hb => ?_) (mem_turn.2 ⟨a, ham, by rw [if_pos rfl]⟩) (fun b hb hne => mem_turn.2 ⟨b, hb, by rw [if_neg hne]⟩) (fun q => r.par (by rw [← res.cl]; exact q)) (fun _ => ⟨fun _ => ot2, fun _ => rfl⟩) (fun _ => cr.1)
      obtain ⟨b0, hb0, e0⟩ := mem_turn.1 hb
      by_cases qs : b0.1.sd = a.1.sd
      · rw [if_pos qs] at e0
        rw [tb.sk.ei.uniq hb0 ham qs] at e0
        exact .inl e0
      · rw [if_neg qs] at e0
        subst e0
        exact .inr ⟨hb0, qs⟩
    · rw [if_neg cr]
      refine tb.own ham hka r res.toKp res.gone (fun hp => ?_) (fun q => ?_)
      · rw [hrdy hp]
        rcases res.how with ⟨_, ho, _⟩ | ⟨s1, _⟩ | ⟨s2, _, ho, s3⟩
        · rw [ho]
        · have := r.par (lv.s1 s1); exact absurd this hp
        · -- it has opened: so it was ready
          have hn : g.ot = none := (lv.op (.inr s2)).2.2.1
          rw [hn, ho]
          exfalso
          have hr : a.1.rdy = false := by
            cases e0 : a.1.rdy with
            | false => rfl
            | true => have := (hrdy hp).1 e0; rw [hn] at this; cases this
          apply cr
          refine ⟨hp, hr, ?_⟩
          exact s3
      · rcases res.st with z | z | ⟨_, z⟩
        · rw [← z]; exact q
        · rw [q] at z; cases z
        · rw [q] at z; cases z
  refine ⟨G.set i g2, updX X i (inputF e.s.1 e.s.2 (X i)).1, leN T g i (inputF e.s.1 e.s.2 (X i)).2, ⟨h.one hc r.at_ r.h res.h iv hbl, leN_cov r _, TrAll.one r.at_ r.gone ⟨res.toKp, fun _ => ⟨?_, fun q => ?_⟩, fun q => (by rw [res.gone] at q; cases q), ?_, fun q => (by rcases q with q | q; rw [res.gone] at q; cases q; exact res.frz q), fun q1 q2 q3 => (input_B (s := e.s) q1 (.inl q2) lv.ok).2 q3, fun q1 q2 => (by rw [res.R]; have := (input_B (s := e.s) q1 (.inl q2) lv.ok).1; omega)⟩⟩, by simp, fun k y y2 hy hy2 => ?_, ⟨i, fun k hk => by unfold updX; rw [if_neg hk], fun g' hg' => by rw [r.at_] at hg'; cases hg'; exact r.h⟩, .inl ⟨a, i, g, ham, hka, r, hat.dp.symm, hat.c, hat.sp.symm, rfl, rfl⟩⟩
  · rcases res.st with z | z | ⟨z1, z⟩
    · exact .inl z
    · have hst := lv.ok.st
      have hnz := lv.nz
      by_cases c4 : (X i).st = 4
      · exact .inl (by rw [z, c4])
      · by_cases c3 : (X i).st = 3
        · exact .inr (.inr ⟨c3, z⟩)
        · exact .inr (.inl ⟨by omega, .inr z⟩)
    · exact .inr (.inl ⟨z1, .inl z⟩)
  · rw [res.st4 q]; exact .inl rfl
  · rcases res.how with ⟨z1, z2, z3⟩ | z | z
    · exact .inl ⟨z1, z2, fun _ => z3⟩
    · exact .inr (.inl z)
    · exact .inr (.inr z)
  · rcases set_cases r.at_ hy2 with ⟨qk, rfl⟩ | ⟨qk, hy'⟩
    · subst qk
      rw [r.at_] at hy
      cases hy
      exact ⟨res.S, res.R, res.wc⟩
    · rw [hy] at hy'
      cases hy'
      exact ⟨rfl, rfl, rfl⟩
end
end Go.Proofs.Qxb6500424aGreat
