/-
  hostlaw: Look: what the law asks after every step.
-/
import Derived.Test.Qxb6500424aGreatHmG
set_option linter.unusedVariables false
set_option linter.unusedSimpArgs false
open Go.Vc
namespace Go.Proofs.Qxb6500424aGreat
section
variable {T : Int} {t : Nat → TC} {G : List GE} {X : Nat → CS} {Lg : List LE} {c : Nat}
theorem chk_of (hs : Sys T t G X Lg) (hc : c < 3) {h : HS} (ht : h.t = t c) : ChkOk h := by
  have tb := hs.tab c hc
  refine ⟨fun a ha hk => ?_, fun s hs4 hf => ?_⟩
  · rw [ht] at ha ⊢
    obtain ⟨i, g, ro⟩ := tb.row a ha hk
    have lv := hs.inv.live i g ro.at_ ro.gone
    rw [ro.C]
    refine ⟨lv.nz, fun hr => ?_⟩
    have hp : a.1.par ≠ 0 := fun z => by
      have := (((tb.sk.ei.ok a ha).con hk).2.2.2.2.2.2.2.2) z
      rw [hr] at this
      cases this
    have ho := (ro.rdy hp).1 hr
    have h12 : ¬ ((X i).st = 1 ∨ (X i).st = 2) := fun z => by
      have := (lv.op z).2.2.1
      rw [this] at ho
      cases ho
    have := lv.ok.st
    have := lv.nz
    omega
  · rw [ht] at hf ⊢
    rw [tb.free s hs4 hf]
    rfl
end
/-- Counters that only grow. -/
structure Cnt (n : Int) (r : LR) (k : LC) : Prop where
  R : (r.R.length : Int) ≤ n
  I : (r.I.n : Int) ≤ n
  O : (r.O.n : Int) ≤ n
  M : (r.M.n : Int) ≤ n
  sp : 0 ≤ k.sp ∧ k.sp ≤ n
  tk : 0 ≤ k.tk ∧ k.tk ≤ n
  del : ∀ c, c < 3 → 0 ≤ r.del c ∧ r.del c ≤ n
  age : ∀ e ∈ r.W, e.1.age ≤ 5
structure GB0 (n : Int) (G : List GE) : Prop where
  len : 400 * (G.length : Int) ≤ n
  S : ∀ (i : Nat) g, G[i]? = some g → (g.S.length : Int) ≤ n ∧ (g.R.length : Int) ≤ n
/-- The law's world at rest. -/
structure Good (n : Int) (m : LH) (r : LR) (k : LC) : Prop where
  pw : ∃ G X Lg M, PW k.tk m.H (r.W.map (·.1)) G X Lg M ∧ Rest G X (r.N.map (·.E)) ∧ GB0 n G
  hs : HsAll n m.H
  tw : m.qu = true → ∀ c, c < 3 → m.J c = m.H c
  seen : ∀ c, c < 3 → r.sn c = sdsE (m.H c).t.K.E
  top : ∀ c, c < 3 → k.top c < (m.H c).t.K.nsd
  lost : ∀ c, c < 3 → k.lost c = (m.H c).lost
  out : ∀ c, c < 3 → k.out c = 24 - (m.H c).cr
  fl : k.fl = false
  rdy : ∀ c, c < 3 → RdyOk c (m.H c).t.K.E r.R
  rlt : ∀ x ∈ r.R, x.1 < 3
  cnt : Cnt n r k
/-- The law's world ahead of a look; K0: the tables at the last look. -/
structure Mid (n : Int) (m : LH) (r : LR) (k : LC) (K0 : Nat → Sk.SkS) : Prop where
  pw : ∃ G X Lg M, PW k.tk m.H (r.W.map (·.1)) G X Lg M ∧ LookI G X r.del (r.N.map (·.E)) ∧ GB0 n G
  hs : HsAll n m.H
  tw : m.qu = true → ∀ c, c < 3 → m.J c = m.H c
  k0 : ∀ c, c < 3 → Sk.SkOk (K0 c)
  seen : ∀ c, c < 3 → r.sn c = sdsE (K0 c).E
  top : ∀ c, c < 3 → k.top c < (K0 c).nsd
  kst : ∀ c, c < 3 → ∃ s, KStep s (K0 c) (m.H c).t.K
  lost : ∀ c, c < 3 → k.lost c ≤ (m.H c).lost ∧ (k.lost c < (m.H c).lost → (m.H c).cr = 0)
  out : ∀ c, c < 3 → k.out c = 24 - (m.H c).cr
  fl : k.fl = false
  rdy : ∀ c, c < 3 → RdyOk c (K0 c).E r.R
  rlt : ∀ x ∈ r.R, x.1 < 3
  cnt : Cnt n r k
def lookTys : List TypeId := [T_hostlaw_World, T_hostm_Net, T_hostm_End, T_hostlaw_Waiting]
section
variable {w0 w w' : World} {a c : Nat} {m : LH} {r : LR} {k : LC} {n : Int} {T : Int} {t : Nat → TC} {G : List GE} {X : Nat → CS} {Lg : List LE} {i s ib lb : Nat} {g : GE} {ar : Sk.AE} {L : List Int}
/-- Whence the ends' reasons come. -/
def Wsn (G : List GE) (X : Nat → CS) (N N' : List PE) : Prop := ∀ (j : Nat) E', N'[j]? = some E' → (∃ E, N[j]? = some E ∧ E'.why = E.why ∧ E'.st = E.st) ∨ ∃ g, G[j]? = some g ∧ g.gone = false ∧ E'.why = (X j).why
theorem Wsn.refl (G : List GE) (X : Nat → CS) (N : List PE) : Wsn G X N N := fun j E' h => .inl ⟨E', h, rfl, rfl⟩
theorem Wsn.trans {G : List GE} {X : Nat → CS} {N N' N2 : List PE} (h : Wsn G X N N') (h' : Wsn G X N' N2) : Wsn G X N N2 := fun j E2 h2 => by
  rcases h' j E2 h2 with ⟨E', a, b, c⟩ | z
  · rcases h j E' a with ⟨E, d, e, f⟩ | ⟨g, d, e, f⟩
    · exact .inl ⟨E, d, b.trans e, c.trans f⟩
    · exact .inr ⟨g, d, e, b.trans f⟩
  · exact .inr z
structure LookJ (G : List GE) (X : Nat → CS) (del : Nat → Int) (N0 N : List PE) : Prop extends LookI G X del N where
  wsn : Wsn G X N0 N
/-- What a look at one row does to the abstract network. -/
structure Seen1 (G : List GE) (X : Nat → CS) (del : Nat → Int) (i : Nat) (N N' : List PE) : Prop where
  look : LookI G X del N'
  done : DoneAt G X N' i
  old : ∀ j, DoneAt G X N j → DoneAt G X N' j
  len : ∀ j, j < N'.length → j < N.length ∨ j = i
  why : Wsn G X N N'
theorem see_law {R : Bool → World → Prop} (hL : LawAt w0 w a m r k) (hs : Sys T t G X Lg) (hI : LookI G X r.del (r.N.map (·.E))) (hG : GB0 n G) (hn : n ≤ 4398046511104) (hc : c < 3) (ram : ar ∈ (t c).K.E) (hk2 : ar.1.kind = 2) (ro : RowOk c (t c) G X ar i g) (hia : InAt w ib (X i))
    (hR : ∀ N' w', LawAt w0 w' a m { r with N := N' } k → Seen1 G X r.del i (r.N.map (·.E)) (N'.map (·.E)) → ExtT w w' lookTys → R true w') : hostm_Net_See.Call (some ⟨r.np, 0, none⟩) (c : Int) ar.1.sd ar.1.kind ar.1.lp ar.1.rh ar.1.rp ar.1.slot ar.1.par ar.1.rdy (some ⟨ib, 0, none⟩) w R := by
  have hNl : (r.N.map (·.E)).length = r.N.length := by simp
  have hle := hI.net.le
  have hgl := hG.len
  rcases hI.row hs hc ro with ⟨E, pe', hE, hu, e1, e2, so, lk, dn⟩ | ⟨p, ei, sn, lk, dn⟩
  · obtain ⟨x, hx, rfl⟩ := mapE hE
    have hlt := (List.getElem?_eq_some_iff.1 hE).1
    obtain ⟨g2, hg2, pd⟩ := hI.net.at hE
    obtain ⟨gg, xx, pre⟩ := pd.pre
    rw [ro.at_] at hg2
    cases hg2
    have hS := hG.S i g ro.at_
    have lv := hs.inv.live i g ro.at_ ro.gone
    have hA := lv.ok.B.len
    obtain ⟨_, _, r1, r2, _⟩ := ((hs.tab c hc).sk.ei.ok ar ram).con hk2
    refine seeOld_ok hL.r.N (by omega) hc hx e1 e2 (fun q y hy h1 h2 => hu q y.E (by rw [List.getElem?_map, hy]; rfl) h1 h2) (by rw [pre.rh, ro.rh]; exact ⟨r1, r2⟩) hia (by rw [pre.R]; omega) so fun w2 h2 t2 => ?_
    have em : (r.N.set i { x with E := seenE x.E pe' (X i) }).map (·.E) = (r.N.map (·.E)).set i (seenE x.E pe' (X i)) := by rw [List.map_set]
    refine hR _ w2 (hL.net h2 (t2.mono (by decide)) (fun y hy z hz => ?_)) ⟨by rw [em]; exact lk, ?_, fun j hj => ?_, fun j hj => ?_, fun j E' hj => ?_⟩ (t2.t.mono (by decide))
    · left
      rcases List.mem_or_eq_of_mem_set hy with q | q
      · exact .inr (.inr ⟨y, q, hz⟩)
      · subst q
        exact .inr (.inr ⟨x, List.mem_of_getElem? hx, hz⟩)
    · rw [em]
      exact ⟨_, g, by rw [List.getElem?_set_self hlt], ro.at_, dn⟩
    · rw [em]
      exact hj.set ro.at_ dn hlt
    · rw [em, List.length_set] at hj
      exact .inl hj
    · rw [em] at hj
      by_cases z : j = i
      · subst z
        rw [List.getElem?_set_self hlt] at hj
        cases hj
        exact .inr ⟨g, ro.at_, ro.gone, rfl⟩
      · rw [List.getElem?_set_ne (fun w => z w.symm)] at hj
        exact .inl ⟨E', hj, rfl, rfl⟩
  · have hlt : r.N.length < G.length := by
      rcases hI.len with z | ⟨z, _⟩
      · have := (List.getElem?_eq_some_iff.1 ro.at_).1
        omega
      · omega
    refine seeNew_ok hL.r.N (by omega) hc hia sn fun w2 h2 t2 => ?_
    have em : (r.N ++ [(⟨bornE c ar.1 p, none, 0, none, 0⟩ : PEM)]).map (·.E) = r.N.map (·.E) ++ [bornE c ar.1 p] := by rw [List.map_append]; rfl
    refine hR _ w2 (hL.net h2 t2 (fun y hy z hz => ?_)) ⟨by rw [em]; exact lk, ?_, fun j hj => ?_, fun j hj => ?_, fun j E' hj => ?_⟩ (t2.t.mono (by decide))
    · rcases List.mem_append.1 hy with q | q
      · exact .inl (.inr (.inr ⟨y, q, hz⟩))
      · rw [List.mem_singleton.1 q] at hz
        simp [rowBlk] at hz
    · rw [em]
      exact ⟨_, g, by rw [ei, List.getElem?_append_right (Nat.le_refl _), Nat.sub_self]; rfl, ro.at_, dn⟩
    · rw [em]
      exact hj.push
    · rw [em, List.length_append] at hj
      simp at hj
      rw [hNl] at ei
      rw [hNl]
      omega
    · rw [em] at hj
      by_cases z : j < (r.N.map (·.E)).length
      · rw [List.getElem?_append_left z] at hj
        exact .inl ⟨E', hj, rfl, rfl⟩
      · have hlt2 := (List.getElem?_eq_some_iff.1 hj).1
        rw [List.length_append] at hlt2
        have ej : j = i := by simp at hlt2 z; rw [hNl] at ei; omega
        subst ej
        rw [ei, List.getElem?_append_right (Nat.le_refl _), Nat.sub_self] at hj
        cases hj
        exact .inr ⟨g, ro.at_, ro.gone, (dn.st ro.gone).2⟩
/-- The accept order grows by one. -/
theorem LawAt.pushRdy {x : Wt} {K : World → Prop} (hL : LawAt w0 w a m r k) (hb : r.R.length ≤ 4398046511103)
    (hK : ∀ b cc w', LawAt w0 w' a m { r with R := r.R ++ [x], rb := b, rc := cc } k → ExtT w w' lookTys → K w') {P : World → Prop} (hP : ∀ w1, LawAt w0 w1 a m r k → P w1) :
    New (.cells #[.int .i64 (x.1 : Int), .int .i64 x.2.1, .int .i64 x.2.2] 76) w fun nb w1 => P w1 ∧ Append 76 (.agg #[.int .i64 (0 : Int), .int .i64 (0 : Int), .int .i64 (0 : Int)]) 3 24 r.rb r.R.length r.rc (some ⟨nb, 0, none⟩) 1 w1 fun b cc w2 => Pn (some (⟨a, 0, none⟩ : Addr)) fun y => Sts [.slice b (r.R.length + 1) cc] (y.add 46) 0 w2 fun w3 => K w3 := by
  refine New.mk fun nb w1 enb hs1 onb he1 => ⟨hP w1 (hL.ext0 he1), ?_⟩
  have h1 := hL.ext0 he1
  refine Vc.Append.mk (e := 76) (news := wtC x) h1.r.R (CellsAt.own onb (fun j v hj => by simpa [wtC] using hj)) rfl rfl rfl (by omega) (by omega) fun b2 c2 w2 r2 he2 hb2 => Pn.mk ?_
  have t2 : ExtT w1 w2 [T_hostlaw_Waiting] := ExtT.of he2 (Tys.row h1.r.R)
  have hz := h1.sz
  have r2' : Row w2 b2 (r.R ++ [x]).length c2 3 T_hostlaw_Waiting ((r.R ++ [x]).flatMap wtC) := by
    rw [List.flatMap_append, List.length_append]
    simpa using r2
  rw [addA]
  have el : r.R.length + 1 = (r.R ++ [x]).length := by simp
  rw [el]
  refine LawAt.stG (r' := { r with R := r.R ++ [x], rb := b2, rc := c2 }) (k' := k) (t2.own h1.own (by decide)) (h1.h.extT t2 (by decide)) ?_ h1.ge (h1.ext.above he2 (fun y hy _ => h1.r.geR y hy)) (by omega) rfl (fun j z => ne_c rfl fun hj => ?_) fun w3 hs3 h3 he3 => hK b2 c2 w3 h3 ?_
  · refine ⟨h1.r.W.extT t2 (by decide) (by decide) (by decide), h1.r.N.extT t2 (by decide) (by decide) (by decide), fun c hc => t2.row (h1.r.sn c hc) (by decide), r2', h1.r.I.extT t2 (by decide) (by decide), h1.r.M.extT t2 (by decide) (by decide), h1.r.O.extT t2 (by decide) (by decide), h1.r.tl, fun j k hj => ⟨t2.own (h1.r.tok j k hj).1 (by decide), (h1.r.tok j k hj).2⟩, h1.r.sepW, h1.r.sepM, fun y hy => ?_, h1.r.geI, h1.r.geM, h1.r.geO, fun e he => t2.own (h1.r.x e he) (by decide)⟩
    rcases hb2 y hy with z | z
    · exact h1.r.geR y z
    · omega
  · exact lawF_other (o := 46) (by omega) hj ⟨rfl, rfl, rfl, rfl, rfl⟩ ⟨rfl, rfl, rfl⟩ ⟨.inr rfl, .inr rfl, .inr rfl, .inr rfl, .inl rfl, .inr rfl, .inr rfl, .inr rfl⟩ z
  · exact ((ExtT.nil he1 _).trans (t2.mono (by decide))).trans ((ExtT.of he3 (Tys.one (t2.own h1.own (by decide)))).mono (by decide))
end
end Go.Proofs.Qxb6500424aGreat
