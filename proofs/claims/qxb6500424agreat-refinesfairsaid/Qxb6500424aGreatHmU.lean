/-
  hostlaw: what a socket call leaves behind, in general.
-/
import Derived.Test.Qxb6500424aGreatHmT
set_option linter.unusedVariables false
set_option linter.unusedSimpArgs false
open Go.Vc
namespace Go.Proofs.Qxb6500424aGreat
section
variable {w0 w w' : World} {a c d q i : Nat} {m m' : LH} {r r' : LR} {k k' : LC} {n n' : Int} {sd rh rp : Int} {α : Type} {cr : CallR α} {NP' : List PE} {G G' : List GE} {X X' : Nat → CS} {Lg N : List LE} {M : Nat → List DG} {g g2 : GE} {E E1 : PE} {Z : Zf}
structure CallOk {α : Type} (Z : Zf) (n : Int) (m : LH) (r : LR) (k : LC) (c : Nat) (cr : CallR α) (NP' : List PE) : Prop where
  ok : HsOk (n + 60) (callH (m.H c) cr).1
  sm : ∀ F ∈ (callH (m.H c) cr).2, F.length ≤ 1000
  nf : nFirst (callH (m.H c) cr).2 ≤ 12
  len : (callH (m.H c) cr).2.length ≤ 36
  mid : ∀ {m' : LH} {r' : LR} {k' : LC}, m'.H = updS m.H c (callH (m.H c) cr).1 → (m'.qu = true → m.qu = true ∧ m'.J = updS m.J c (callH (m.H c) cr).1) → r'.N.map (·.E) = NP' → r'.del = r.del → (∀ e ∈ r'.W, e ∈ r.W ∨ ∃ F ∈ (callH (m.H c) cr).2, e.1 = ⟨F, 0, false⟩) → r'.sn = r.sn → r'.R = r.R → (k'.top = k.top ∧ k'.lost = k.lost ∧ k'.fl = k.fl ∧ k'.tk = k.tk) → k'.out = updI k.out c (k.out c + (nFirst (callH (m.H c) cr).2 : Int)) → Cnt (n + 400) r' k' → k.sp ≤ k'.sp ∧ (k'.sp = k.sp → r'.W.map (·.1) = r.W.map (·.1) ++ (callH (m.H c) cr).2.map flF) → r'.x = r.x → MidZ Z (n + 400) m' r' k' (K0of m)
theorem callOk_gen (hg : GoodZ Z n m r k) (h0 : 0 ≤ n) (hc : c < 3) (pw : PW k.tk m.H (r.W.map (·.1)) G X Lg M) (af : After k.tk (fun d => (m.H d).t) (updH (fun d => (m.H d).t) c cr.t) G X Lg c cr.G G' X' N) (lk : LookI G' X' r.del NP') (gb' : GB0 (n + 400) G') (hGl : cr.G.length ≤ 12) (hks : ∃ s, KStep s (m.H c).t.K cr.t.K) (hnsd : cr.t.K.nsd ≤ (m.H c).t.K.nsd + 1) (hwhy : WT cr.t)
    (fz : Z.on m k → Fwn k.tk m.H (r.W.map (·.1)) G X M ∧ NF (r.N.map (·.E))) (cf : Z.on m k → NF (r.N.map (·.E)) → NF NP' ∧ ∃ kk gk, CallF (fun d => (m.H d).t) (updH (fun d => (m.H d).t) c cr.t) G G' X X' c cr.G kk gk) : CallOk Z n m r k c cr NP' := by
  have ok := hg.hs.ok c hc
  have hs' := af.sys
  have et : updH (fun d => (m.H d).t) c cr.t c = cr.t := updH_at _ _ _
  obtain ⟨M', pw', an, sx⟩ := pw.sent (h1 := { m.H c with t := cr.t }) hc af.sys af.cov rfl rfl rfl rfl rfl (pw.rs c hc)
  have hok : HsOk (n + 60) (callH (m.H c) cr).1 := ok.call (by have := (hs'.tab c hc).sk; rw [et] at this; exact this) (fun s hs => by have := hs'.cs hc hs; rw [et] at this; exact this) hnsd hGl
  refine ⟨hok, an.small pw', Nat.le_trans an.le hGl, Nat.le_trans (sendAllH_len cr.G { m.H c with t := cr.t }) (by omega), ?_⟩
  intro m' r' k' hH hJ hN hdl hW hsn hR hk1 hk2 cnt hsw hxx
  refine ⟨mid_host hg.toGood hc pw' an (by rw [hN, hdl]; exact lk) gb' (hok.mono (by omega)) (by
    obtain ⟨s, ks⟩ := hks
    refine ⟨s, ?_⟩
    rw [(sendAllH_t _ _).1]
    exact ks) (WT.call hwhy) (by omega) hH hJ hW hsn hR hk1 hk2 cnt, hg.fwd hc an hH hsw.1, by rw [hxx]; exact hg.zx, fun z => ?_⟩
  obtain ⟨z0, zl, zs⟩ := hg.back hc an hH hsw.1 z
  obtain ⟨⟨i0, fw⟩, nf⟩ := fz z0
  obtain ⟨nf', kk, gk, cf⟩ := cf z0 nf
  obtain ⟨mx, mo, nfs⟩ := sx.facts hc zl
  have ett : (fun d => (updS m.H c (callH (m.H c) cr).1 d).t) = updH (fun d => (m.H d).t) c cr.t := by
    rw [updS_t]
    congr 1
    exact (sendAllH_t _ _).1
  have f2 := (fw.call (Fs := (callH (m.H c) cr).2.map flF) pw.sys af.sys af.tr cf mx mo nfs).merge
  have tk : k'.tk = k.tk := hk1.2.2.2
  refine ⟨G', X', Lg ++ N, M', ?_, by rw [hN, hdl]; exact lk, gb', ⟨i0, ?_⟩, by rw [hN]; exact nf'⟩
  · rw [tk, hH]
    refine pw'.wire fun f hf => ?_
    obtain ⟨e, he, rfl⟩ := List.mem_map.1 hf
    rcases hW e he with z | ⟨F, hF, z⟩
    · exact pw'.fr e.1 (List.mem_map.2 ⟨e, z, rfl⟩)
    · rw [z]; exact an.fr F hF
  · rw [tk, hH, ett, hsw.2 zs]
    exact f2
theorem pump_ackT (z : CS) : ∀ s ∈ (pumpF z).2, AckT s := fun s hs => by
  unfold pumpF at hs
  split at hs
  · rcases List.mem_append.1 hs with q | q
    · unfold pump1 at q
      split at q
      · rw [List.mem_singleton.1 q]; exact .inl rfl
      · cases q
    · unfold pump2 at q
      split at q
      · rw [List.mem_singleton.1 q]; exact .inr rfl
      · cases q
  · cases hs
theorem send_ackT {P : List Int} {t : TC} : ∀ o ∈ (sendT sd P t).G, AckT o.2 := fun o ho => by
  unfold sendT at ho
  split at ho
  · cases ho
  split at ho
  · cases ho
  obtain ⟨s, hs, rfl⟩ := List.mem_map.1 ho
  show AckT (_, s.2)
  have : AckT s := by
    unfold sendF at hs
    repeat' split at hs
    all_goals first | (cases hs; done) | exact pump_ackT _ s hs
  exact this
theorem recv_ackT {mx : Int} {t : TC} : ∀ o ∈ (recvT sd mx t).G, AckT o.2 := fun o ho => by
  unfold recvT at ho
  split at ho
  · cases ho
  split at ho
  · cases ho
  obtain ⟨s, hs, rfl⟩ := List.mem_map.1 ho
  have : AckT s := by
    unfold recvF at hs
    repeat' split at hs
    all_goals first | (cases hs; done) | (rw [List.mem_singleton.1 hs]; exact .inl rfl)
  exact this
theorem close_ackT {t : TC} (hl : lisB t.K.E sd = false) : ∀ o ∈ (endT closeF sd t).G, AckT o.2 := fun o ho => by
  unfold endT at ho
  rw [if_neg (by rw [hl]; simp)] at ho
  split at ho
  · cases ho
  split at ho
  · cases ho
  obtain ⟨s, hs, rfl⟩ := List.mem_map.1 ho
  have : AckT s := by
    unfold closeF at hs
    repeat' split at hs
    all_goals first | (cases hs; done) | exact pump_ackT _ s hs
  exact this
theorem callF_of {t : TC} {x' : CS} {g2 : GE} {O : List OutS} (ha : G[i]? = some g) (hl : g.gone = false) (hh : g.h = c) (hst : (X i).st = 3 ∨ (X i).st = 4) (cx : ClX (X i) x') (ho : ∀ o ∈ O, AckT o.2) (hK : t.K = (m.H c).t.K) : CallF (fun d => (m.H d).t) (updH (fun d => (m.H d).t) c t) G (G.set i g2) X (updX X i x') c O i g := by
  refine ⟨ha, hl, hh, hst, by rw [show updX X i x' i = x' by simp [updX]]; exact cx, fun j hj => by unfold updX; rw [if_neg hj], List.length_set .., ho, fun d => ?_⟩
  by_cases e : d = c
  · subst e; rw [updH_at]; exact hK
  · rw [updH_ne e]
theorem told_set {NP : List PE} (rs : Rest G X NP) (hE : NP[i]? = some E) (hgi : G[i]? = some g) (hgone : g.gone = false) (hX : ∀ j, j ≠ i → X' j = X j) (td : Told g g2 (X i) (X' i) E E1) : ∀ (j : Nat) E' E1' gj g2j, NP[j]? = some E' → (NP.set i E1)[j]? = some E1' → G[j]? = some gj → (G.set i g2)[j]? = some g2j → (gj.gone = true → E1' = E') ∧ (gj.gone = false → Told gj g2j (X j) (X' j) E' E1') := by
  intro j E' E1' gj g2j h1 h2 h3 h4
  by_cases q : j = i
  · subst q
    rw [List.getElem?_set_self (List.getElem?_eq_some_iff.1 hE).1] at h2
    rw [List.getElem?_set_self (List.getElem?_eq_some_iff.1 hgi).1] at h4
    rw [hE] at h1
    rw [hgi] at h3
    cases h1
    cases h2
    cases h3
    cases h4
    exact ⟨fun z => (by rw [hgone] at z; cases z), fun _ => td⟩
  · rw [List.getElem?_set_ne (fun z => q z.symm)] at h2 h4
    rw [h1] at h2
    rw [h3] at h4
    cases h2
    cases h4
    refine ⟨fun _ => rfl, fun z => ?_⟩
    rw [hX j q]
    exact Told.same (rs.end_ j E' gj h1 h3) z ⟨rfl, rfl, rfl⟩ (fun _ => May.refl _)
theorem gb_set (gb : GB0 n G) (h0 : 0 ≤ n) (hgi : G[i]? = some g) (hS : (g2.S.length : Int) ≤ n + 400) (hRl : (g2.R.length : Int) ≤ n + 400) : GB0 (n + 400) (G.set i g2) := by
  refine ⟨by have := gb.len; rw [List.length_set]; omega, fun j gj hj => ?_⟩
  rcases set_cases hgi hj with ⟨_, z⟩ | ⟨_, z⟩
  · rw [z]; exact ⟨hS, hRl⟩
  · have := gb.S j gj z; omega
/-- One end has moved, and the abstract network has been told. -/
theorem callOk_set (hg : GoodZ Z n m r k) (h0 : 0 ≤ n) (hc : c < 3) (pw : PW k.tk m.H (r.W.map (·.1)) G X Lg M) (rs : Rest G X (r.N.map (·.E))) (gb : GB0 n G) (af : After k.tk (fun d => (m.H d).t) (updH (fun d => (m.H d).t) c cr.t) G X Lg c cr.G (G.set i g2) X' N)
    (hE : (r.N.map (·.E))[i]? = some E) (hgi : G[i]? = some g) (hgone : g.gone = false) (hX : ∀ j, j ≠ i → X' j = X j) (td : Told g g2 (X i) (X' i) E E1) (h3 : (X' i).st = 3 → (X i).st = 3) (hS : (g2.S.length : Int) ≤ n + 400) (hRl : (g2.R.length : Int) ≤ n + 400) (hGl : cr.G.length ≤ 12) (hks : ∃ s, KStep s (m.H c).t.K cr.t.K) (hnsd : cr.t.K.nsd ≤ (m.H c).t.K.nsd + 1) (hwhy : WT cr.t) (fz : Z.on m k → Fwn k.tk m.H (r.W.map (·.1)) G X M ∧ NF (r.N.map (·.E)))
    (cf : Z.on m k → CallF (fun d => (m.H d).t) (updH (fun d => (m.H d).t) c cr.t) G (G.set i g2) X X' c cr.G i g) (hfl : E1.st = E.st ∧ E1.why = E.why) : CallOk Z n m r k c cr ((r.N.map (·.E)).set i E1) := by
  have cal : Calm (G.set i g2) X X' := fun j gj _ _ z => by
    by_cases q : j = i
    · subst q; exact h3 z
    · rw [hX j q] at z; exact z
  have ni : NetI (G.set i g2) X' r.del ((r.N.map (·.E)).set i E1) := net_step pw.sys af.sys.inv.ends rs af.tr (hop_calm af.tr cal) (List.length_set ..) (told_set rs hE hgi hgone hX td)
  refine callOk_gen hg h0 hc pw af (look_same af.sys.inv.ends ni (by rw [List.length_set, List.length_set, rs.len])) (gb_set gb h0 hgi hS hRl) hGl hks hnsd hwhy fz fun z nf => ⟨fun j E' hj => ?_, i, g, cf z⟩
  by_cases e : j = i
  · subst e
    rw [List.getElem?_set_self (List.getElem?_eq_some_iff.1 hE).1] at hj
    cases hj
    rw [hfl.1, hfl.2]
    exact nf j E hE
  · rw [List.getElem?_set_ne (fun w => e w.symm)] at hj
    exact nf j E' hj
/-- Ends have moved, nobody has been told. -/
theorem callOk_same (hg : GoodZ Z n m r k) (h0 : 0 ≤ n) (hc : c < 3) (pw : PW k.tk m.H (r.W.map (·.1)) G X Lg M) (rs : Rest G X (r.N.map (·.E))) (gb : GB0 n G) (af : After k.tk (fun d => (m.H d).t) (updH (fun d => (m.H d).t) c cr.t) G X Lg c cr.G G' X' N) (sr : SameSR G G') (hl : G'.length = G.length) (cal : Calm G' X X') (hGl : cr.G.length ≤ 12) (hks : ∃ s, KStep s (m.H c).t.K cr.t.K) (hnsd : cr.t.K.nsd ≤ (m.H c).t.K.nsd + 1) (hwhy : WT cr.t) (hz : ¬ Z.on m k) : CallOk Z n m r k c cr (r.N.map (·.E)) := by
  have ni : NetI G' X' r.del (r.N.map (·.E)) := net_step pw.sys af.sys.inv.ends rs af.tr (hop_calm af.tr cal) rfl (told_same rs af.tr sr)
  exact callOk_gen hg h0 hc pw af (look_same af.sys.inv.ends ni (by rw [rs.len, hl])) (gb_step gb sr (.inl hl) h0) hGl hks hnsd hwhy (fun z => absurd z hz) (fun z => absurd z hz)
/-- The frames go out. -/
theorem putCall {R : Bool → World → Prop} {b : Option Addr} {l cc lo : Nat} {F : List (List Int × Nat)} {m1 : LH} {N1 : List PEM} {M1 O1 : KL} {tok1 : List Nat} (hg : GoodZ Z n m r k) (h0 : 0 ≤ n) (hn : n ≤ 4398046500000) (hc : c < 3) (co : CallOk Z n m r k c cr NP')
    (h1 : LawAt w0 w a m1 { r with N := N1, M := M1, O := O1, tok := tok1 } k) (hN1 : N1.map (·.E) = NP') (hH : m1.H = updS m.H c (callH (m.H c) cr).1) (hJ : m1.qu = true → m.qu = true ∧ m1.J = updS m.J c (callH (m.H c) cr).1) (hM' : (M1.n : Int) ≤ n + 40) (hO' : (O1.n : Int) ≤ n + 40)
    (fr : FrL w b l cc lo F) (hlo : w0.heap.size ≤ lo) (eF : F.map (·.1) = (callH (m.H c) cr).2) (u1 : ∀ e ∈ F, ¬ U8F { r with N := N1, M := M1, O := O1, tok := tok1 } e.2) (v1 : ∀ y ∈ rowBlk b, ¬ F81 { r with N := N1, M := M1, O := O1, tok := tok1 } y)
    (hR : ∀ m' r' k' w', LawAt w0 w' a m' r' k' → MidZ Z (n + 400) m' r' k' (K0of m) → R true w') : hostlaw_World_Put.Call (some ⟨a, 0, none⟩) (c : Int) b l cc w fun w8 => R true w8 := by
  have ok := hg.hs.ok c hc
  have hFl : l ≤ 36 := by
    have h1 := co.len
    rw [← eF] at h1
    have := fr.len
    simp at h1
    omega
  have hcsp := hg.cnt.sp
  have hout := hg.out c hc
  have hcr := ok.cr
  refine put_ok h1 hc fr hlo (by omega) (by show M1.n + l ≤ _; omega) (by show O1.n ≤ _; omega) (fun e he => ⟨u1 e he, by have := co.sm e.1 (by rw [← eF]; exact List.mem_map.2 ⟨e, he, rfl⟩); omega⟩) v1 (by rw [eF]; exact co.nf) (by omega) (by omega) fun r8 sp8 w8 h8 pr n8 o8 s1 s2 => ?_
  obtain ⟨W8, M8, O8, tok8, rfl⟩ := pr.eq
  have n8' : M8.n ≤ M1.n + l := n8
  have o8' : O8.n ≤ O1.n + 1 := o8
  have cn := hg.cnt
  have hW8 : ∀ e ∈ W8, e ∈ r.W ∨ ∃ F' ∈ (callH (m.H c) cr).2, e.1 = ⟨F', 0, false⟩ := fun e he => by
    rcases pr.W e he with z | ⟨f, hf, z⟩
    · exact .inl z
    · exact .inr ⟨f.1, by rw [← eF]; exact List.mem_map.2 ⟨f, hf, rfl⟩, z⟩
  refine hR m1 _ _ w8 h8 (co.mid hH hJ hN1 rfl hW8 rfl rfl ⟨rfl, rfl, rfl, rfl⟩ (by rw [eF]) ⟨by have := cn.R; show (r.R.length : Int) ≤ _; omega, by have := cn.I; show (r.I.n : Int) ≤ _; omega, by show (O8.n : Int) ≤ _; omega, by show (M8.n : Int) ≤ _; omega, by show 0 ≤ sp8 ∧ sp8 ≤ _; omega, by have := cn.tk; show 0 ≤ k.tk ∧ k.tk ≤ _; omega, fun c hc => by have := cn.del c hc; show 0 ≤ r.del c ∧ r.del c ≤ _; omega, fun e he => ?_⟩ ⟨s1, fun z => ?_⟩ rfl)
  · rcases hW8 e he with z | ⟨F', _, z⟩
    · exact cn.age e z
    · rw [z]; show (0 : Int) ≤ 5; omega
  · have al := pr.all z
    have ef : (callH (m.H c) cr).2.map flF = F.map fun f => (⟨f.1, 0, false⟩ : FL) := by
      rw [← eF, List.map_map]
      rfl
    rw [ef]
    exact al
/-- Nothing has happened. -/
theorem GoodZ.midK {r1 : LR} (hg : GoodZ Z n m r k) (h0 : 0 ≤ n) (kr : KeepR r r1) (h1 : (r1.M.n : Int) ≤ n + 400) (h2 : (r1.O.n : Int) ≤ n + 400) : MidZ Z (n + 400) m r1 k (K0of m) := by
  obtain ⟨M1, O1, tok1, rfl⟩ := kr
  have g1 := hg.mono (n' := n + 400) (by omega)
  have g2 : GoodZ Z (n + 400) m { r with M := M1, O := O1, tok := tok1 } k :=
    ⟨⟨g1.pw, g1.hs, g1.tw, g1.seen, g1.top, g1.lost, g1.out, g1.fl, g1.rdy, g1.rlt, ⟨g1.cnt.R, g1.cnt.I, h2, h1, g1.cnt.sp, g1.cnt.tk, g1.cnt.del, g1.cnt.age⟩⟩, g1.zb, g1.zx, g1.fz⟩
  exact g2.mid
/-- Which end a row is. -/
theorem row_find {T : Int} {t : Nat → TC} {x : Sk.AE} (hs : Sys T t G X Lg) (rs : Rest G X (r.N.map (·.E))) (hc : c < 3) (ro : RowOk c (t c) G X x i g) : ∃ y, r.N[i]? = some y ∧ y.E.h = c ∧ y.E.sd = x.1.sd ∧ Done G X i y.E g ∧ ∀ (j : Nat) z, r.N[j]? = some z → (z.E.h : Int) = (c : Int) → z.E.sd = x.1.sd → j = i := by
  have hi := (List.getElem?_eq_some_iff.1 ro.at_).1
  have hl := rs.len
  have hy : (r.N.map (·.E))[i]? = some ((r.N.map (·.E))[i]'(by omega)) := List.getElem?_eq_getElem _
  obtain ⟨y, hy1, hy2⟩ := mapE hy
  have dn := rs.end_ i _ g hy ro.at_
  rw [← hy2] at dn
  refine ⟨y, hy1, by rw [dn.h, ro.h], by rw [dn.sd, ro.sd], dn, fun j z hz h1 h2 => ?_⟩
  have hzE : (r.N.map (·.E))[j]? = some z.E := by rw [List.getElem?_map, hz]; rfl
  have hj := (List.getElem?_eq_some_iff.1 hzE).1
  have hgj : G[j]? = some (G[j]'(by omega)) := List.getElem?_eq_getElem _
  have dz := rs.end_ j z.E _ hzE hgj
  exact (hs.tab c hc).uniq j i _ g hgj ro.at_ (by rw [← dz.h]; omega) ro.h (by rw [← dz.sd, h2, ro.sd])
end
end Go.Proofs.Qxb6500424aGreat
