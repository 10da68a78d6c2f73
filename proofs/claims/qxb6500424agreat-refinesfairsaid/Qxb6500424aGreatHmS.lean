/-
  hostlaw: Connect, the plain part.
-/
import Derived.Test.Qxb6500424aGreatHmR
set_option linter.unusedVariables false
set_option linter.unusedSimpArgs false
open Go.Vc
namespace Go.Proofs.Qxb6500424aGreat
theorem four_len : ∀ (F : List Sk.AE), (∀ s : Nat, s < 4 → ∃ a ∈ F, a.1.slot = (s : Int)) → 4 ≤ F.length
  | [], h => by obtain ⟨a, ha, _⟩ := h 0 (by omega); cases ha
  | [x], h => by
    obtain ⟨a, ha, e0⟩ := h 0 (by omega)
    obtain ⟨b, hb, e1⟩ := h 1 (by omega)
    simp at ha hb
    subst ha hb
    omega
  | [x, y], h => by
    obtain ⟨a, ha, e0⟩ := h 0 (by omega)
    obtain ⟨b, hb, e1⟩ := h 1 (by omega)
    obtain ⟨d, hd, e2⟩ := h 2 (by omega)
    simp at ha hb hd
    rcases ha with rfl | rfl <;> rcases hb with rfl | rfl <;> rcases hd with rfl | rfl <;> omega
  | [x, y, z], h => by
    obtain ⟨a, ha, e0⟩ := h 0 (by omega)
    obtain ⟨b, hb, e1⟩ := h 1 (by omega)
    obtain ⟨d, hd, e2⟩ := h 2 (by omega)
    obtain ⟨f, hf, e3⟩ := h 3 (by omega)
    simp at ha hb hd hf
    rcases ha with rfl | rfl | rfl <;> rcases hb with rfl | rfl | rfl <;> rcases hd with rfl | rfl | rfl <;> rcases hf with rfl | rfl | rfl <;> omega
  | _ :: _ :: _ :: _ :: _, h => by simp
theorem con4 {K : Sk.SkS} (hK : Sk.SkOk K) : (K.E.filter fun x => decide (x.1.kind = 2)).length = 4 ↔ Sk.lowE K.E = -1 := by
  have e : (K.E.filter fun x => decide (x.1.kind = 2)) = K.E.filter fun a => !Sk.isL a := by
    apply List.filter_congr
    intro a ha
    have hk := (hK.ei.ok a ha).kind
    unfold Sk.isL
    by_cases q : a.1.kind = 2
    · simp [q]
    · have : a.1.kind = 1 := by omega
      simp [this]
  constructor
  · intro h
    apply Classical.byContradiction
    intro hne
    obtain ⟨s, hs, _, hf⟩ := low_free hne
    have := Sk.slots_len hK [s] (by simp) (fun x hx => by simp at hx; omega) (fun x hx => by simp at hx; subst hx; exact hf)
    rw [← e] at this
    simp at this
    omega
  · intro h
    have h4 := Sk.slots_len hK [] List.nodup_nil (fun x hx => by cases hx) (fun x hx => by cases hx)
    rw [← e] at h4
    simp at h4
    have h5 := four_len (K.E.filter fun x => decide (x.1.kind = 2)) fun s hs => by
      have : Sk.occE K.E s = true := Sk.lowF_none h hs
      obtain ⟨a, ha, hk, hsl⟩ := Sk.occE_iff.1 this
      exact ⟨a, List.mem_filter.2 ⟨ha, by simpa using hk⟩, hsl⟩
    omega
section
variable {T : Int} {t : Nat → TC} {G G' : List GE} {X X' : Nat → CS} {Lg N : List LE} {del : Nat → Int} {NP : List PE} {c : Nat} {g : GE} {E : PE}
theorem NetI.push (h : NetI G X del NP) (hg : G[NP.length]? = some g) (hE : Pend G X del NP.length E g) : NetI G X del (NP ++ [E]) := by
  have hlt := (List.getElem?_eq_some_iff.1 hg).1
  refine ⟨by simp; omega, fun i E' g2 h1 h2 => ?_⟩
  by_cases q : i < NP.length
  · rw [List.getElem?_append_left q] at h1
    exact h.end_ i E' g2 h1 h2
  · rw [List.getElem?_append_right (by omega)] at h1
    have hi : i - NP.length = 0 := by
      have := (List.getElem?_eq_some_iff.1 h1).1
      simp at this
      omega
    have ei : i = NP.length := by omega
    subst ei
    rw [Nat.sub_self] at h1
    simp at h1
    subst h1
    rw [hg] at h2
    cases h2
    exact hE
end
section
variable {w0 w w' : World} {a c d q : Nat} {m m' : LH} {r r' : LR} {k k' : LC} {n n' : Int} {sd rh rp : Int} {Z : Zf}
/-- What a Connect that went well has done. -/
structure ConOk (Z : Zf) (n : Int) (m : LH) (r : LR) (k : LC) (c : Nat) (rh rp : Int) (x : Sk.AE) : Prop where
  e : (connectT k.tk rh rp (m.H c).t).e = 0
  v : (connectT k.tk rh rp (m.H c).t).v = (m.H c).t.K.nsd
  get : Sk.getE (connectT k.tk rh rp (m.H c).t).t.K.E (m.H c).t.K.nsd = some x
  kind : x.1.kind = 2
  par : x.1.par = 0
  hrh : x.1.rh = rh
  hrp : x.1.rp = rp
  lp : 8 ≤ x.1.lp ∧ x.1.lp ≤ 15
  sd : x.1.sd = (m.H c).t.K.nsd
  st : (infoC (connectT k.tk rh rp (m.H c).t).t x).st = 1
  ok : HsOk (n + 60) (callH (m.H c) (connectT k.tk rh rp (m.H c).t)).1
  sm : ∀ F ∈ (callH (m.H c) (connectT k.tk rh rp (m.H c).t)).2, F.length ≤ 1000
  nf : nFirst (callH (m.H c) (connectT k.tk rh rp (m.H c).t)).2 ≤ 12
  len : (callH (m.H c) (connectT k.tk rh rp (m.H c).t)).2.length ≤ 36
  no : ∀ (j : Nat) y, r.N[j]? = some y → ¬ (y.E.h = c ∧ y.E.sd = (m.H c).t.K.nsd)
  nl : 400 * (r.N.length : Int) ≤ n
  mid : ∀ {m' : LH} {r' : LR} {k' : LC}, m'.H = updS m.H c (callH (m.H c) (connectT k.tk rh rp (m.H c).t)).1 → (m'.qu = true → m.qu = true ∧ m'.J = updS m.J c (callH (m.H c) (connectT k.tk rh rp (m.H c).t)).1) → r'.N.map (·.E) = r.N.map (·.E) ++ [conE c x.1] → r'.del = r.del → (∀ e ∈ r'.W, e ∈ r.W ∨ ∃ F ∈ (callH (m.H c) (connectT k.tk rh rp (m.H c).t)).2, e.1 = ⟨F, 0, false⟩) → r'.sn = r.sn → r'.R = r.R → (k'.top = k.top ∧ k'.lost = k.lost ∧ k'.fl = k.fl ∧ k'.tk = k.tk) → k'.out = updI k.out c (k.out c + (nFirst (callH (m.H c) (connectT k.tk rh rp (m.H c).t)).2 : Int)) → Cnt (n + 400) r' k' → k.sp ≤ k'.sp ∧ (k'.sp = k.sp → r'.W.map (·.1) = r.W.map (·.1) ++ (callH (m.H c) (connectT k.tk rh rp (m.H c).t)).2.map flF) → r'.x = r.x → MidZ Z (n + 400) m' r' k' (K0of m)
theorem connect_G_len (T rh rp : Int) (t : TC) : (connectT T rh rp t).G.length ≤ 1 := by
  unfold connectT
  split
  · simp
  split
  · simp
  split
  · simp
  · rename_i a _ h
    show ((openAF (T % 256) (t.C (slotN a))).G.map (stampS a.1)).length ≤ 1
    rw [List.length_map]
    unfold openAF
    split <;> simp
theorem connect_nsd (T rh rp : Int) (t : TC) : (connectT T rh rp t).t.K.nsd ≤ t.K.nsd + 1 := by
  have := connectA_nsd rh rp t.K
  unfold connectT
  split
  · show t.K.nsd ≤ _; omega
  split
  · exact this
  split
  · exact this
  · exact this
theorem con_plain (hg : GoodZ Z n m r k) (h0 : 0 ≤ n) (hc : c < 3) (he : (Sk.connectA rh rp (m.H c).t.K).1.2 = 0) (hz : Z.on m k → (∀ (j : Nat) y, r.N[j]? = some y → y.E.gone = true) ∧ ∃ d, d < 3 ∧ d ≠ c ∧ rh = (d : Int) + 1 ∧ Sk.lisE (m.H d).t.K.E rp ≠ 0) : ∃ x, ConOk Z n m r k c rh rp x := by
  obtain ⟨G, X, Lg, M, pw, rs, gb, fz⟩ := hg.ghost
  have ok := hg.hs.ok c hc
  obtain ⟨lp, N, hlp1, hlp2, e1, e2, af, hlook, hrh, hrp, eO⟩ := pw.sys.connect (rh := rh) (rp := rp) hc he
  have hs' := af.sys
  have et : updH (fun d => (m.H d).t) c (connectT k.tk rh rp (m.H c).t).t c = (connectT k.tk rh rp (m.H c).t).t := updH_at _ _ _
  have tb := hs'.tab c hc
  rw [et] at tb
  have hgl : (G ++ [newC k.tk c (m.H c).t.K.nsd lp rh rp])[G.length]? = some (newC k.tk c (m.H c).t.K.nsd lp rh rp) := by rw [List.getElem?_append_right (Nat.le_refl _), Nat.sub_self]; rfl
  obtain ⟨x, hx, hxk, hxs⟩ := tb.end_ G.length _ hgl rfl rfl
  have hxs' : x.1.sd = (m.H c).t.K.nsd := hxs
  obtain ⟨i, g, ro⟩ := tb.row x hx hxk
  have ei : i = G.length := tb.uniq i G.length g _ ro.at_ hgl ro.h rfl (by rw [ro.sd, hxs']; rfl)
  subst ei
  have hgg : g = newC k.tk c (m.H c).t.K.nsd lp rh rp := by have := ro.at_; rw [hgl] at this; cases this; rfl
  subst hgg
  have hget : Sk.getE (connectT k.tk rh rp (m.H c).t).t.K.E (m.H c).t.K.nsd = some x := by
    rw [← hxs']
    exact Sk.getE_some tb.sk.ei hx
  have hCx : (connectT k.tk rh rp (m.H c).t).t.C (slotN x) = beginF 1 (k.tk % 256) := by
    have hC := ro.C
    rw [hC]
    show (if G.length = G.length then beginF 1 (k.tk % 256) else X G.length) = _
    rw [if_pos rfl]
  have hcl := connect_G_len k.tk rh rp (m.H c).t
  obtain ⟨M', pw', an, sx⟩ := pw.sent (h1 := { m.H c with t := (connectT k.tk rh rp (m.H c).t).t }) hc af.sys af.cov rfl rfl rfl rfl rfl (pw.rs c hc)
  have hcs : ∀ s, s < 4 → CsOk ((connectT k.tk rh rp (m.H c).t).t.C s) := fun s hs => by
    have := hs'.cs hc hs
    rw [et] at this
    exact this
  have hok : HsOk (n + 60) (callH (m.H c) (connectT k.tk rh rp (m.H c).t)).1 := ok.call tb.sk hcs (connect_nsd _ _ _ _) (by omega)
  have hlx : x.1.lp = lp := by rw [← ro.lp]; rfl
  have hrx : x.1.rh = rh := by rw [← ro.rh]; rfl
  have hpx : x.1.rp = rp := by rw [← ro.rp]; rfl
  have hsr : SameSR G (G ++ [newC k.tk c (m.H c).t.K.nsd lp rh rp]) := fun i g g2 h1 h2 => by
    rw [List.getElem?_append_left (List.getElem?_eq_some_iff.1 h1).1, h1] at h2
    cases h2
    exact ⟨rfl, rfl, rfl⟩
  have hnl : (r.N.map (·.E)).length = G.length := rs.len
  refine ⟨x, e1, e2, hget, hxk, ro.par rfl, hrx, hpx, by omega, hxs', ?_, hok, an.small pw', Nat.le_trans an.le (by omega), ?_, fun j y hy hh => ?_, by have := gb.len; simp at hnl; omega, ?_⟩
  · unfold infoC
    rw [if_pos hxk, hCx]
    rfl
  · have := sendAllH_len (connectT k.tk rh rp (m.H c).t).G { m.H c with t := (connectT k.tk rh rp (m.H c).t).t }
    exact Nat.le_trans this (by omega)
  · have hyE : (r.N.map (·.E))[j]? = some y.E := by rw [List.getElem?_map, hy]; rfl
    have hjl := (List.getElem?_eq_some_iff.1 hyE).1
    have hgj : G[j]? = some (G[j]'(by omega)) := List.getElem?_eq_getElem _
    have dn := rs.end_ j y.E _ hyE hgj
    have := (pw.sys.tab c hc).sdb j _ hgj (by rw [← dn.h]; exact hh.1)
    have e3 := hh.2
    rw [dn.sd] at e3
    have e4 : (G[j]'(by omega)).sd < (m.H c).t.K.nsd := this.2
    omega
  · intro m' r' k' hH hJ hN hdl hW hsn hR hk1 hk2 cnt hsw hxx
    have cal : Calm (G ++ [newC k.tk c (m.H c).t.K.nsd lp rh rp]) X (updX X G.length (beginF 1 (k.tk % 256))) := fun i g hg2 hl h3 => by
      unfold updX at h3
      split at h3
      · have : (beginF 1 (k.tk % 256)).st = 1 := rfl
        omega
      · exact h3
    have ni : NetI (G ++ [newC k.tk c (m.H c).t.K.nsd lp rh rp]) (updX X G.length (beginF 1 (k.tk % 256))) r.del (r.N.map (·.E)) := net_step pw.sys hs'.inv.ends rs af.tr (hop_calm af.tr cal) rfl (told_same rs af.tr hsr)
    have dn : Done (G ++ [newC k.tk c (m.H c).t.K.nsd lp rh rp]) (updX X G.length (beginF 1 (k.tk % 256))) G.length (conE c x.1) (newC k.tk c (m.H c).t.K.nsd lp rh rp) := by
      have eX : updX X G.length (beginF 1 (k.tk % 256)) G.length = beginF 1 (k.tk % 256) := by unfold updX; rw [if_pos rfl]
      refine ⟨rfl, hxs', hlx, hrx, hpx, rfl, rfl, rfl, fun z => (by cases z), fun z => (by cases z), rfl, fun z => (by cases z), fun _ => by rw [eX]; exact ⟨rfl, rfl⟩, fun z => (by cases z), rfl, rfl, Int.le_refl _, Int.le_refl _, fun _ => by rw [eX]; exact Int.le_refl _, fun z => ?_, fun _ q => (by rw [eX] at q; cases q), fun _ q => (by rw [eX] at q; cases q), fun _ _ => ⟨rfl, rfl⟩, fun _ q => (by rw [eX] at q; cases q), fun q => (by cases q), fun _ => ⟨rfl, rfl, rfl⟩⟩
      exact absurd z (by show ¬ (0 : Int) < 0; omega)
    have ni2 : NetI (G ++ [newC k.tk c (m.H c).t.K.nsd lp rh rp]) (updX X G.length (beginF 1 (k.tk % 256))) r.del (r.N.map (·.E) ++ [conE c x.1]) := ni.push (by rw [hnl]; exact hgl) (by rw [hnl]; exact dn.pend)
    have lk : LookI (G ++ [newC k.tk c (m.H c).t.K.nsd lp rh rp]) (updX X G.length (beginF 1 (k.tk % 256))) r'.del (r'.N.map (·.E)) := by
      rw [hN, hdl]
      exact look_same hs'.inv.ends ni2 (by rw [List.length_append, List.length_append, hnl]; rfl)
    have gb2 : GB0 (n + 400) (G ++ [newC k.tk c (m.H c).t.K.nsd lp rh rp]) := gb_step gb hsr (.inr ⟨_, rfl, rfl, rfl⟩) h0
    refine ⟨mid_host hg.toGood hc pw' an lk gb2 (hok.mono (by omega)) ⟨0, by
      have := KStep.connectT (t := (m.H c).t) k.tk rh rp ok.sk
      rw [(sendAllH_t _ _).1]
      exact this⟩ (WT.call (hg.hs.why c hc).connect) (by omega) hH hJ hW hsn hR hk1 hk2 cnt, hg.fwd hc an hH hsw.1, by rw [hxx]; exact hg.zx, fun z => ?_⟩
    obtain ⟨z0, zl, zs⟩ := hg.back hc an hH hsw.1 z
    obtain ⟨⟨i0, fw⟩, nf⟩ := fz z0
    obtain ⟨hag, d, hd3, hdc, hrd, hlis⟩ := hz z0
    have tk : k'.tk = k.tk := hk1.2.2.2
    have allg : ∀ (j : Nat) g, G[j]? = some g → g.gone = true := fun j g hj => by
      have hjl : j < r.N.length := by
        have := (List.getElem?_eq_some_iff.1 hj).1
        rw [← hnl, List.length_map] at this
        exact this
      have hy : r.N[j]? = some r.N[j] := List.getElem?_eq_getElem hjl
      have := rs.end_ j r.N[j].E g (by rw [List.getElem?_map, hy]; rfl) hj
      rw [← this.gone]
      exact hag j _ hy
    have hW0 := (fw.empty pw.sys pw.lk (fun f hf => by rw [List.append_nil] at hf; exact pw.fr f hf) allg).1
    have ett : (fun d => (updS m.H c (callH (m.H c) (connectT k.tk rh rp (m.H c).t)).1 d).t) = updH (fun d => (m.H d).t) c (connectT k.tk rh rp (m.H c).t).t := by
      rw [updS_t]
      congr 1
      exact (sendAllH_t _ _).1
    obtain ⟨⟨E, hM, hF, hE⟩, oth⟩ := sx
    rw [hW0] at fw
    have hE2 := hE zl
    rw [eO] at hE2
    have f2 := fw.connect (sd := (m.H c).t.K.nsd) (lp := lp) (rh := rh) (rp := rp) (d := d) af.sys allg hc hd3 hdc hrd (by rw [updH_ne hdc]; exact hlis) hM oth hE2
    refine ⟨_, _, Lg ++ N, M', ?_, lk, gb2, ⟨G.length, ?_⟩, fun j E' hj => ?_⟩
    · rw [tk, hH]
      refine pw'.wire fun f hf => ?_
      obtain ⟨e, he, rfl⟩ := List.mem_map.1 hf
      rcases hW e he with z | ⟨F, hF, z⟩
      · exact pw'.fr e.1 (List.mem_map.2 ⟨e, z, rfl⟩)
      · rw [z]; exact an.fr F hF
    · rw [tk, hH, ett, hsw.2 zs, hW0, List.nil_append]
      have hF' : (callH (m.H c) (connectT k.tk rh rp (m.H c).t)).2 = fsOf c (M c).length E := hF
      rw [hF']
      exact f2
    · rw [hN] at hj
      by_cases e : j < (r.N.map (·.E)).length
      · rw [List.getElem?_append_left e] at hj
        exact nf j E' hj
      · have hlt := (List.getElem?_eq_some_iff.1 hj).1
        rw [List.length_append] at hlt
        have ej : j = (r.N.map (·.E)).length := by simp at hlt e ⊢; omega
        rw [ej, List.getElem?_append_right (Nat.le_refl _), Nat.sub_self] at hj
        cases hj
        rintro ⟨w, _⟩
        have w' : (1 : Int) = 4 := w
        omega
theorem connectA_want (rh rp : Int) (K : Sk.SkS) : (Sk.connectA rh rp K).1.2 = if rh < 1 ∨ 255 < rh then 5 else if rp < 1 ∨ 15 < rp then 22 else if Sk.lowE K.E = -1 then 11 else 0 := by
  unfold Sk.connectA
  split
  · rfl
  split
  · rfl
  split <;> rfl
theorem connectA_v0 {rh rp : Int} {K : Sk.SkS} (h : (Sk.connectA rh rp K).1.2 ≠ 0) (T : Int) (t : TC) (ht : t.K = K) : connectT T rh rp t = ⟨0, (Sk.connectA rh rp K).1.2, t, []⟩ := by
  unfold connectT
  rw [ht, if_pos h]
end
end Go.Proofs.Qxb6500424aGreat
