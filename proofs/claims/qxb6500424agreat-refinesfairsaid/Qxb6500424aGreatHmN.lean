/-
  hostlaw: Tick.
-/
import Derived.Test.Qxb6500424aGreatHmM
import Derived.Test.Qxb6500424aGreatHsP
set_option linter.unusedVariables false
set_option linter.unusedSimpArgs false
open Go.Vc
namespace Go.Proofs.Qxb6500424aGreat
section
variable {w0 w w' : World} {a c d : Nat} {m m' : LH} {r r' : LR} {k k' : LC} {n n' : Int} {G G' : List GE}
def tickTo (H : Nat → HS) (d : Nat) : Nat → HS := fun c => if c < d then (tickH (H c)).1 else H c
theorem tickTo_zero (H : Nat → HS) : tickTo H 0 = H := by funext c; unfold tickTo; rw [if_neg (by omega)]
theorem tickTo_three (H : Nat → HS) : tickTo H 3 = tickHS H := rfl
theorem tickTo_at (H : Nat → HS) (d : Nat) : tickTo H d d = H d := by unfold tickTo; rw [if_neg (by omega)]
theorem tickTo_succ (H : Nat → HS) (d : Nat) : updS (tickTo H d) d (tickH (H d)).1 = tickTo H (d + 1) := by
  funext c
  unfold updS tickTo
  by_cases q : c = d
  · rw [if_pos q, if_pos (by omega), q]
  · rw [if_neg q]
    by_cases q2 : c < d
    · rw [if_pos q2, if_pos (by omega)]
    · rw [if_neg q2, if_neg (by omega)]
theorem tickH_len (h : HS) (ok : Sk.SkOk h.t.K) : (tickH h).2.length ≤ 36 := by
  unfold tickH
  have h1 := sendAllH_len (tickT (sdsE h.t.K.E) h.t).2 { tickH0 h with t := (tickT (sdsE h.t.K.E) h.t).1 }
  have h2 := tick12 (t := h.t) ok
  omega
/-- The frames of the hosts below d. -/
def tkF (H : Nat → HS) : Nat → List FL
  | 0 => []
  | d + 1 => tkF H d ++ (tickH (H d)).2.map flF
theorem tkF_three (H : Nat → HS) (W : List FL) : W.map ageF ++ tkF H 3 = tickWr H W := by
  unfold tickWr
  show _ ++ ((([] ++ _) ++ _) ++ _) = _
  simp
/-- What the law's world is behind a tick. -/
structure TckX (n : Int) (m m' : LH) (r r' : LR) (k k' : LC) (G : List GE) (X : Nat → CS) (M : Nat → List DG) (G' : List GE) (X' : Nat → CS) (Lg' : List LE) (M' : Nat → List DG) : Prop where
  pw : PW k'.tk m'.H (r'.W.map (·.1)) G' X' Lg' M'
  rs : Rest G' X' (r'.N.map (·.E))
  gb : GB0 n G'
  H : m'.H = tickHS m.H
  W : k'.sp = k.sp → r'.W.map (·.1) = tickWr m.H (r.W.map (·.1))
  tk : k'.tk = k.tk + 1
  sp : k.sp ≤ k'.sp
  tr : TrAll (k.tk + 1) G X G' X'
  sr : SameSR G G'
  len : G'.length = G.length
  cal : Calm G' X X'
  tx : TickX (k.tk + 1) m.H G X G' X' M M'
  ls : ∀ c, c < 3 → (m.H c).lost ≤ (tickH (m.H c)).1.lost
  ws : Wsn G' X' (r.N.map (·.E)) (r'.N.map (·.E))
theorem tick_lawX {X : Nat → CS} {Lg : List LE} {M : Nat → List DG} {R : Bool → World → Prop} (hL : LawAt w0 w a m r k) (hg : Good n m r k) (pw : PW k.tk m.H (r.W.map (·.1)) G X Lg M) (rs : Rest G X (r.N.map (·.E))) (gb : GB0 n G) (h0 : 0 ≤ n) (hn : n ≤ 4398046500000)
    (hR : ∀ G' X' Lg' M' m' r' k' w', TckX (n + 450) m m' r r' k k' G X M G' X' Lg' M' → LawAt w0 w' a m' r' k' → Good (n + 450) m' r' k' → r'.x = r.x → R true w') : hostlaw_World_Tick.Call (some ⟨a, 0, none⟩) w R := by
  apply hostlaw_World_Tick.sound
  unfold hostlaw_World_Tick.B0
  have cn := hg.cnt
  have htk := cn.tk
  have hage : ∀ e ∈ r.W, 0 ≤ e.1.age ∧ e.1.age ≤ 5 := fun e he => by
    obtain ⟨_, _, _, _, fo⟩ := pw.fr e.1 (List.mem_map.2 ⟨e, he, rfl⟩)
    exact ⟨fo.a0, cn.age e he⟩
  refine Pn.mk (hL.ldW (wTick_ok hL.r.W hage fun w1 hw1 t1 => ?_))
  have h1 := hL.wire hw1 t1 (fun x hx => by
    obtain ⟨e, he, rfl⟩ := List.mem_map.1 hx
    exact .inl ⟨e, he, rfl⟩)
  refine Pn.mk (h1.ldI (v := k.tk) (by omega) rfl (Pn.mk ?_))
  rw [w64 (by omega) (by omega)]
  refine h1.stI1 (k' := { k with tk := k.tk + 1 }) (by omega) rfl rfl ⟨rfl, rfl, rfl⟩ ⟨.inr rfl, .inl rfl, .inr rfl, .inr rfl⟩ fun w2 hs2 h2 e2 => ?_
  obtain ⟨G', X', Lg', M', pw', an, tr, sr, hlen', cal, tx⟩ := pw.tick
  have ni : NetI G' X' r.del (r.N.map (·.E)) := net_step pw.sys pw'.sys.inv.ends rs tr (hop_calm tr cal) rfl (told_same rs tr sr)
  have lk := look_same pw'.sys.inv.ends ni (by rw [rs.len, hlen'])
  unfold hostlaw_World_Tick.L1
  refine ⟨fun mm a' dx w' => ∃ (d : Nat) (W' : List (FL × Nat)) (M' O' : KL) (tok' : List Nat) (out' : Nat → Int) (sp' : Int) (m' : LH), d ≤ 3 ∧ mm = 3 - d ∧ some ⟨a, 0, none⟩ = a' ∧ dx = (d : Int) ∧ m' = { m with H := tickTo m.H d, J := m'.J } ∧ (m.qu = true → m'.J = tickTo m.J d) ∧ LawAt w0 w' a m' { r with W := W', M := M', O := O', tok := tok' } { k with tk := k.tk + 1, out := out', sp := sp' } ∧ (∀ e ∈ W', (∃ e0 ∈ r.W, e.1 = ageF e0.1) ∨ ∃ c, c < d ∧ ∃ F ∈ (tickH (m.H c)).2, e.1 = ⟨F, 0, false⟩) ∧ (∀ c, c < 3 → (c < d → out' c = (nFirst (tickH (m.H c)).2 : Int))) ∧ (M'.n : Int) ≤ n + 72 * d ∧ (O'.n : Int) ≤ n + 2 * d ∧ k.sp ≤ sp' ∧ sp' ≤ k.sp + 36 * d ∧ (sp' = k.sp → W'.map (·.1) = (r.W.map (·.1)).map ageF ++ tkF m.H d), 3,
    ⟨0, _, r.M, r.O, r.tok, k.out, k.sp, m, by omega, rfl, rfl, rfl, by rw [tickTo_zero], fun _ => by rw [tickTo_zero], h2, fun e he => ?_, fun c hc z => by omega, by have := cn.M; omega, by have := cn.O; omega, by omega, by omega, fun _ => by rw [List.map_map, List.map_map]; show _ = _ ++ []; rw [List.append_nil]; rfl⟩, ?_⟩
  · obtain ⟨e0, he0, rfl⟩ := List.mem_map.1 he
    exact .inl ⟨e0, he0, rfl⟩
  rintro mm a' dx w' ⟨d, W', M1, O1, tok1, out1, sp1, m1, hd3, rfl, rfl, rfl, em1, hJ1, h', hW', hout', hM1, hO1, s1, s2, hall⟩
  unfold hostlaw_World_Tick.L1b
  have hcsp := cn.sp
  refine Bm.ite (fun hlt => ?_) fun hge => ?_
  rotate_left
  · have hd : d = 3 := by omega
    subst hd
    have md : Mid (n + 400) m1 { r with W := W', M := M1, O := O1, tok := tok1 } { k with tk := k.tk + 1, out := out1, sp := sp1 } (K0of m) := by
      have eH : m1.H = tickHS m.H := by rw [em1]; rfl
      have eq1 : m1.qu = m.qu := by rw [em1]
      have eHc : ∀ c, c < 3 → m1.H c = (tickH (m.H c)).1 := fun c hc => by rw [eH]; unfold tickHS; rw [if_pos hc]
      refine ⟨⟨G', X', Lg', M', ?_, lk, gb_step gb sr (.inl hlen') h0⟩, ⟨fun c hc => ?_, fun c hc => by rw [eHc c hc]; exact (hg.hs.why c hc).tickH⟩, fun q c hc => ?_, fun c hc => (hg.hs.ok c hc).sk, hg.seen, hg.top, fun c hc => ?_, fun c hc => ?_, fun c hc => ?_, hg.fl, hg.rdy, hg.rlt, ?_⟩
      · rw [eH]
        refine pw'.wire fun f hf => ?_
        obtain ⟨e, he, rfl⟩ := List.mem_map.1 hf
        rcases hW' e he with ⟨e0, he0, z⟩ | ⟨c, hc, F, hF, z⟩
        · rw [z]
          exact pw'.fr (ageF e0.1) (List.mem_map.2 ⟨e0.1, List.mem_map.2 ⟨e0, he0, rfl⟩, rfl⟩)
        · rw [z]
          exact (an c hc).fr F hF
      · rw [eHc c hc]
        have sys' := pw'.sys
        have et : (tickHS m.H c) = (tickH (m.H c)).1 := by unfold tickHS; rw [if_pos hc]
        exact ((hg.hs.ok c hc).tick (by have := (sys'.tab c hc).sk; rw [et] at this; exact this) (fun s hs => by have := sys'.cs hc hs; rw [et] at this; exact this)).mono (by omega)
      · rw [eq1] at q
        rw [hJ1 q, eHc c hc]
        unfold tickTo
        rw [if_pos hc, hg.tw q c hc]
      · rw [eHc c hc]
        have := (KStep.tick (sdsE (m.H c).t.K.E) (m.H c).t (hg.hs.ok c hc).sk).2
        refine ⟨0, ?_⟩
        have et : (tickH (m.H c)).1.t = (tickT (sdsE (m.H c).t.K.E) (m.H c).t).1 := by unfold tickH; rw [(sendAllH_t _ _).1]
        rw [et]
        exact this
      · rw [eHc c hc]
        have hl := hg.lost c hc
        have al := (an c hc).lost
        have e0 : (tickH0 (m.H c)).lost = (m.H c).lost := rfl
        rw [e0] at al
        show k.lost c ≤ _ ∧ (k.lost c < _ → _)
        rw [hl]
        exact ⟨al.1, al.2.1⟩
      · rw [eHc c hc]
        show out1 c = _
        rw [hout' c hc hc]
        have ac := (an c hc).cr
        have e0 : (tickH0 (m.H c)).cr = 24 := rfl
        rw [e0] at ac
        omega
      · exact ⟨by have := cn.R; show (r.R.length : Int) ≤ _; omega, by have := cn.I; show (r.I.n : Int) ≤ _; omega, by show (O1.n : Int) ≤ _; omega, by show (M1.n : Int) ≤ _; omega, by show 0 ≤ sp1 ∧ sp1 ≤ _; omega, by show 0 ≤ k.tk + 1 ∧ k.tk + 1 ≤ _; omega, fun c hc => by have := cn.del c hc; show 0 ≤ r.del c ∧ r.del c ≤ _; omega, fun e he => by
          rcases hW' e he with ⟨e0, he0, z⟩ | ⟨c, hc, F, hF, z⟩
          · rw [z]
            have := cn.age e0 he0
            show (if e0.1.age ≤ 4 then e0.1.age + 1 else e0.1.age) ≤ 5
            split <;> omega
          · rw [z]; show (0 : Int) ≤ 5; omega⟩
    have eH1 : m1.H = tickHS m.H := by rw [em1]; rfl
    have pw7 : PW (k.tk + 1) m1.H (W'.map (·.1)) G' X' Lg' M' := by
      rw [eH1]
      refine pw'.wire fun f hf => ?_
      obtain ⟨e, he, rfl⟩ := List.mem_map.1 hf
      rcases hW' e he with ⟨e0, he0, z⟩ | ⟨c, hc, F, hF, z⟩
      · rw [z]
        exact pw'.fr (ageF e0.1) (List.mem_map.2 ⟨e0.1, List.mem_map.2 ⟨e0, he0, rfl⟩, rfl⟩)
      · rw [z]
        exact (an c hc).fr F hF
    have gb7 : GB0 (n + 400) G' := gb_step gb sr (.inl hlen') h0
    refine look_okX h' md pw7 lk gb7 (by omega) fun r8 k8 w8 h8 g8 ex rst eW ⟨es, et⟩ ws => hR G' X' Lg' M' m1 r8 k8 w8 ⟨by rw [et, eW]; exact pw7, rst, gb7.mono (by omega), eH1, fun z => ?_, et, by rw [es]; exact s1, tr, sr, hlen', cal, tx, fun c hc => (an c hc).lost.1, ws⟩ h8 (g8.mono (by omega)) ex
    rw [eW, ← tkF_three]
    exact hall (by rw [es] at z; exact z)
  have hd : d < 3 := by omega
  have okd := hg.hs.ok d hd
  have eHd : m1.H d = m.H d := by rw [em1]; exact tickTo_at _ _
  have hh' : HostAt w' (m1.BH d) (m.H d) := by have := h'.h.H d hd; rw [eHd] at this; exact this
  refine Pn.mk ⟨⟨by omega, by omega⟩, h'.ldH hd (tick_ok hh' okd (by omega) fun b l cc F w3 fr3 eF hh3 he3 => ?_)⟩
  have h3 := h'.host hd hh3 he3
  have eF' : F.map (·.1) = (tickH (m.H d)).2 := by simpa using eF
  have hFl : l ≤ 36 := by
    have h1 := tickH_len (m.H d) okd.sk
    rw [← eF'] at h1
    have := fr3.len
    simp at h1
    omega
  have hsm : ∀ x ∈ F, x.1.length ≤ 1000 := fun x hx => (an d hd).small pw' x.1 (by rw [← eF']; exact List.mem_map.2 ⟨x, hx, rfl⟩)
  have hnf : nFirst (F.map (·.1)) ≤ 12 := by rw [eF']; exact (an d hd).le
  have hz := h'.sz
  have ff := h'.freshF fr3
  have esH : (m1.setH d (tickH (m.H d)).1).H = tickTo m.H (d + 1) := by
    show updS m1.H d _ = _
    rw [em1]
    exact tickTo_succ m.H d
  have fin : ∀ {w6 : World} {m6 : LH} {r6 : LR}, LawAt w0 w6 a m6 r6 { k with tk := k.tk + 1, out := out1, sp := sp1 } → FrL w6 b l cc w'.heap.size F → (∀ e ∈ F, ¬ U8F r6 e.2) → (∀ y ∈ rowBlk b, ¬ F81 r6 y) → KeepR { r with W := W', M := M1, O := O1, tok := tok1 } r6 → (r6.M.n : Int) ≤ n + 72 * d + 36 → (r6.O.n : Int) ≤ n + 2 * d + 1 → m6 = { m with H := tickTo m.H (d + 1), J := m6.J } → (m.qu = true → m6.J = tickTo m.J (d + 1)) → hostlaw_World_Tick.B1 (some ⟨a, 0, none⟩) (d : Int) b l cc w6 (fun a' dx w' => ∃ m', m' < 3 - d ∧ ∃ (d : Nat) (W' : List (FL × Nat)) (M' O' : KL) (tok' : List Nat) (out' : Nat → Int) (sp' : Int) (m'_1 : LH), d ≤ 3 ∧ m' = 3 - d ∧ some ⟨a, 0, none⟩ = a' ∧ dx = (d : Int) ∧ m'_1 = { m with H := tickTo m.H d, J := m'_1.J } ∧ (m.qu = true → m'_1.J = tickTo m.J d) ∧ LawAt w0 w' a m'_1 { r with W := W', M := M', O := O', tok := tok' } { k with tk := k.tk + 1, out := out', sp := sp' } ∧ (∀ e ∈ W', (∃ e0 ∈ r.W, e.1 = ageF e0.1) ∨ ∃ c, c < d ∧ ∃ F ∈ (tickH (m.H c)).2, e.1 = ⟨F, 0, false⟩) ∧ (∀ c, c < 3 → (c < d → out' c = (nFirst (tickH (m.H c)).2 : Int))) ∧ (M'.n : Int) ≤ n + 72 * d ∧ (O'.n : Int) ≤ n + 2 * d ∧ k.sp ≤ sp' ∧ sp' ≤ k.sp + 36 * d ∧ (sp' = k.sp → W'.map (·.1) = (r.W.map (·.1)).map ageF ++ tkF m.H d)) R := fun {w6 m6 r6} h6 f6 u6 v6 kr hM6 hO6 hm6 hJ6 => by
    unfold hostlaw_World_Tick.B1
    obtain ⟨Mx, Ox, tokx, rfl⟩ := kr
    refine Pn.mk ⟨⟨by omega, by omega⟩, h6.stOut hd fun w7 hs7 h7 e7 => ?_⟩
    have f7 : FrL w7 b l cc w'.heap.size F := f6.keepT e7 (Tys.one h6.own) (by decide) (by decide)
    have hM6' : (Mx.n : Int) ≤ n + 72 * d + 36 := hM6
    have hO6' : (Ox.n : Int) ≤ n + 2 * d + 1 := hO6
    refine put_ok h7 hd f7 (by omega) (by omega) (by show Mx.n + l ≤ _; omega) (by show Ox.n ≤ _; omega) (fun x hx => ⟨u6 x hx, by have := hsm x hx; omega⟩) v6 hnf (by show 0 ≤ sp1 ∧ sp1 ≤ _; omega) (by show 0 ≤ updI out1 d 0 d ∧ updI out1 d 0 d ≤ 1000; rw [updI_at]; omega) fun r7 sp7 w8 h8 pr n8 o8 z1 z2 => ?_
    obtain ⟨W7, M7, O7, tok7, rfl⟩ := pr.eq
    have n8' : M7.n ≤ Mx.n + l := n8
    have o8' : O7.n ≤ Ox.n + 1 := o8
    have z1' : sp1 ≤ sp7 := z1
    have z2' : sp7 ≤ sp1 + l := z2
    refine ⟨3 - (d + 1), by omega, d + 1, W7, M7, O7, tok7, updI (updI out1 d 0) d (updI out1 d 0 d + (nFirst (F.map (·.1)) : Int)), sp7, m6, by omega, rfl, rfl, by rw [w64 (by omega) (by omega)]; omega, hm6, hJ6, h8, fun x hx => ?_, fun c hc z => ?_, by omega, by omega, by omega, by omega, fun z => ?_⟩
    · rcases pr.W x hx with y | ⟨f, hf, y⟩
      · rcases hW' x y with y | ⟨c, hc, y⟩
        · exact .inl y
        · exact .inr ⟨c, by omega, y⟩
      · exact .inr ⟨d, by omega, f.1, by rw [← eF']; exact List.mem_map.2 ⟨f, hf, rfl⟩, y⟩
    · by_cases q : c = d
      · rw [q, updI_at, updI_at, eF']; omega
      · rw [updI_ne q, updI_ne q]
        exact hout' c hc (by omega)
    · have al := pr.all (by show sp7 = sp1; omega)
      have al' : W7.map (·.1) = W'.map (·.1) ++ F.map fun f => (⟨f.1, 0, false⟩ : FL) := al
      rw [al', hall (by omega), List.append_assoc]
      congr 1
      show _ = tkF m.H d ++ (tickH (m.H d)).2.map flF
      rw [← eF', List.map_map]
      rfl
  have eq1 : m1.qu = m.qu := by rw [em1]
  refine Pn.mk (h3.ldQu (Bm.mk (fun hq0 => ?_) fun hq0 => ?_))
  rotate_left
  · have hq : m.qu = false := by rw [← eq1]; exact hq0
    refine fin h3 fr3 ff.1 ff.2 ⟨M1, O1, tok1, rfl⟩ (by show (M1.n : Int) ≤ _; omega) (by show (O1.n : Int) ≤ _; omega) ?_ (fun z => by rw [hq] at z; cases z)
    show ({ m1 with H := updS m1.H d (tickH (m.H d)).1 } : LH) = { m with H := tickTo m.H (d + 1), J := m1.J }
    rw [em1]
    show ({ m with H := updS (tickTo m.H d) d (tickH (m.H d)).1, J := m1.J } : LH) = _
    rw [tickTo_succ]
  · have hq : m.qu = true := by rw [← eq1]; exact hq0
    have eJd : m1.J d = m.H d := by rw [hJ1 hq, tickTo_at]; exact hg.tw hq d hd
    have hh4 : HostAt w3 (m1.BQ d) (m.H d) := by have := h3.h.J (by show m1.qu = true; rw [eq1]; exact hq) d hd; rw [← eJd]; exact this
    refine Pn.mk ⟨⟨by omega, by omega⟩, h3.ldQ hd (by show m1.qu = true; rw [eq1]; exact hq) (tick_ok hh4 okd (by omega) fun b2 l2 cc2 F2 w4 fr4 eF2 hh5 he5 => ?_)⟩
    have h5 := h3.twin hd (by show m1.qu = true; rw [eq1]; exact hq) hh5 he5
    have fr4a := fr3.keepT he5 hh4.tys (by decide) (by decide)
    have eF2' : F2.map (·.1) = (tickH (m.H d)).2 := by simpa using eF2
    have eFF : F.map (·.1) = F2.map (·.1) := by rw [eF', eF2']
    have hF2l : l2 ≤ 36 := by
      have h1 := congrArg List.length eFF
      have := fr3.len
      have := fr4.len
      simp at h1
      omega
    have z3 := he3.size
    refine sameFrames_ok fr4a fr4 eFF (by omega) (fun x hx => by have := hsm x hx; omega) fun w6 he6 => Bm.neg rfl ?_
    have ff2 := h3.freshF fr4
    refine own2_ok (h5.ext0 he6) (fr4a.ext0 he6) (fr4.ext0 he6) (by omega) (fun x hx => fr3.lt x hx) (fun y hy => fr3.row.lt y hy) (by omega) (by show M1.n + l2 ≤ _; omega) (by show O1.n ≤ _; omega) ff.1 ff.2 (fun x hx => ⟨ff2.1 x hx, ?_⟩) ff2.2 fun r10 w10 h10 kr m10 o10 fr10 u10 v10 _ => ?_
    · have hx' : x.1 ∈ F2.map (·.1) := List.mem_map.2 ⟨x, hx, rfl⟩
      rw [← eFF] at hx'
      obtain ⟨y, hy, e1⟩ := List.mem_map.1 hx'
      have := hsm y hy
      have e1' : y.1 = x.1 := e1
      rw [← e1']
      omega
    · have m10' : r10.M.n ≤ M1.n + l2 := m10
      have o10' : r10.O.n ≤ O1.n + 1 := o10
      refine fin h10 fr10 u10 v10 kr (by omega) (by omega) ?_ (fun _ => ?_)
      · show ({ m1 with H := updS m1.H d (tickH (m.H d)).1, J := updS m1.J d (tickH (m.H d)).1 } : LH) = { m with H := tickTo m.H (d + 1), J := updS m1.J d (tickH (m.H d)).1 }
        rw [em1]
        show ({ m with H := updS (tickTo m.H d) d (tickH (m.H d)).1, J := updS m1.J d (tickH (m.H d)).1 } : LH) = _
        rw [tickTo_succ]
      · show updS m1.J d (tickH (m.H d)).1 = tickTo m.J (d + 1)
        rw [hJ1 hq, ← hg.tw hq d hd]
        exact tickTo_succ m.J d
theorem tick_law {R : Bool → World → Prop} (hL : LawAt w0 w a m r k) (hg : Good n m r k) (h0 : 0 ≤ n) (hn : n ≤ 4398046500000)
    (hR : ∀ m' r' k' w', LawAt w0 w' a m' r' k' → Good (n + 450) m' r' k' → r'.x = r.x → R true w') : hostlaw_World_Tick.Call (some ⟨a, 0, none⟩) w R := by
  obtain ⟨G, X, Lg, M, pw, rs, gb⟩ := hg.pw
  exact tick_lawX hL hg pw rs gb h0 hn fun _ _ _ _ m' r' k' w' _ a b c => hR m' r' k' w' a b c
end
end Go.Proofs.Qxb6500424aGreat
