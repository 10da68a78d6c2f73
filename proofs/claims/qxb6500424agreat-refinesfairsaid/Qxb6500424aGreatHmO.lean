/-
  hostlaw: Settle.
-/
import Derived.Test.Qxb6500424aGreatHmN
set_option linter.unusedVariables false
set_option linter.unusedSimpArgs false
open Go.Vc
namespace Go.Proofs.Qxb6500424aGreat
section
variable {w0 w w' : World} {a c d : Nat} {m m' : LH} {r r' : LR} {k k' : LC} {n n' : Int}
theorem LawAt.setX {xs : List (Nat × Array Value)} (h : LawAt w0 w a m r k) (hx : ∀ e ∈ xs, Own w e.1 e.2 45) : LawAt w0 w a m { r with x := xs } k :=
  ⟨h.own, h.h, ⟨h.r.W, h.r.N, h.r.sn, h.r.R, h.r.I, h.r.M, h.r.O, h.r.tl, h.r.tok, h.r.sepW, h.r.sepM, h.r.geR, h.r.geI, h.r.geM, h.r.geO, hx⟩, h.ge, h.ext⟩
theorem Good.setX {xs : List (Nat × Array Value)} (h : Good n m r k) : Good n m { r with x := xs } k :=
  ⟨h.pw, h.hs, h.tw, h.seen, h.top, h.lost, h.out, h.fl, h.rdy, h.rlt, ⟨h.cnt.R, h.cnt.I, h.cnt.O, h.cnt.M, h.cnt.sp, h.cnt.tk, h.cnt.del, h.cnt.age⟩⟩
theorem Good.calm {v : Int} (h : Good n m r k) : Good n m r { k with calm := v } :=
  ⟨h.pw, h.hs, h.tw, h.seen, h.top, h.lost, h.out, h.fl, h.rdy, h.rlt, ⟨h.cnt.R, h.cnt.I, h.cnt.O, h.cnt.M, h.cnt.sp, h.cnt.tk, h.cnt.del, h.cnt.age⟩⟩
theorem LawAt.ldLost0 {K : Int → Prop} (hL : LawAt w0 w a m r k) (hk : K (k.lost 0)) : LdI .i64 (Addr.add ⟨a, 0, none⟩ 37) w K := by
  rw [addA]
  exact LdI.fn hL.own (by omega) (lawF_lost (c := 0) m r k (by omega)) hk
theorem LawAt.ldLost1 {K : Int → Prop} {j : Nat} (hj : j < 3) (hL : LawAt w0 w a m r k) (hk : K (k.lost j)) : LdI .i64 ((Addr.add ⟨a, 0, none⟩ 37).add j) w K := by
  rw [add2]
  exact LdI.fn hL.own (by omega) (lawF_lost (c := j) m r k (by omega)) hk
def SetN (r : LR) (k : LC) : Prop := 90 ≤ k.calm → ∀ (i : Nat) E, (r.N.map (·.E))[i]? = some E → SetP (r.N.map (·.E)) i E
theorem delW_zero {e : FL × Nat} {l : List (FL × Nat)} : delW (e :: l) 0 = l := by unfold delW; simp
theorem settle_okX {R : Bool → World → Prop} (hL : LawAt w0 w a m r k) (hg : Good n m r k) (h0 : 0 ≤ n) (hn : n ≤ 4398042000000)
    (hR : ∀ m' r' k' w', LawAt w0 w' a m' r' k' → Good (n + 3510000) m' r' k' → SetN r' k' → R true w') : hostlaw_World_Settle.Call (some ⟨a, 0, none⟩) w R := by
  apply hostlaw_World_Settle.sound
  unfold hostlaw_World_Settle.B0 hostlaw_World_Settle.L1
  obtain ⟨G0, X0, Lg0, M0, pw0, rs0, gb0⟩ := hg.pw
  refine ⟨fun mm a' cal rr w' => ∃ (q : Nat) (m' : LH) (r' : LR) (k' : LC) (cm : Nat) (G : List GE) (X : Nat → CS) (Lg : List LE) (M : Nat → List DG), q ≤ 120 ∧ mm = 120 - q ∧ some ⟨a, 0, none⟩ = a' ∧ rr = (q : Int) ∧ cal = (cm : Int) ∧ cm ≤ q ∧ LawAt w0 w' a m' r' k' ∧ Good (n + 29250 * q) m' r' k' ∧ PW k'.tk m'.H (r'.W.map (·.1)) G X Lg M ∧ Rest G X (r'.N.map (·.E)) ∧ GB0 (n + 29250 * q) G ∧ Bth k.tk G ∧ InR k.tk k'.tk cm q r'.W.length m'.H (r'.W.map (·.1)) G X M, 120,
    ⟨0, m, r, k, 0, G0, X0, Lg0, M0, by omega, rfl, rfl, rfl, rfl, by omega, hL, hg.mono (by omega), pw0, rs0, gb0.mono (by omega), Bth.init pw0.sys, by have := InR.start (r := 0) (T0 := k.tk) pw0 (by simp); rw [List.length_map] at this; exact this⟩, ?_⟩
  rintro mm a' cal rr w' ⟨q, m1, r1, k1, cm, G1, X1, Lg1, M1, hq, rfl, rfl, rfl, rfl, c1, h1, g1, pw1, rs1, gb1, hb1, in1⟩
  unfold hostlaw_World_Settle.L1b
  refine Bm.ite (fun hlt => ?_) fun hge => ?_
  rotate_left
  · refine Pn.mk (h1.stI1 (k' := { k1 with calm := (cm : Int) }) (by omega) rfl rfl ⟨rfl, rfl, rfl⟩ ⟨.inl rfl, .inr rfl, .inr rfl, .inr rfl⟩ fun w2 hs2 h2 e2 => hR m1 r1 _ w2 h2 ?_ ?_)
    · exact (g1.calm).mono (by omega)
    · intro h90
      have h90' : (90 : Int) ≤ (cm : Int) := h90
      have hq0 : q = 120 := by omega
      subst hq0
      obtain ⟨Qo, Qn, z, et⟩ := in1.final (by omega)
      exact settled_plain pw1.sys rs1 z (by decide) hb1 (by omega)
  have h1d := h1.drew
  refine Pn.mk (h1d.ldI (v := k1.sp) (by omega) rfl (Pn.mk (h1d.ldLost0 (h1d.ldLost1 (by omega) (h1d.ldLost1 (by omega) (New.mk fun lb w2 elb hs2 olb he2 => ?_))))))
  have h2 := h1d.ext0 he2
  refine ⟨?_, ?_, ?_, ?_, Sts.full (vs := [.int .i64 (k1.lost 0), .int .i64 (k1.lost 1), .int .i64 (k1.lost 2)]) olb rfl rfl fun w3 hs3 o3 he3 => Pn.mk ?_⟩
  · rw [addA]
    exact h2.own.cell (by rw [fnArr_get _ (by omega)]; exact congrArg some (lawF_lost (c := 0) m1 r1 k1 (by omega)))
  · rw [add2]
    exact h2.own.cell (by rw [fnArr_get _ (by omega)]; exact congrArg some (lawF_lost (c := 1) m1 r1 k1 (by omega)))
  · rw [add2]
    exact h2.own.cell (by rw [fnArr_get _ (by omega)]; exact congrArg some (lawF_lost (c := 2) m1 r1 k1 (by omega)))
  · rw [addA]
    exact h2.own.cell (by rw [fnArr_get _ (by omega)]; rfl)
  have E3 : Ext [] w'.drew w3 := he2.trans' he3 (fun y hy hl => by simp at hy; omega)
  have h3 := (h1d.ext0 E3).setX (xs := [(lb, #[.int .i64 (k1.lost 0), .int .i64 (k1.lost 1), .int .i64 (k1.lost 2)])]) (fun e he => by
    rw [List.mem_singleton.1 he]
    exact o3)
  have g3 := g1.setX (xs := [(lb, #[.int .i64 (k1.lost 0), .int .i64 (k1.lost 1), .int .i64 (k1.lost 2)])])
  refine h3.ldW (wLen_ok h3.r.W ?_)
  have h64 := h3.r.W.len
  unfold hostlaw_World_Settle.L2
  have hln0 : ({ r1 with x := [(lb, #[.int .i64 (k1.lost 0), .int .i64 (k1.lost 1), .int .i64 (k1.lost 2)])] } : LR).W.length = r1.W.length := rfl
  generalize hln : ({ r1 with x := [(lb, #[.int .i64 (k1.lost 0), .int .i64 (k1.lost 1), .int .i64 (k1.lost 2)])] } : LR).W.length = ln at *
  rw [← hln0] at in1
  refine ⟨fun mm a' cal' rr' sp' lo' kk w4 => ∃ (p : Nat) (m' : LH) (r' : LR) (k' : LC) (G : List GE) (X : Nat → CS) (Lg : List LE) (M : Nat → List DG), p ≤ ln ∧ p = mm ∧ some ⟨a, 0, none⟩ = a' ∧ (cm : Int) = cal' ∧ (q : Int) = rr' ∧ k1.sp = sp' ∧ lb = lo' ∧ kk = (p : Int) ∧ LawAt w0 w4 a m' r' k' ∧ Good (n + 29250 * q + 450 * (ln - p)) m' r' k' ∧ r'.x = [(lb, #[.int .i64 (k1.lost 0), .int .i64 (k1.lost 1), .int .i64 (k1.lost 2)])] ∧ PW k'.tk m'.H (r'.W.map (·.1)) G X Lg M ∧ Rest G X (r'.N.map (·.E)) ∧ GB0 (n + 29250 * q + 450 * (ln - p)) G ∧ Bth k.tk G ∧ k'.tk = k1.tk ∧ k1.sp ≤ k'.sp ∧ (∀ c, c < 3 → k1.lost c ≤ k'.lost c) ∧ (k'.sp = k1.sp → (∀ c, c < 3 → k'.lost c = k1.lost c) → InR k.tk k'.tk cm q p m'.H (r'.W.map (·.1)) G X M), ln,
    ⟨ln, m1, _, k1, G1, X1, Lg1, M1, Nat.le_refl _, rfl, rfl, rfl, rfl, rfl, rfl, rfl, h3, g3.mono (by omega), rfl, pw1, rs1, gb1.mono (by omega), hb1, rfl, Int.le_refl _, fun _ _ => Int.le_refl _, fun _ _ => in1⟩, ?_⟩
  rintro mm a' cal' rr' sp' lo' kk w4 ⟨p, m4, r4, k4, G4, X4, Lg4, M4, hp, rfl, rfl, rfl, rfl, rfl, rfl, rfl, h4, g4, ex4, pw4, rs4, gb4, hb4, tk4, sp4, lo4, in4⟩
  unfold hostlaw_World_Settle.L2b
  refine Bm.ite (fun hpos => ?_) fun hz => ?_
  · obtain ⟨p0, rfl⟩ : ∃ p0, p = p0 + 1 := ⟨p - 1, by omega⟩
    refine deliver_okX (Φ := fun e d G' X' Lg' M' => Bth k.tk G' ∧ (m4.H d).lost ≤ (inputH (m4.H d) e.1.raw).1.lost ∧ (k4.sp = k1.sp → (∀ c, c < 3 → k4.lost c = k1.lost c) → (inputH (m4.H d) e.1.raw).1.lost = (m4.H d).lost → InR k.tk k4.tk cm q p0 (updS m4.H d (inputH (m4.H d) e.1.raw).1) ((delW r4.W 0).map (·.1) ++ (inputH (m4.H d) e.1.raw).2.map flF) G' X' M')) h4 g4 pw4 rs4 gb4 (by omega) (by omega) (fun e d _ he hage hd hB hx => ?_) (fun r5 w5 h5 g5 ex5 eN hw => Bm.neg rfl ?_) (fun e d G5 X5 Lg5 M5 m5 r5 k5 w5 _ he hage hd hΦ dx h5 g5 ex5 => Bm.neg rfl ?_)
    · by_cases hcond : k4.sp = k1.sp ∧ ∀ c, c < 3 → k4.lost c = k1.lost c
      · have i4 := in4 hcond.1 hcond.2
        obtain ⟨W1, eW⟩ : ∃ W1, r4.W = e :: W1 := by
          cases hW : r4.W with
          | nil => rw [hW] at he; cases he
          | cons e0 W1 => rw [hW] at he; cases he; exact ⟨W1, rfl⟩
        have i4' := i4
        have pw4' := pw4
        rw [eW, List.map_cons] at i4' pw4'
        obtain ⟨G', X', Lg', M', st, _, hin⟩ := i4'.step pw4' hb4 hd hB hx hage
        refine ⟨G', X', Lg', M', ?_, hb4.step pw4.sys st.tr st.sr st.len, st.an.lost.1, fun _ _ z => ?_⟩
        · rw [eW, List.map_cons]; exact st
        · rw [eW, delW_zero]; exact hin z
      · have hfr := pw4.fr e.1 (List.mem_map.2 ⟨e, List.mem_of_getElem? he, rfl⟩)
        obtain ⟨G', X', Lg', M', q1, q2, q3, q4, q5, q6⟩ := pw4.input hd hfr hage
        exact ⟨G', X', Lg', M', ⟨q1, q2, q3, q4, q5, q6⟩, hb4.step pw4.sys q3 q4 q6, q2.lost.1, fun z1 z2 _ => absurd ⟨z1, z2⟩ hcond⟩
    · have sub : ∀ x ∈ r5.W, x ∈ r4.W := fun x hx => by
        rcases hw with ⟨z, _⟩ | ⟨_, _, _, _, z⟩
        · rw [z] at hx; exact hx
        · rw [z] at hx; exact delW_mem hx
      have pw5 : PW k4.tk m4.H (r5.W.map (·.1)) G4 X4 Lg4 M4 := pw4.wire fun f hf => by
        obtain ⟨x, hx, rfl⟩ := List.mem_map.1 hf
        exact pw4.fr x.1 (List.mem_map.2 ⟨x, sub x hx, rfl⟩)
      refine ⟨p0, by omega, p0, m4, r5, k4, G4, X4, Lg4, M4, by omega, rfl, rfl, rfl, rfl, rfl, rfl, by rw [w64 (by omega) (by omega)]; omega, h5, g5.mono (by omega), by rw [ex5]; exact ex4, pw5, by rw [eN]; exact rs4, gb4.mono (by omega), hb4, tk4, sp4, lo4, fun z1 z2 => ?_⟩
      have i4 := in4 z1 z2
      rcases hw with ⟨_, z⟩ | ⟨e, _, he, hno, z⟩
      · exfalso
        have ne := i4.ne pw4
        apply z
        refine ⟨by decide, ?_⟩
        have : r4.W ≠ [] := fun e => ne (by rw [e]; rfl)
        have := List.length_pos_iff.2 this
        omega
      · obtain ⟨W1, eW⟩ : ∃ W1, r4.W = e :: W1 := by
          cases hW : r4.W with
          | nil => rw [hW] at he; cases he
          | cons e0 W1 => rw [hW] at he; cases he; exact ⟨W1, rfl⟩
        have eD : delW r4.W (0 : Int).toNat = W1 := by rw [eW]; exact delW_zero
        rw [z, eD]
        rw [eW, List.map_cons] at i4 pw4
        exact i4.skip pw4 hno
    · have l4 := fun c hc => g4.lost c hc
      have l5 := fun c hc => g5.lost c hc
      have lm : ∀ c, c < 3 → k4.lost c ≤ k5.lost c := fun c hc => by
        rw [l4 c hc, l5 c hc, dx.H]
        by_cases e1 : c = d
        · rw [e1, updS_at]; exact hΦ.2.1
        · rw [updS_ne e1]; exact Int.le_refl _
      have dsp := dx.sp
      refine ⟨p0, by omega, p0, m5, r5, k5, G5, X5, Lg5, M5, by omega, rfl, rfl, rfl, rfl, rfl, rfl, by rw [w64 (by omega) (by omega)]; omega, h5, g5.mono (by omega), by rw [ex5]; exact ex4, dx.pw, dx.rs, dx.gb.mono (by omega), hΦ.1, by rw [dx.tk]; exact tk4, by omega, fun c hc => Int.le_trans (lo4 c hc) (lm c hc), fun z1 z2 => ?_⟩
      have y1 : k4.sp = k1.sp := by omega
      have y2 : ∀ c, c < 3 → k4.lost c = k1.lost c := fun c hc => by
        have := lm c hc
        have := lo4 c hc
        have := z2 c hc
        omega
      have y3 : (inputH (m4.H d) e.1.raw).1.lost = (m4.H d).lost := by
        have e1 := z2 d hd
        have e2 := y2 d hd
        rw [l5 d hd, dx.H, updS_at] at e1
        rw [l4 d hd] at e2
        omega
      have := hΦ.2.2 y1 y2 y3
      rw [dx.tk, dx.H, dx.W (by omega)]
      exact this
  · have hp0 : p = 0 := by omega
    subst hp0
    refine tick_lawX h4 g4 pw4 rs4 gb4 (by omega) (by omega) fun G5 X5 Lg5 M5 m5 r5 k5 w5 tx h5 g5 ex5 => Bm.neg rfl ?_
    have h5d := h5.drew
    have hb5 : Bth k.tk G5 := hb4.step (c := 0) pw4.sys tx.tr tx.sr (.inl tx.len)
    have et5 : k5.tk = k.tk + ((q + 1 : Nat) : Int) := by
      have := in1.tm
      rw [tx.tk, tk4, this]
      push_cast
      omega
    have dsp := tx.sp
    have next : ∀ tt : Bool, (tt = false → k5.sp = k1.sp ∧ ∀ c, c < 3 → k5.lost c = k1.lost c) → hostlaw_World_Settle.B1 (some ⟨a, 0, none⟩) (IntKind.i64.wrap ((cm : Int) + 1)) (q : Int) tt w5.drew (fun a' cal rr w' => ∃ m', m' < 120 - q ∧ ∃ (q : Nat) (m'_1 : LH) (r' : LR) (k' : LC) (cm : Nat) (G : List GE) (X : Nat → CS) (Lg : List LE) (M : Nat → List DG), q ≤ 120 ∧ m' = 120 - q ∧ some ⟨a, 0, none⟩ = a' ∧ rr = (q : Int) ∧ cal = (cm : Int) ∧ cm ≤ q ∧ LawAt w0 w' a m'_1 r' k' ∧ Good (n + 29250 * q) m'_1 r' k' ∧ PW k'.tk m'_1.H (r'.W.map (·.1)) G X Lg M ∧ Rest G X (r'.N.map (·.E)) ∧ GB0 (n + 29250 * q) G ∧ Bth k.tk G ∧ InR k.tk k'.tk cm q r'.W.length m'_1.H (r'.W.map (·.1)) G X M) R := fun tt htt => by
      unfold hostlaw_World_Settle.B1 hostlaw_World_Settle.B2
      rw [w64 (by omega) (by omega), w64 (by omega) (by omega)]
      refine Bm.mk (fun _ => ?_) (fun ht => ?_)
      · refine ⟨120 - (q + 1), by omega, q + 1, m5, r5, k5, 0, G5, X5, Lg5, M5, by omega, rfl, rfl, by omega, rfl, by omega, h5d, g5.mono (by omega), tx.pw, tx.rs, tx.gb.mono (by omega), hb5, ?_⟩
        have := InR.start (r := q + 1) (T0 := k.tk) tx.pw et5
        rw [List.length_map] at this
        exact this
      · obtain ⟨z1, z2⟩ := htt ht
        refine ⟨120 - (q + 1), by omega, q + 1, m5, r5, k5, cm + 1, G5, X5, Lg5, M5, by omega, rfl, rfl, by omega, by omega, by omega, h5d, g5.mono (by omega), tx.pw, tx.rs, tx.gb.mono (by omega), hb5, ?_⟩
        have l4 := fun c hc => g4.lost c hc
        have l5 := fun c hc => g5.lost c hc
        have eH : ∀ c, c < 3 → k5.lost c = (tickH (m4.H c)).1.lost := fun c hc => by
          rw [l5 c hc, tx.H]
          unfold tickHS
          rw [if_pos hc]
        have y2 : ∀ c, c < 3 → k4.lost c = k1.lost c ∧ (tickH (m4.H c)).1.lost = (m4.H c).lost := fun c hc => by
          have a1 := tx.ls c hc
          have a2 := eH c hc
          have a3 := l4 c hc
          have a4 := lo4 c hc
          have a5 := z2 c hc
          exact ⟨by omega, by omega⟩
        have i4 := in4 (by omega) (fun c hc => (y2 c hc).1)
        have := i4.tick pw4 hb5 (by have := tx.pw; rw [tx.tk, tx.H] at this; exact this) tx.tr tx.sr tx.len tx.cal tx.tx (fun c hc => (y2 c hc).2)
        rw [← tx.W (by omega), List.length_map] at this
        rw [tx.tk, tx.H]
        exact this
    have ox : Own w5.drew lb #[.int .i64 (k1.lost 0), .int .i64 (k1.lost 1), .int .i64 (k1.lost 2)] 45 := h5d.r.x (lb, _) (by rw [ex5, ex4]; exact List.mem_singleton.2 rfl)
    refine Pn.mk (h5d.ldI (v := k5.sp) (by omega) rfl (Bm.mk (fun _ => next true (fun z => by cases z)) fun hsp => Pn.mk (h5d.ldLost0 (h5d.ldLost1 (by omega) (h5d.ldLost1 (by omega) (LdI.mk ox rfl (LdI.mk ox rfl (LdI.mk ox rfl (next _ fun z => ?_)))))))))
    simp at hsp z
    refine ⟨hsp, fun c hc => ?_⟩
    rcases (show c = 0 ∨ c = 1 ∨ c = 2 by omega) with rfl | rfl | rfl
    · exact z.1
    · exact z.2.1
    · exact z.2.2
theorem settle_ok {R : Bool → World → Prop} (hL : LawAt w0 w a m r k) (hg : Good n m r k) (h0 : 0 ≤ n) (hn : n ≤ 4398042000000)
    (hR : ∀ m' r' k' w', LawAt w0 w' a m' r' k' → Good (n + 3510000) m' r' k' → R true w') : hostlaw_World_Settle.Call (some ⟨a, 0, none⟩) w R := settle_okX hL hg h0 hn fun m' r' k' w' a b _ => hR m' r' k' w' a b
end
end Go.Proofs.Qxb6500424aGreat
