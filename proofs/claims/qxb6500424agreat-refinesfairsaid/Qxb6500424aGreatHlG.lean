/-
  hostlaw: Deliver and Settle in fair weather.
-/
import Derived.Test.Qxb6500424aGreatHlF
set_option linter.unusedVariables false
set_option linter.unusedSimpArgs false
open Go.Vc
namespace Go.Proofs.Qxb6500424aGreat
section
variable {w0 w w' : World} {a c d : Nat} {m m' : LH} {r r' : LR} {k k' : LC} {n n' : Int} {Z : Zf}
/-- In a settle. -/
def Fw2 (b T : Int) (H : Nat → HS) (Wo Wn : List FL) (G : List GE) (X : Nat → CS) (M : Nat → List DG) : Prop := ∃ i, FW b T (fun c => (H c).t) Wo Wn G X M i
theorem fw2of {T : Int} {H : Nat → HS} {W : List FL} {G : List GE} {X : Nat → CS} {M : Nat → List DG} (h : Fwn T H W G X M) : Fw2 T T H W [] G X M := h
theorem delW_subF {W : List (FL × Nat)} {i : Nat} {e : FL × Nat} (h : W[i]? = some e) : ∀ x ∈ W.map (·.1), x = e.1 ∨ x ∈ (delW W i).map (·.1) := fun x hx => by
  obtain ⟨y, hy, rfl⟩ := List.mem_map.1 hx
  obtain ⟨j, hj⟩ := List.mem_iff_getElem?.1 hy
  by_cases c1 : j = i
  · subst c1
    rw [h] at hj
    cases hj
    exact .inl rfl
  · right
    refine List.mem_map.2 ⟨y, ?_, rfl⟩
    unfold delW
    rcases Nat.lt_or_ge j i with w | w
    · refine List.mem_append.2 (.inl (List.mem_iff_getElem?.2 ⟨j, ?_⟩))
      rw [List.getElem?_take, if_pos w]
      exact hj
    · refine List.mem_append.2 (.inr (List.mem_iff_getElem?.2 ⟨j - (i + 1), ?_⟩))
      rw [List.getElem?_drop, show i + 1 + (j - (i + 1)) = j by omega]
      exact hj
theorem delW_one {W : List (FL × Nat)} {i : Nat} {e : FL × Nat} {f : FL} (h : W[i]? = some e) (hW : W.map (·.1) = [f]) : (delW W i).map (·.1) = [] := by
  have hl := congrArg List.length hW
  rw [List.length_map] at hl
  have hl' : W.length = 1 := hl
  have hi := (List.getElem?_eq_some_iff.1 h).1
  have i0 : i = 0 := by omega
  subst i0
  cases W with
  | nil => cases h
  | cons x l =>
    have : l = [] := List.eq_nil_of_length_eq_zero (by simpa using hl')
    subst this
    rfl
theorem deliverZ {i : Int} {R : Bool → World → Prop} (hL : LawAt w0 w a m r k) (hg : GoodZ Z n m r k) (h0 : 0 ≤ n) (hn : n ≤ 4398046500000)
    (hR : ∀ m' r' k' w', LawAt w0 w' a m' r' k' → GoodZ Z (n + 450) m' r' k' → R true w') : hostlaw_World_Deliver.Call (some ⟨a, 0, none⟩) i w R := by
  obtain ⟨G, X, Lg, M, pw, rs, gb, fz⟩ := hg.ghost
  refine deliver_okX (Φ := fun e d G' X' Lg' M' => (m.H d).lost ≤ (inputH (m.H d) e.1.raw).1.lost ∧ (Z.on m k → (inputH (m.H d) e.1.raw).1.lost = (m.H d).lost → ∃ i0, FW k.tk k.tk (fun c => (updS m.H d (inputH (m.H d) e.1.raw).1 c).t) ((delW r.W i.toNat).map (·.1)) ((inputH (m.H d) e.1.raw).2.map flF) G' X' M' i0)) hL hg.toGood pw rs gb h0 hn (fun e d _ he hage hd hB hx => ?_) (fun r' w' h1 g1 ex eN hw => hR m r' k w' h1 ?_) (fun e d G' X' Lg' M' m' r' k' w' _ he hage hd hΦ dx h1 g1 ex => hR m' r' k' w' h1 ?_)
  · have hem := List.mem_of_getElem? he
    have hfr := pw.fr e.1 (List.mem_map.2 ⟨e, hem, rfl⟩)
    obtain ⟨G', X', Lg', M', st, dx⟩ := pw.inputD (rel := False) hd hfr hage id
    refine ⟨G', X', Lg', M', st, st.an.lost.1, fun z hl => ?_⟩
    obtain ⟨⟨i0, fw⟩, _⟩ := fz z
    have := fw.deliver (Wo1 := (delW r.W i.toNat).map (·.1)) pw hd st dx (List.mem_map.2 ⟨e, hem, rfl⟩) (delW_subF he) (fun x hx => by
      obtain ⟨y, hy, rfl⟩ := List.mem_map.1 hx
      exact List.mem_map.2 ⟨y, delW_mem hy, rfl⟩) hx hl (fun z => delW_one he z) (fun z => by omega)
    exact ⟨i0, this⟩
  · refine ⟨g1, hg.zb, by rw [ex]; exact hg.zx, fun z => ?_⟩
    obtain ⟨⟨i0, fw⟩, nf⟩ := fz z
    rcases hw with ⟨eW, _⟩ | ⟨e, _, he, hno, eW⟩
    · exact ⟨G, X, Lg, M, by rw [eW]; exact pw, by rw [eN]; exact rs, gb.mono (by omega), ⟨i0, by rw [eW]; exact fw⟩, by rw [eN]; exact nf⟩
    · exfalso
      have hem : e.1 ∈ r.W.map (·.1) := List.mem_map.2 ⟨e, List.mem_of_getElem? he, rfl⟩
      obtain ⟨d1, d, d2, d3⟩ := fw.dest pw hem (pw.fr e.1 hem)
      rcases hno with z | z
      · omega
      · exact z d d2 d3
  · have l4 : ∀ c, c < 3 → (m.H c).lost ≤ (m'.H c).lost := fun c hc => by
      rw [dx.H]
      by_cases e1 : c = d
      · rw [e1, updS_at]; exact hΦ.1
      · rw [updS_ne e1]; exact Int.le_refl _
    have dsp := dx.sp
    refine g1.setZ (fun z => ?_) (by rw [ex]; exact hg.zx) dx.pw dx.rs dx.gb fun z => ?_
    · obtain ⟨b1, b2⟩ := hg.zb z
      exact ⟨by omega, fun c hc => Int.le_trans (b2 c hc) (l4 c hc)⟩
    · obtain ⟨z1, z2, z3⟩ := z
      obtain ⟨b1, b2⟩ := hg.zb z1
      have e3 : ∀ c, c < 3 → (m.H c).lost = Z.lost c := fun c hc => by
        have := l4 c hc
        have := b2 c hc
        have := z3 c hc
        omega
      have z0 : Z.on m k := ⟨z1, by omega, e3⟩
      obtain ⟨_, nf⟩ := fz z0
      obtain ⟨i0, f1⟩ := hΦ.2 z0 (by
        have := z3 d hd
        rw [dx.H, updS_at] at this
        rw [this, e3 d hd])
      have f2 := f1.merge
      refine ⟨⟨i0, ?_⟩, nf_step nf dx.ws f1.wy⟩
      rw [dx.tk, dx.H, dx.W (by omega)]
      exact f2
theorem settleZ {R : Bool → World → Prop} (hL : LawAt w0 w a m r k) (hg : GoodZ Z n m r k) (h0 : 0 ≤ n) (hn : n ≤ 4398042000000)
    (hR : ∀ m' r' k' w', LawAt w0 w' a m' r' k' → GoodZ Z (n + 3510000) m' r' k' → SetN r' k' → (Z.on m' k' → 90 ≤ k'.calm) → R true w') : hostlaw_World_Settle.Call (some ⟨a, 0, none⟩) w R := by
  apply hostlaw_World_Settle.sound
  unfold hostlaw_World_Settle.B0 hostlaw_World_Settle.L1
  obtain ⟨G0, X0, Lg0, M0, pw0, rs0, gb0, fz0⟩ := hg.ghost
  refine ⟨fun mm a' cal rr w' => ∃ (q : Nat) (m' : LH) (r' : LR) (k' : LC) (cm : Nat) (G : List GE) (X : Nat → CS) (Lg : List LE) (M : Nat → List DG), q ≤ 120 ∧ mm = 120 - q ∧ some ⟨a, 0, none⟩ = a' ∧ rr = (q : Int) ∧ cal = (cm : Int) ∧ cm ≤ q ∧ (∀ e ∈ Z.xs, e ∈ r'.x) ∧ LawAt w0 w' a m' r' k' ∧ Good (n + 29250 * q) m' r' k' ∧ PW k'.tk m'.H (r'.W.map (·.1)) G X Lg M ∧ Rest G X (r'.N.map (·.E)) ∧ GB0 (n + 29250 * q) G ∧ Bth k.tk G ∧ InR k.tk k'.tk cm q r'.W.length m'.H (r'.W.map (·.1)) G X M ∧ k.sp ≤ k'.sp ∧ (∀ c, c < 3 → (m.H c).lost ≤ (m'.H c).lost) ∧ (Z.on m k → k'.sp = k.sp → (∀ c, c < 3 → (m'.H c).lost = (m.H c).lost) → Fw2 k.tk k'.tk m'.H (r'.W.map (·.1)) [] G X M ∧ NF (r'.N.map (·.E)) ∧ cm = q), 120,
    ⟨0, m, r, k, 0, G0, X0, Lg0, M0, by omega, rfl, rfl, rfl, rfl, by omega, hg.zx, hL, hg.toGood.mono (by omega), pw0, rs0, gb0.mono (by omega), Bth.init pw0.sys, by have := InR.start (r := 0) (T0 := k.tk) pw0 (by simp); rw [List.length_map] at this; exact this, Int.le_refl _, fun _ _ => Int.le_refl _, fun z _ _ => ⟨fw2of (fz0 z).1, (fz0 z).2, rfl⟩⟩, ?_⟩
  rintro mm a' cal rr w' ⟨q, m1, r1, k1, cm, G1, X1, Lg1, M1, hq, rfl, rfl, rfl, rfl, c1, zx1, h1, g1, pw1, rs1, gb1, hb1, in1, sp1, lo1, fw1⟩
  have on : Z.on m1 k1 → Z.on m k ∧ k1.sp = k.sp ∧ ∀ c, c < 3 → (m1.H c).lost = (m.H c).lost := fun ⟨z1, z2, z3⟩ => by
    obtain ⟨b1, b2⟩ := hg.zb z1
    have e3 : ∀ c, c < 3 → (m.H c).lost = Z.lost c := fun c hc => by
      have := lo1 c hc
      have := b2 c hc
      have := z3 c hc
      omega
    exact ⟨⟨z1, by omega, e3⟩, by omega, fun c hc => by rw [z3 c hc, e3 c hc]⟩
  unfold hostlaw_World_Settle.L1b
  refine Bm.ite (fun hlt => ?_) fun hge => ?_
  rotate_left
  · refine Pn.mk (h1.stI1 (k' := { k1 with calm := (cm : Int) }) (by omega) rfl rfl ⟨rfl, rfl, rfl⟩ ⟨.inl rfl, .inr rfl, .inr rfl, .inr rfl⟩ fun w2 hs2 h2 e2 => hR m1 r1 _ w2 h2 ?_ ?_ ?_)
    · have hq0 : q = 120 := by omega
      refine ((g1.calm (v := (cm : Int))).mono (by omega)).setZ (fun z => ?_) zx1 pw1 rs1 (gb1.mono (by omega)) fun z => ?_
      · obtain ⟨b1, b2⟩ := hg.zb z
        exact ⟨by show Z.sp ≤ k1.sp; omega, fun c hc => Int.le_trans (b2 c hc) (lo1 c hc)⟩
      · obtain ⟨u1, u2, u3⟩ := on z
        obtain ⟨⟨i0, f⟩, nf, _⟩ := fw1 u1 u2 u3
        have := in1.tm
        exact ⟨⟨i0, f.rebase (by omega)⟩, nf⟩
    · intro h90
      have h90' : (90 : Int) ≤ (cm : Int) := h90
      have hq0 : q = 120 := by omega
      subst hq0
      obtain ⟨Qo, Qn, z, et⟩ := in1.final (by omega)
      exact settled_plain pw1.sys rs1 z (by decide) hb1 (by omega)
    · intro z
      obtain ⟨u1, u2, u3⟩ := on z
      have := (fw1 u1 u2 u3).2.2
      show (90 : Int) ≤ (cm : Int)
      omega
  have h1d := h1.drew
  refine Pn.mk (h1d.ldI (v := k1.sp) (by omega) rfl (Pn.mk (h1d.ldLost0 (h1d.ldLost1 (by omega) (h1d.ldLost1 (by omega) (New.mk fun lb w2 elb hs2 olb he2 => ?_))))))
  have h2 := h1d.ext0 he2
  refine ⟨?_, ?_, ?_, ?_, Sts.full (vs := [.int .i64 (k1.lost 0), .int .i64 (k1.lost 1), .int .i64 (k1.lost 2)]) olb rfl rfl fun w3 hs3 o3 he3 => Pn.mk ?_⟩
  · rw [addA]
    exact h2.own.cell (by rw [fnArr_get _ (by omega)]; exact congrArg some (lawF_lost (c := 0) m1 r1 k1 (by omega)))
  · rw [add2]
    exact h2.own.cell (by rw [fnArr_get _ (by omega)]; exact congrArg some (lawF_lost (c := 1) m1 r1 k1 (by omega)))
  · rw [add2]
    exact h2.own.cell (by rw [fnArr_get _ (by omega)]; exact congrArg some (lawF_lost (c := 2) m1 r1 k1 (by omega)))
  · rw [addA]
    exact h2.own.cell (by rw [fnArr_get _ (by omega)]; rfl)
  have E3 : Ext [] w'.drew w3 := he2.trans' he3 (fun y hy hl => by simp at hy; omega)
  have h3 := (h1d.ext0 E3).setX (xs := ((lb, #[.int .i64 (k1.lost 0), .int .i64 (k1.lost 1), .int .i64 (k1.lost 2)]) :: r1.x)) (fun e he => by
    rcases List.mem_cons.1 he with z | z
    · rw [z]; exact o3
    · exact (h1d.ext0 E3).r.x e z)
  have g3 := g1.setX (xs := ((lb, #[.int .i64 (k1.lost 0), .int .i64 (k1.lost 1), .int .i64 (k1.lost 2)]) :: r1.x))
  refine h3.ldW (wLen_ok h3.r.W ?_)
  have h64 := h3.r.W.len
  unfold hostlaw_World_Settle.L2
  have hln0 : ({ r1 with x := ((lb, #[.int .i64 (k1.lost 0), .int .i64 (k1.lost 1), .int .i64 (k1.lost 2)]) :: r1.x) } : LR).W.length = r1.W.length := rfl
  generalize hln : ({ r1 with x := ((lb, #[.int .i64 (k1.lost 0), .int .i64 (k1.lost 1), .int .i64 (k1.lost 2)]) :: r1.x) } : LR).W.length = ln at *
  rw [← hln0] at in1
  refine ⟨fun mm a' cal' rr' sp' lo' kk w4 => ∃ (p : Nat) (m' : LH) (r' : LR) (k' : LC) (G : List GE) (X : Nat → CS) (Lg : List LE) (M : Nat → List DG), p ≤ ln ∧ p = mm ∧ some ⟨a, 0, none⟩ = a' ∧ (cm : Int) = cal' ∧ (q : Int) = rr' ∧ k1.sp = sp' ∧ lb = lo' ∧ kk = (p : Int) ∧ LawAt w0 w4 a m' r' k' ∧ Good (n + 29250 * q + 450 * (ln - p)) m' r' k' ∧ r'.x = ((lb, #[.int .i64 (k1.lost 0), .int .i64 (k1.lost 1), .int .i64 (k1.lost 2)]) :: r1.x) ∧ PW k'.tk m'.H (r'.W.map (·.1)) G X Lg M ∧ Rest G X (r'.N.map (·.E)) ∧ GB0 (n + 29250 * q + 450 * (ln - p)) G ∧ Bth k.tk G ∧ k'.tk = k1.tk ∧ k1.sp ≤ k'.sp ∧ (∀ c, c < 3 → k1.lost c ≤ k'.lost c) ∧ (k'.sp = k1.sp → (∀ c, c < 3 → k'.lost c = k1.lost c) → InR k.tk k'.tk cm q p m'.H (r'.W.map (·.1)) G X M) ∧ (∀ c, c < 3 → (m.H c).lost ≤ (m'.H c).lost) ∧ (Z.on m k → k'.sp = k.sp → (∀ c, c < 3 → (m'.H c).lost = (m.H c).lost) → Fw2 k.tk k'.tk m'.H ((r'.W.map (·.1)).take p) ((r'.W.map (·.1)).drop p) G X M ∧ NF (r'.N.map (·.E)) ∧ cm = q), ln,
    ⟨ln, m1, _, k1, G1, X1, Lg1, M1, Nat.le_refl _, rfl, rfl, rfl, rfl, rfl, rfl, rfl, h3, g3.mono (by omega), rfl, pw1, rs1, gb1.mono (by omega), hb1, rfl, Int.le_refl _, fun _ _ => Int.le_refl _, fun _ _ => in1, lo1, fun u1 u2 u3 => ?_⟩, ?_⟩
  · obtain ⟨⟨i0, f⟩, nf, e⟩ := fw1 u1 u2 u3
    refine ⟨⟨i0, ?_⟩, nf, e⟩
    have el : (r1.W.map (·.1)).length ≤ ln := by rw [List.length_map]; exact Nat.le_of_eq hln
    show FW _ _ _ ((r1.W.map (·.1)).take ln) ((r1.W.map (·.1)).drop ln) _ _ _ _
    rw [List.take_of_length_le el, List.drop_eq_nil_of_le el]
    exact f
  rintro mm a' cal' rr' sp' lo' kk w4 ⟨p, m4, r4, k4, G4, X4, Lg4, M4, hp, rfl, rfl, rfl, rfl, rfl, rfl, rfl, h4, g4, ex4, pw4, rs4, gb4, hb4, tk4, sp4, lo4, in4, ml4, fw4⟩
  unfold hostlaw_World_Settle.L2b
  refine Bm.ite (fun hpos => ?_) fun hz => ?_
  · obtain ⟨p0, rfl⟩ : ∃ p0, p = p0 + 1 := ⟨p - 1, by omega⟩
    refine deliver_okX (Φ := fun e d G' X' Lg' M' => Bth k.tk G' ∧ (m4.H d).lost ≤ (inputH (m4.H d) e.1.raw).1.lost ∧ (k4.sp = k1.sp → (∀ c, c < 3 → k4.lost c = k1.lost c) → (inputH (m4.H d) e.1.raw).1.lost = (m4.H d).lost → InR k.tk k4.tk cm q p0 (updS m4.H d (inputH (m4.H d) e.1.raw).1) ((delW r4.W 0).map (·.1) ++ (inputH (m4.H d) e.1.raw).2.map flF) G' X' M') ∧ (Z.on m k → k4.sp = k.sp → (∀ c, c < 3 → (m4.H c).lost = (m.H c).lost) → (inputH (m4.H d) e.1.raw).1.lost = (m4.H d).lost → ∃ i0, FW k.tk k4.tk (fun c => (updS m4.H d (inputH (m4.H d) e.1.raw).1 c).t) (((delW r4.W 0).map (·.1)).take p0) (((delW r4.W 0).map (·.1)).drop p0 ++ (inputH (m4.H d) e.1.raw).2.map flF) G' X' M' i0)) h4 g4 pw4 rs4 gb4 (by omega) (by omega) (fun e d _ he hage hd hB hx => ?_) (fun r5 w5 h5 g5 ex5 eN hw => Bm.neg rfl ?_) (fun e d G5 X5 Lg5 M5 m5 r5 k5 w5 _ he hage hd hΦ dx h5 g5 ex5 => Bm.neg rfl ?_)
    · by_cases hcond : k4.sp = k1.sp ∧ ∀ c, c < 3 → k4.lost c = k1.lost c
      · have i4 := in4 hcond.1 hcond.2
        obtain ⟨W1, eW⟩ : ∃ W1, r4.W = e :: W1 := by
          cases hW : r4.W with
          | nil => rw [hW] at he; cases he
          | cons e0 W1 => rw [hW] at he; cases he; exact ⟨W1, rfl⟩
        have i4' := i4
        have pw4' := pw4
        rw [eW, List.map_cons] at i4' pw4'
        obtain ⟨G', X', Lg', M', st, dxx, hin⟩ := i4'.step pw4' hb4 hd hB hx hage
        refine ⟨G', X', Lg', M', ?_, hb4.step pw4.sys st.tr st.sr st.len, st.an.lost.1, fun _ _ z => ?_, fun u1 u2 u3 ul => ?_⟩
        · rw [eW, List.map_cons]; exact st
        · rw [eW, delW_zero]; exact hin z
        · obtain ⟨⟨i0, f⟩, _, ecq⟩ := fw4 u1 u2 u3
          rw [eW, List.map_cons, List.take_succ_cons, List.drop_succ_cons] at f
          rw [eW, delW_zero]
          have tm := i4.tm
          exact ⟨i0, f.deliver pw4' hd st dxx (List.mem_cons_self ..) (fun x hx => List.mem_cons.1 hx) (fun x hx => List.mem_cons_of_mem _ hx) hx ul (fun z => by
            have := congrArg List.tail z
            exact this) (fun z => by omega)⟩
      · have hfr := pw4.fr e.1 (List.mem_map.2 ⟨e, List.mem_of_getElem? he, rfl⟩)
        obtain ⟨G', X', Lg', M', q1, q2, q3, q4, q5, q6⟩ := pw4.input hd hfr hage
        exact ⟨G', X', Lg', M', ⟨q1, q2, q3, q4, q5, q6⟩, hb4.step pw4.sys q3 q4 q6, q2.lost.1, fun z1 z2 _ => absurd ⟨z1, z2⟩ hcond, fun u1 u2 u3 _ => absurd ⟨by omega, fun c hc => by
          have a1 := g4.lost c hc
          have a2 := g1.lost c hc
          have a3 := lo4 c hc
          have a4 := lo1 c hc
          have a5 := u3 c hc
          omega⟩ hcond⟩
    · have sub : ∀ x ∈ r5.W, x ∈ r4.W := fun x hx => by
        rcases hw with ⟨z, _⟩ | ⟨_, _, _, _, z⟩
        · rw [z] at hx; exact hx
        · rw [z] at hx; exact delW_mem hx
      have pw5 : PW k4.tk m4.H (r5.W.map (·.1)) G4 X4 Lg4 M4 := pw4.wire fun f hf => by
        obtain ⟨x, hx, rfl⟩ := List.mem_map.1 hf
        exact pw4.fr x.1 (List.mem_map.2 ⟨x, sub x hx, rfl⟩)
      refine ⟨p0, by omega, p0, m4, r5, k4, G4, X4, Lg4, M4, by omega, rfl, rfl, rfl, rfl, rfl, rfl, by rw [w64 (by omega) (by omega)]; omega, h5, g5.mono (by omega), by rw [ex5]; exact ex4, pw5, by rw [eN]; exact rs4, gb4.mono (by omega), hb4, tk4, sp4, lo4, fun z1 z2 => ?_, ml4, fun u1 u2 u3 => ?_⟩
      rotate_left
      · exfalso
        obtain ⟨⟨i0, f⟩, _, ecq⟩ := fw4 u1 u2 u3
        have c1 : k4.sp = k1.sp := by omega
        have c2 : ∀ c, c < 3 → k4.lost c = k1.lost c := fun c hc => by
          have a1 := g4.lost c hc
          have a2 := g1.lost c hc
          have a3 := lo4 c hc
          have a4 := lo1 c hc
          have a5 := u3 c hc
          omega
        have i4 := in4 c1 c2
        rcases hw with ⟨_, z⟩ | ⟨e, _, he, hno, z⟩
        · have ne := i4.ne pw4
          apply z
          refine ⟨by decide, ?_⟩
          have : r4.W ≠ [] := fun e => ne (by rw [e]; rfl)
          have := List.length_pos_iff.2 this
          omega
        · obtain ⟨W1, eW⟩ : ∃ W1, r4.W = e :: W1 := by
            cases hW : r4.W with
            | nil => rw [hW] at he; cases he
            | cons e0 W1 => rw [hW] at he; cases he; exact ⟨W1, rfl⟩
          have hem : e.1 ∈ (r4.W.map (·.1)).take (p0 + 1) := by rw [eW, List.map_cons, List.take_succ_cons]; exact List.mem_cons_self ..
          obtain ⟨d1, d, d2, d3⟩ := f.dest pw4 hem (pw4.fr e.1 (List.mem_of_mem_take hem))
          rcases hno with v | v
          · omega
          · exact v d d2 d3
      have i4 := in4 z1 z2
      rcases hw with ⟨_, z⟩ | ⟨e, _, he, hno, z⟩
      · exfalso
        have ne := i4.ne pw4
        apply z
        refine ⟨by decide, ?_⟩
        have : r4.W ≠ [] := fun e => ne (by rw [e]; rfl)
        have := List.length_pos_iff.2 this
        omega
      · obtain ⟨W1, eW⟩ : ∃ W1, r4.W = e :: W1 := by
          cases hW : r4.W with
          | nil => rw [hW] at he; cases he
          | cons e0 W1 => rw [hW] at he; cases he; exact ⟨W1, rfl⟩
        have eD : delW r4.W (0 : Int).toNat = W1 := by rw [eW]; exact delW_zero
        rw [z, eD]
        rw [eW, List.map_cons] at i4 pw4
        exact i4.skip pw4 hno
    · have l4 := fun c hc => g4.lost c hc
      have l5 := fun c hc => g5.lost c hc
      have lm : ∀ c, c < 3 → k4.lost c ≤ k5.lost c := fun c hc => by
        rw [l4 c hc, l5 c hc, dx.H]
        by_cases e1 : c = d
        · rw [e1, updS_at]; exact hΦ.2.1
        · rw [updS_ne e1]; exact Int.le_refl _
      have dsp := dx.sp
      refine ⟨p0, by omega, p0, m5, r5, k5, G5, X5, Lg5, M5, by omega, rfl, rfl, rfl, rfl, rfl, rfl, by rw [w64 (by omega) (by omega)]; omega, h5, g5.mono (by omega), by rw [ex5]; exact ex4, dx.pw, dx.rs, dx.gb.mono (by omega), hΦ.1, by rw [dx.tk]; exact tk4, by omega, fun c hc => Int.le_trans (lo4 c hc) (lm c hc), fun z1 z2 => ?_, fun c hc => ?_, fun u1 u2 u3 => ?_⟩
      rotate_left
      · have a1 := l4 c hc
        have a2 := l5 c hc
        have a3 := lm c hc
        have a4 := ml4 c hc
        omega
      · have lmh : ∀ c, c < 3 → (m4.H c).lost = (m.H c).lost := fun c hc => by
          have a1 := l4 c hc
          have a2 := l5 c hc
          have a3 := lm c hc
          have a4 := ml4 c hc
          have a5 := u3 c hc
          omega
        have sp0 : k4.sp = k.sp := by omega
        obtain ⟨_, nf, ecq⟩ := fw4 u1 sp0 lmh
        have hl : (inputH (m4.H d) e.1.raw).1.lost = (m4.H d).lost := by
          have e1 := u3 d hd
          rw [dx.H, updS_at] at e1
          rw [e1, lmh d hd]
        obtain ⟨i0, f⟩ := hΦ.2.2.2 u1 sp0 lmh hl
        have c1 : k4.sp = k1.sp := by omega
        have c2 : ∀ c, c < 3 → k4.lost c = k1.lost c := fun c hc => by
          have a1 := g4.lost c hc
          have a2 := g1.lost c hc
          have a3 := lo4 c hc
          have a4 := lo1 c hc
          have a5 := lmh c hc
          omega
        have i4 := in4 c1 c2
        have hle := i4.le
        obtain ⟨W1, eW⟩ : ∃ W1, r4.W = e :: W1 := by
          cases hW : r4.W with
          | nil => rw [hW] at he; cases he
          | cons e0 W1 => rw [hW] at he; cases he; exact ⟨W1, rfl⟩
        rw [eW, delW_zero] at f
        rw [eW, List.map_cons, List.length_cons] at hle
        refine ⟨⟨i0, ?_⟩, nf_step nf dx.ws f.wy, ecq⟩
        have eWd : delW r4.W (0 : Int).toNat = W1 := by rw [eW]; exact delW_zero
        have edW := dx.W (by omega)
        rw [eWd] at edW
        rw [dx.tk, dx.H, edW, List.take_append_of_le_length (by omega), List.drop_append_of_le_length (by omega)]
        exact f
      have y1 : k4.sp = k1.sp := by omega
      have y2 : ∀ c, c < 3 → k4.lost c = k1.lost c := fun c hc => by
        have := lm c hc
        have := lo4 c hc
        have := z2 c hc
        omega
      have y3 : (inputH (m4.H d) e.1.raw).1.lost = (m4.H d).lost := by
        have e1 := z2 d hd
        have e2 := y2 d hd
        rw [l5 d hd, dx.H, updS_at] at e1
        rw [l4 d hd] at e2
        omega
      have := hΦ.2.2.1 y1 y2 y3
      rw [dx.tk, dx.H, dx.W (by omega)]
      exact this
  · have hp0 : p = 0 := by omega
    subst hp0
    refine tick_lawX h4 g4 pw4 rs4 gb4 (by omega) (by omega) fun G5 X5 Lg5 M5 m5 r5 k5 w5 tx h5 g5 ex5 => Bm.neg rfl ?_
    have h5d := h5.drew
    have zx5 : ∀ e ∈ Z.xs, e ∈ r5.x := fun e he => by rw [ex5, ex4]; exact List.mem_cons_of_mem _ (zx1 e he)
    have hb5 : Bth k.tk G5 := hb4.step (c := 0) pw4.sys tx.tr tx.sr (.inl tx.len)
    have et5 : k5.tk = k.tk + ((q + 1 : Nat) : Int) := by
      have := in1.tm
      rw [tx.tk, tk4, this]
      push_cast
      omega
    have dsp := tx.sp
    have next : ∀ tt : Bool, (tt = false → k5.sp = k1.sp ∧ ∀ c, c < 3 → k5.lost c = k1.lost c) → (tt = true → ¬ (k5.sp = k1.sp ∧ ∀ c, c < 3 → k5.lost c = k1.lost c)) → hostlaw_World_Settle.B1 (some ⟨a, 0, none⟩) (IntKind.i64.wrap ((cm : Int) + 1)) (q : Int) tt w5.drew (fun a' cal rr w' => ∃ m', m' < 120 - q ∧ ∃ (q : Nat) (m'_1 : LH) (r' : LR) (k' : LC) (cm : Nat) (G : List GE) (X : Nat → CS) (Lg : List LE) (M : Nat → List DG), q ≤ 120 ∧ m' = 120 - q ∧ some ⟨a, 0, none⟩ = a' ∧ rr = (q : Int) ∧ cal = (cm : Int) ∧ cm ≤ q ∧ (∀ e ∈ Z.xs, e ∈ r'.x) ∧ LawAt w0 w' a m'_1 r' k' ∧ Good (n + 29250 * q) m'_1 r' k' ∧ PW k'.tk m'_1.H (r'.W.map (·.1)) G X Lg M ∧ Rest G X (r'.N.map (·.E)) ∧ GB0 (n + 29250 * q) G ∧ Bth k.tk G ∧ InR k.tk k'.tk cm q r'.W.length m'_1.H (r'.W.map (·.1)) G X M ∧ k.sp ≤ k'.sp ∧ (∀ c, c < 3 → (m.H c).lost ≤ (m'_1.H c).lost) ∧ (Z.on m k → k'.sp = k.sp → (∀ c, c < 3 → (m'_1.H c).lost = (m.H c).lost) → Fw2 k.tk k'.tk m'_1.H (r'.W.map (·.1)) [] G X M ∧ NF (r'.N.map (·.E)) ∧ cm = q)) R := fun tt htt htt2 => by
      unfold hostlaw_World_Settle.B1 hostlaw_World_Settle.B2
      rw [w64 (by omega) (by omega), w64 (by omega) (by omega)]
      have ml5 : ∀ c, c < 3 → (m4.H c).lost ≤ (m5.H c).lost := fun c hc => by
        rw [tx.H]
        unfold tickHS
        rw [if_pos hc]
        exact tx.ls c hc
      refine Bm.mk (fun ht => ?_) (fun ht => ?_)
      · refine ⟨120 - (q + 1), by omega, q + 1, m5, r5, k5, 0, G5, X5, Lg5, M5, by omega, rfl, rfl, by omega, rfl, by omega, zx5, h5d, g5.mono (by omega), tx.pw, tx.rs, tx.gb.mono (by omega), hb5, ?_, by omega, fun c hc => Int.le_trans (ml4 c hc) (ml5 c hc), fun u1 u2 u3 => ?_⟩
        rotate_left
        · exfalso
          refine htt2 ht ⟨by omega, fun c hc => ?_⟩
          have a1 := g5.lost c hc
          have a2 := g1.lost c hc
          have a3 := ml5 c hc
          have a4 := lo1 c hc
          have a5 := u3 c hc
          have a6 := ml4 c hc
          have a7 := lo4 c hc
          have a8 := g4.lost c hc
          omega
        have := InR.start (r := q + 1) (T0 := k.tk) tx.pw et5
        rw [List.length_map] at this
        exact this
      · obtain ⟨z1, z2⟩ := htt ht
        refine ⟨120 - (q + 1), by omega, q + 1, m5, r5, k5, cm + 1, G5, X5, Lg5, M5, by omega, rfl, rfl, by omega, by omega, by omega, zx5, h5d, g5.mono (by omega), tx.pw, tx.rs, tx.gb.mono (by omega), hb5, ?_, by omega, fun c hc => Int.le_trans (ml4 c hc) (ml5 c hc), fun u1 u2 u3 => ?_⟩
        rotate_left
        · have lmh : ∀ c, c < 3 → (m4.H c).lost = (m.H c).lost := fun c hc => by
            have a3 := ml5 c hc
            have a4 := ml4 c hc
            have a5 := u3 c hc
            omega
          obtain ⟨⟨i0, f⟩, nf, ecq⟩ := fw4 u1 (by omega) lmh
          have hnl : ∀ c, c < 3 → (tickH (m4.H c)).1.lost = (m4.H c).lost := fun c hc => by
            have e1 := u3 c hc
            rw [tx.H] at e1
            unfold tickHS at e1
            rw [if_pos hc] at e1
            rw [e1, lmh c hc]
          have hpw5 := tx.pw
          rw [tx.tk, tx.H] at hpw5
          rw [List.take_zero, List.drop_zero] at f
          have f2 := f.tick (TkF.of pw4 hpw5 tx.tr tx.len tx.cal tx.tx hnl)
          refine ⟨⟨i0, ?_⟩, nf_step nf tx.ws f2.wy, by omega⟩
          rw [tx.tk, tx.H, tx.W (by omega)]
          exact f2
        have l4 := fun c hc => g4.lost c hc
        have l5 := fun c hc => g5.lost c hc
        have eH : ∀ c, c < 3 → k5.lost c = (tickH (m4.H c)).1.lost := fun c hc => by
          rw [l5 c hc, tx.H]
          unfold tickHS
          rw [if_pos hc]
        have y2 : ∀ c, c < 3 → k4.lost c = k1.lost c ∧ (tickH (m4.H c)).1.lost = (m4.H c).lost := fun c hc => by
          have a1 := tx.ls c hc
          have a2 := eH c hc
          have a3 := l4 c hc
          have a4 := lo4 c hc
          have a5 := z2 c hc
          exact ⟨by omega, by omega⟩
        have i4 := in4 (by omega) (fun c hc => (y2 c hc).1)
        have := i4.tick pw4 hb5 (by have := tx.pw; rw [tx.tk, tx.H] at this; exact this) tx.tr tx.sr tx.len tx.cal tx.tx (fun c hc => (y2 c hc).2)
        rw [← tx.W (by omega), List.length_map] at this
        rw [tx.tk, tx.H]
        exact this
    have ox : Own w5.drew lb #[.int .i64 (k1.lost 0), .int .i64 (k1.lost 1), .int .i64 (k1.lost 2)] 45 := h5d.r.x (lb, _) (by rw [ex5, ex4]; exact List.mem_cons_self ..)
    refine Pn.mk (h5d.ldI (v := k5.sp) (by omega) rfl (Bm.mk (fun hsp => next true (fun z => by cases z) (fun _ z => by simp at hsp; exact hsp z.1)) fun hsp => Pn.mk (h5d.ldLost0 (h5d.ldLost1 (by omega) (h5d.ldLost1 (by omega) (LdI.mk ox rfl (LdI.mk ox rfl (LdI.mk ox rfl (next _ (fun z => ?_) (fun z v => ?_))))))))))
    · simp at hsp z
      refine ⟨hsp, fun c hc => ?_⟩
      rcases (show c = 0 ∨ c = 1 ∨ c = 2 by omega) with rfl | rfl | rfl
      · exact z.1
      · exact z.2.1
      · exact z.2.2
    · have e0 := v.2 0 (by omega)
      have e1 := v.2 1 (by omega)
      have e2 := v.2 2 (by omega)
      rw [e0, e1, e2] at z
      simp at z
end
end Go.Proofs.Qxb6500424aGreat
