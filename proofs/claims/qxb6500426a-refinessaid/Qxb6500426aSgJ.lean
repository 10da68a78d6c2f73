/-
  seg: the model's Insert.
-/
import Derived.Test.Qxb6500426aSgI
set_option linter.unusedVariables false
set_option linter.unusedSimpArgs false
open Go.Vc
namespace Go.Proofs.Qxb6500426a

section
variable {w : World} {q : Nat} {db : Option Addr} {dl dc : Nat} {S : RbS}
/-- The row of cells moved down by one. -/
theorem shift_ok {U : RbS} {hf : Nat → Bool} {vf : Nat → Int} {b' : Option Addr} {l' c' : Nat} {n : Int} {x : Int} {N2 : Option Addr → Int → World → Prop} {R : Int → World → Prop} (g : RmAt w q b' l' c' U.nxt hf vf) (hrel : RmRel U hf vf) (hw : RbW U) (hn : 0 ≤ n ∧ n ≤ 1000)
    (hk : ∀ hf' vf' w', RmAt w' q b' l' c' ((U.nxt + 1) % 256) hf' vf' → RmRel ⟨(U.nxt + 1) % 256, U.A ++ [x], fun d => U.hv (d + 1)⟩ hf' vf' → Ext [q] w w' → N2 (some ⟨q, 0, none⟩) (n + 1) w') : segm_RecvBuf_Insert.L3 (some ⟨q, 0, none⟩) n 0 w N2 R := by
  unfold segm_RecvBuf_Insert.L3
  refine ⟨fun mm b n' d w' => ∃ (k : Nat) (hf' : Nat → Bool) (vf' : Nat → Int), k ≤ 15 ∧ mm = 15 - k ∧ some ⟨q, 0, none⟩ = b ∧ n = n' ∧ d = (k : Int) ∧ RmAt w' q b' l' c' U.nxt hf' vf' ∧ (∀ e, e < k → hf' e = hf (e + 1) ∧ vf' e = vf (e + 1)) ∧ (∀ e, k ≤ e → hf' e = hf e ∧ vf' e = vf e) ∧ Ext [q] w w', _,
    ⟨0, hf, vf, by omega, rfl, rfl, rfl, rfl, g, fun e he => by omega, fun e he => ⟨rfl, rfl⟩, Ext.refl _ _⟩, ?_⟩
  rintro mm b n' d w' ⟨k, hf', vf', hk15, rfl, rfl, rfl, rfl, g', hlo, hhi, he'⟩
  unfold segm_RecvBuf_Insert.L3b
  rw [w64 (x := (k : Int) + 1) (by omega) (by omega), show (k : Int) + 1 = ((k + 1 : Nat) : Int) by omega]
  have gd : RmAt w'.drew q b' l' c' U.nxt hf' vf' := Own.drew g'
  refine Bm.ite (fun hlt => ?_) fun hge => ?_
  · refine Pn.mk ⟨⟨by omega, by omega⟩, gd.ldH (by omega) (Pn.mk ⟨⟨by omega, by omega⟩, gd.ldV (by omega) (Pn.mk ⟨⟨by omega, by omega⟩, Pn.mk ?_⟩)⟩)⟩
    rw [adr2]
    refine gd.stH (by omega) fun w2 hs2 g2 he2 => ⟨⟨by omega, by omega⟩, ?_⟩
    rw [adr18]
    refine g2.stV (by omega) fun w3 hs3 g3 he3 => ⟨15 - (k + 1), by omega, k + 1, _, _, by omega, rfl, rfl, rfl, rfl, g3, fun e he => ?_, fun e he => ?_, ((he'.trans (Ext.drew _ _)).trans he2).trans he3⟩
    · unfold setB setI
      by_cases c : e = k
      · subst c
        rw [if_pos rfl, if_pos rfl]
        exact ⟨(hhi (e + 1) (by omega)).1, (hhi (e + 1) (by omega)).2⟩
      · rw [if_neg c, if_neg c]
        exact hlo e (by omega)
    · unfold setB setI
      rw [if_neg (by omega), if_neg (by omega)]
      exact hhi e (by omega)
  · have ek : k = 15 := by omega
    subst ek
    refine Pn.mk ⟨⟨by omega, by omega⟩, Pn.mk ?_⟩
    have a2 : Addr.add (Addr.add (⟨q, 0, none⟩ : Addr) 2) 15 = ⟨q, 2 + 15, none⟩ := by rw [add_mk, add_mk]
    have a18 : Addr.add (Addr.add (⟨q, 0, none⟩ : Addr) 18) 15 = ⟨q, 18 + 15, none⟩ := by rw [add_mk, add_mk]
    rw [a2]
    refine gd.stH (d := 15) (by omega) fun w2 hs2 g2 he2 => ⟨⟨by omega, by omega⟩, ?_⟩
    rw [a18]
    refine g2.stV (d := 15) (by omega) fun w3 hs3 g3 he3 => Pn.mk (g3.ldNxt (seqAdd_ok (Pn.mk (g3.stNxt fun w4 hs4 g4 he4 => ?_))))
    rw [w64 (by omega) (by omega)]
    refine hk _ _ w4 g4 ⟨fun e he => ?_, fun e y hy => ?_⟩ ((((he'.trans (Ext.drew _ _)).trans he2).trans he3).trans he4)
    · show setB hf' 15 false e = (U.hv (e + 1)).isSome
      unfold setB
      by_cases c : e = 15
      · rw [if_pos c]
        subst c
        cases hv : U.hv (15 + 1) with
        | none => rfl
        | some z => have := hw.hv _ z hv; omega
      · rw [if_neg c, (hlo e (by omega)).1]
        exact hrel.has (e + 1) (by omega)
    · show setI vf' 15 0 e = y
      have hb := hw.hv (e + 1) y hy
      unfold setI
      rw [if_neg (by omega), (hlo e (by omega)).2]
      exact hrel.val (e + 1) y hy
theorem mrInsert_ok {seq : Int} {P : List Int} {pb : Option Addr} {pln pc : Nat} {R : Int → World → Prop} (h : RM w q db dl dc S) (hS : RbW S) (hP : ∀ w', Ext [q] w w' → Rd w' pb P) (hl : P.length = pln) (hpl : pln ≤ 281474976710656)
    (hR : RMOut w q db (insA seq P S).2 (R ((insA seq P S).1 : Int))) : segm_RecvBuf_Insert.Call (some ⟨q, 0, none⟩) seq pb pln pc w R := by
  apply segm_RecvBuf_Insert.sound
  unfold segm_RecvBuf_Insert.B0
  obtain ⟨hf, vf, h1, h2⟩ := h.own
  have hnx := hS.nxt
  have hlen := hS.len
  have hPB : IsB P := (hP w (Ext.refl _ _)).isB
  have hql := h.lt
  refine Pn.mk (h1.ldNxt (seqDiff_ok (mrWindow_ok h hS ?_)))
  rw [show (16 : Int) - (S.A.length : Int) = ((16 - S.A.length : Nat) : Int) by omega]
  have hd0 := sqDiff_bd seq S.nxt
  unfold insA insS at hR
  generalize sqDiff seq S.nxt = d0 at hd0 hR
  generalize hW : 16 - S.A.length = W at hR
  unfold segm_RecvBuf_Insert.L1
  refine ⟨fun mm b' pb' pl' pc' d0' w0' i w' => ∃ (n : Nat) (hf' : Nat → Bool) (vf' : Nat → Int), n ≤ pln ∧ mm = pln - n ∧ some ⟨q, 0, none⟩ = b' ∧ pb = pb' ∧ pln = pl' ∧ d0 = d0' ∧ ((W : Nat) : Int) = w0' ∧ i = (n : Int) ∧ RmAt w' q db dl dc S.nxt hf' vf' ∧ RmRel { S with hv := insH S.hv d0 W P n } hf' vf' ∧ Ext [q] w w', _,
    ⟨0, hf, vf, by omega, rfl, rfl, rfl, rfl, rfl, rfl, rfl, h1, by rw [insH_zero]; exact h2, Ext.refl _ _⟩, ?_⟩
  rintro mm b' pb' pl' pc' d0' w0' i w' ⟨n, hf', vf', hn, rfl, rfl, rfl, rfl, rfl, rfl, rfl, g', hrel', he'⟩
  have drain : (n = P.length ∨ (W : Int) ≤ d0 + (n : Int)) → segm_RecvBuf_Insert.B1 (some ⟨q, 0, none⟩) pb pln pc' d0 (W : Int) (n : Int) false w' (fun b' pb' pl' pc' d0' w0' i w' => ∃ m', m' < pln - n ∧ ∃ (n : Nat) (hf' : Nat → Bool) (vf' : Nat → Int), n ≤ pln ∧ m' = pln - n ∧ some ⟨q, 0, none⟩ = b' ∧ pb = pb' ∧ pln = pl' ∧ d0 = d0' ∧ ((W : Nat) : Int) = w0' ∧ i = (n : Int) ∧ RmAt w' q db dl dc S.nxt hf' vf' ∧ RmRel { S with hv := insH S.hv d0 W P n } hf' vf' ∧ Ext [q] w w') R := fun hend => by
    rw [insH_end (by omega) hend] at hrel'
    unfold segm_RecvBuf_Insert.B1
    have hw : RbW { S with hv := insH S.hv d0 W P P.length } := ⟨hS.nxt, hS.len, hS.isB, by rw [← hW]; exact insH_w hPB hS.hv hS.len⟩
    have hrow' : Row w' db dl dc 1 T_uint8 (U8 S.A) := h.row.ext he' (fun k hk hx => by simp at hx; subst hx; exact h.out hk)
    have hrm : RM w' q db dl dc { S with hv := insH S.hv d0 W P P.length } := ⟨⟨hf', vf', g', hrel'⟩, hrow'⟩
    generalize hT : ({ S with hv := insH S.hv d0 W P P.length } : RbS) = T at hw hrm hR
    refine Bm.neg rfl ?_
    unfold segm_RecvBuf_Insert.L2
    have htot := drain_le 17 hw
    generalize hfin : drainN 17 T = fin at hR htot
    refine ⟨fun mm b' n w2 => ∃ (U : RbS) (c : Nat) (db2 : Option Addr) (dl2 dc2 : Nat), mm = 16 - U.A.length ∧ some ⟨q, 0, none⟩ = b' ∧ n = (c : Int) ∧ RM w2 q db2 dl2 dc2 U ∧ RbW U ∧ c ≤ 16 ∧ (drainN (17 - U.A.length + T.A.length) U).1 + c = fin.1 ∧ (drainN (17 - U.A.length + T.A.length) U).2 = fin.2 ∧ T.A.length ≤ U.A.length ∧ Ext [q] w w2 ∧ (∀ k ∈ rowBlk db2, k ∈ rowBlk db ∨ w.heap.size ≤ k), _,
      ⟨T, 0, db, dl, dc, rfl, rfl, rfl, hrm, hw, by omega, ?_, ?_, Nat.le_refl _, he', fun k hk => .inl hk⟩, ?_⟩
    · rw [show 17 - T.A.length + T.A.length = 17 by have := hw.len; omega, hfin]; omega
    · rw [show 17 - T.A.length + T.A.length = 17 by have := hw.len; omega, hfin]
    rintro mm b' n w2 ⟨U, c, db2, dl2, dc2, rfl, rfl, rfl, hu, hUw, hc, hf1, hf2, hUT, hu2, hb2⟩
    obtain ⟨hfu, vfu, gu, hru⟩ := hu.own
    unfold segm_RecvBuf_Insert.L2b
    have hUl := hUw.len
    have hdl2 := hu.len
    obtain ⟨f, hff⟩ : ∃ f, 17 - U.A.length + T.A.length = f + 1 := ⟨16 - U.A.length + T.A.length, by omega⟩
    rw [hff] at hf1 hf2
    unfold drainN at hf1 hf2
    have ld0 : ∀ {wx : World} {K : Bool → Prop}, RmAt wx q db2 dl2 dc2 U.nxt hfu vfu → K (hfu 0) → LdB (Addr.add ⟨q, 0, none⟩ 2) wx K := fun {wx K} gx hk => by
      have := gx.ldH (d := 0) (by omega) hk
      rw [adr2] at this
      rw [add_mk]
      exact this
    have cell18 : ∀ {wx : World}, RmAt wx q db2 dl2 dc2 U.nxt hfu vfu → wx.cell? (Addr.add ⟨q, 0, none⟩ 18) = some (.int .u8 (vfu 0)) := fun {wx} gx => by
      rw [add_mk]
      exact Own.cell gx (by rw [fnArr_get _ (by omega)]; rfl)
    have cell1 : ∀ {wx : World}, RmAt wx q db2 dl2 dc2 U.nxt hfu vfu → wx.cell? (Addr.add ⟨q, 0, none⟩ 1) = some (.slice db2 dl2 dc2) := fun {wx} gx => by
      rw [add_mk]
      exact Own.cell gx (by rw [fnArr_get _ (by omega)]; rfl)
    refine Pn.mk ⟨⟨by omega, by omega⟩, ld0 gu ?_⟩
    rw [hru.has 0 (by omega)]
    cases hv : U.hv 0 with
    | none =>
      rw [hv] at hf1 hf2
      simp only at hf1 hf2
      refine Bm.neg rfl ?_
      rw [show c = fin.1 by omega]
      refine hR db2 dl2 dc2 w2 ?_ hu2 hb2
      rw [← hf2]
      exact hu
    | some x =>
      rw [hv] at hf1 hf2
      simp only at hf1 hf2
      have h0 := hUw.hv 0 x hv
      have gd : RmAt w2.drew q db2 dl2 dc2 U.nxt hfu vfu := Own.drew gu
      have ex : vfu 0 = x := hru.val 0 x hv
      refine Bm.pos rfl (Pn.mk (gd.ldD (Pn.mk ⟨⟨by omega, by omega⟩, LdI.cell (cell18 gd) ?_⟩)))
      have hV := shift_w hUw hv
      have hl1 : (U.A ++ [x]).length = U.A.length + 1 := by simp
      -- behind the append
      have b4 : ∀ (b' : Option Addr) (c' : Nat) (w5 : World), RmAt w5 q b' (dl2 + 1) c' U.nxt hfu vfu → Row w5 b' (dl2 + 1) c' 1 T_uint8 (U8 (U.A ++ [x])) → Ext [q] w w5 → (∀ k ∈ rowBlk b', k ∈ rowBlk db ∨ w.heap.size ≤ k) → segm_RecvBuf_Insert.B4 (some ⟨q, 0, none⟩) (c : Int) w5 (fun b' n' w2 => ∃ m', m' < 16 - U.A.length ∧ ∃ (U : RbS) (c : Nat) (db2 : Option Addr) (dl2 dc2 : Nat), m' = 16 - U.A.length ∧ some ⟨q, 0, none⟩ = b' ∧ n' = (c : Int) ∧ RM w2 q db2 dl2 dc2 U ∧ RbW U ∧ c ≤ 16 ∧ (drainN (17 - U.A.length + T.A.length) U).1 + c = fin.1 ∧ (drainN (17 - U.A.length + T.A.length) U).2 = fin.2 ∧ T.A.length ≤ U.A.length ∧ Ext [q] w w2 ∧ (∀ k ∈ rowBlk db2, k ∈ rowBlk db ∨ w.heap.size ≤ k)) R := by
        intro b' c' w5 g5 hr5 he5 hb5
        unfold segm_RecvBuf_Insert.B4
        refine shift_ok (x := x) g5 hru hUw (by omega) fun hf6 vf6 w6 g6 hrel6 he6 => ⟨16 - (U.A.length + 1), by omega, ⟨(U.nxt + 1) % 256, U.A ++ [x], fun d => U.hv (d + 1)⟩, c + 1, b', dl2 + 1, c', by rw [hl1], rfl, by omega, ⟨⟨hf6, vf6, g6, hrel6⟩, ?_⟩, hV, by have := drain_le f hV; omega, ?_, ?_, by rw [hl1]; omega, he5.trans he6, hb5⟩
        · exact hr5.ext he6 (fun k hk hx => by
            simp at hx
            subst hx
            obtain ⟨_, ho'⟩ := hr5.ty hk
            exact Own.ne_type g5 ho' (by decide) rfl)
        · rw [hl1, show 17 - (U.A.length + 1) + T.A.length = f by omega]; omega
        · rw [hl1, show 17 - (U.A.length + 1) + T.A.length = f by omega]; exact hf2
      have z2 := hu2.size
      have ex2d : Ext [q] w w2.drew := hu2.trans (Ext.drew _ _)
      -- the append, over a fresh copy and a fresh byte
      have fin4 : ∀ (k kb : Nat) (wa : World), w.heap.size ≤ k → k ≠ q → Bf wa k U.A → Bf wa kb [x] → RmAt wa q db2 dl2 dc2 U.nxt hfu vfu → Ext [] w2.drew wa → Append 5 (.int .u8 0) 1 1 (some ⟨k, 0, none⟩) dl2 dl2 (some ⟨kb, 0, none⟩) 1 wa fun b83 c83 w3 => Pn (some (⟨q, 0, none⟩ : Addr)) fun a_3 => Sts [.slice b83 (dl2 + 1) c83] (a_3.add 1) 0 w3 fun w4 => segm_RecvBuf_Insert.B4 (some ⟨q, 0, none⟩) (c : Int) w4 (fun b' n' w2 => ∃ m', m' < 16 - U.A.length ∧ ∃ (U : RbS) (c : Nat) (db2 : Option Addr) (dl2 dc2 : Nat), m' = 16 - U.A.length ∧ some ⟨q, 0, none⟩ = b' ∧ n' = (c : Int) ∧ RM w2 q db2 dl2 dc2 U ∧ RbW U ∧ c ≤ 16 ∧ (drainN (17 - U.A.length + T.A.length) U).1 + c = fin.1 ∧ (drainN (17 - U.A.length + T.A.length) U).2 = fin.2 ∧ T.A.length ≤ U.A.length ∧ Ext [q] w w2 ∧ (∀ k ∈ rowBlk db2, k ∈ rowBlk db ∨ w.heap.size ≤ k)) R := by
        intro k kb wa hk hkq hfk hfb ga hxa
        have hrow := hfk.row
        rw [hdl2] at hrow
        refine app8 (n := 1) hrow hfb.rd0 rfl (by omega) fun b83 c83 w3 hr3 he3 hb3 => Pn.mk ?_
        have g3 : RmAt w3 q db2 dl2 dc2 U.nxt hfu vfu := he3.own ga (by simp [rowBlk]; omega)
        refine g3.stD fun w4 hs4 g4 he4 => b4 b83 c83 w4 g4 ?_ ?_ fun k' hk' => ?_
        · exact hr3.ext he4 (fun k' hk' hx => by
            simp at hx
            subst hx
            obtain ⟨_, ho'⟩ := hr3.ty hk'
            exact Own.ne_type g3 ho' (by decide) rfl)
        · have e1 : Ext [q] w wa := ex2d.trans hxa.nil
          exact (e1.trans' he3 (fun y hy hlt => by simp [rowBlk] at hy; omega)).trans he4
        · rcases hb3 k' hk' with z | z
          · simp [rowBlk] at z; exact .inr (by omega)
          · exact .inr (by have := hxa.size; have : w2.drew.heap.size = w2.heap.size := rfl; omega)
      have hUrd : Rd w2.drew db2 U.A := (hu.drew).rd hUw
      have zd : w2.drew.heap.size = w2.heap.size := rfl
      have hqd := gd.lt
      have hxB : ∀ kb (wx : World), Own wx kb #[.int .u8 (vfu 0)] 5 → Bf wx kb [x] := fun kb wx ho => by
        rw [ex] at ho
        exact ⟨ho, fun y hy => by simp at hy; omega⟩
      refine ⟨?_, ?_⟩
      · refine copyBytes_ok hUrd hdl2 (by omega) fun k w3 hk hs3 hf3 he3 => ⟨cell18 (he3.own gd (by simp)), New.mk fun kb w4 e4 s4 o4 he4 => ?_⟩
        exact fin4 k kb w4 (by omega) (by omega) (hf3.ext0 he4) (hxB kb w4 o4) (he4.own (he3.own gd (by simp)) (by simp)) (he3.trans he4)
      · refine New.mk fun kb w3 e3 s3 o3 he3 => ⟨cell1 (he3.own gd (by simp)), copyBytes_ok (hUrd.ext0 he3) hdl2 (by omega) fun k w4 hk hs4 hf4 he4 => ?_⟩
        exact fin4 k kb w4 (by have := he3.size; omega) (by have := he3.size; omega) hf4 (hxB kb w4 (he4.own o3 (by simp))) (he4.own (he3.own gd (by simp)) (by simp)) (he3.trans he4)
  unfold segm_RecvBuf_Insert.L1b
  refine Bm.ite (fun hlt => ?_) fun hge => drain (.inl (by omega))
  rw [w64 (x := d0 + (n : Int)) (by omega) (by omega)]
  by_cases hcW : d0 + (n : Int) < (W : Int)
  rotate_left
  · rw [decide_eq_false hcW]; exact drain (.inr (by omega))
  rw [decide_eq_true hcW]
  unfold segm_RecvBuf_Insert.B1
  rw [w64 (x := d0 + (n : Int)) (by omega) (by omega)]
  have next : ∀ (hf2 : Nat → Bool) (vf2 : Nat → Int) w2, RmAt w2 q db dl dc S.nxt hf2 vf2 → RmRel { S with hv := insH S.hv d0 W P (n + 1) } hf2 vf2 → Ext [q] w w2 → segm_RecvBuf_Insert.B3 (some ⟨q, 0, none⟩) pb pln pc' d0 (W : Int) (n : Int) w2 (fun b' pb' pl' pc' d0' w0' i w' => ∃ m', m' < pln - n ∧ ∃ (n : Nat) (hf' : Nat → Bool) (vf' : Nat → Int), n ≤ pln ∧ m' = pln - n ∧ some ⟨q, 0, none⟩ = b' ∧ pb = pb' ∧ pln = pl' ∧ d0 = d0' ∧ ((W : Nat) : Int) = w0' ∧ i = (n : Int) ∧ RmAt w' q db dl dc S.nxt hf' vf' ∧ RmRel { S with hv := insH S.hv d0 W P n } hf' vf' ∧ Ext [q] w w') R := fun hf2 vf2 w2 g2 hr2 he2 => by
    unfold segm_RecvBuf_Insert.B3
    exact ⟨pln - (n + 1), by omega, n + 1, hf2, vf2, by omega, rfl, rfl, rfl, rfl, rfl, rfl, by rw [w64 (by omega) (by omega)]; omega, g2, hr2, he2⟩
  refine Bm.pos rfl (Bm.ite (fun hpos => ?_) fun hneg => ?_)
  rotate_left
  · unfold segm_RecvBuf_Insert.B2
    exact Bm.neg rfl (next hf' vf' w' g' (by rw [insH_low (by omega)]; exact hrel') he')
  obtain ⟨d, hd⟩ : ∃ d : Nat, d0 + (n : Int) = (d : Int) := ⟨(d0 + (n : Int)).toNat, by omega⟩
  rw [hd]
  obtain ⟨x, hx⟩ := get_lt (L := P) (n := n) (by omega)
  have hdW : d < W := by omega
  refine Pn.mk ⟨⟨by omega, by omega⟩, g'.ldH (by omega) ?_⟩
  have hh : hf' d = (S.hv d).isSome := by
    have := hrel'.has d (by omega)
    simp only [insH_at hd] at this
    exact this
  rw [hh]
  unfold segm_RecvBuf_Insert.B2
  rw [w64 (x := d0 + (n : Int)) (by omega) (by omega), hd]
  cases hv : S.hv d with
  | some y => exact Bm.neg rfl (next hf' vf' w' g' (rel_keep hrel' hd hdW hx hv) he')
  | none =>
    refine Bm.pos rfl (Pn.mk ⟨⟨by omega, by omega⟩, ?_⟩)
    rw [adr2]
    refine g'.stH (by omega) fun w2 hs2 g2 he2 => ?_
    have rd2 := hP w2.drew ((he'.trans he2).trans (Ext.drew _ _))
    refine rd2.ldn hx hl (Pn.mk ⟨⟨by omega, by omega⟩, ?_⟩)
    rw [adr18]
    refine RmAt.stV (w := w2.drew) g2 (by omega) fun w3 hs3 g3 he3 => next _ _ w3 g3 (rel_set hrel' hd hdW hx hv) (((he'.trans he2).trans (Ext.drew _ _)).trans he3)
end
end Go.Proofs.Qxb6500426a
