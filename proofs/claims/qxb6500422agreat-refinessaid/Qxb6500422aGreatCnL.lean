/-
  conn: the model's insert and Input.
-/
import Derived.Test.Qxb6500422aGreatCnK
set_option linter.unusedVariables false
set_option linter.unusedSimpArgs false
open Go.Vc
namespace Go.Proofs.Qxb6500422aGreat
structure RmRel (S : RbS) (hf : Nat → Bool) (vf : Nat → Int) : Prop where
  has : ∀ d, d < 16 → hf d = (S.hv d).isSome
  val : ∀ d x, S.hv d = some x → vf d = x
section
variable {hf : Nat → Bool} {vf : Nat → Int} {S : RbS}
/-- A byte that is put in its place. -/
theorem rel_set {d0 : Int} {W n d : Nat} {P : List Int} {x : Int} (hrel : RmRel { S with hv := insH S.hv d0 W P n } hf vf) (hd : d0 + (n : Int) = (d : Int)) (hW : d < W) (hx : P[n]? = some x) (hv : S.hv d = none) : RmRel { S with hv := insH S.hv d0 W P (n + 1) } (setB hf d true) (setI vf d x) := by
  rw [insH_step hd hW hx, hv]
  refine ⟨fun e he => ?_, fun e y hy => ?_⟩
  · show setB hf d true e = (if e = d then (if (none : Option Int).isSome then none else some x) else insH S.hv d0 W P n e).isSome
    unfold setB
    by_cases c : e = d
    · rw [if_pos c, if_pos c]; rfl
    · rw [if_neg c, if_neg c]; exact hrel.has e he
  · have hy' : (if e = d then (if (none : Option Int).isSome then none else some x) else insH S.hv d0 W P n e) = some y := hy
    show setI vf d x e = y
    unfold setI
    by_cases c : e = d
    · rw [if_pos c] at hy' ⊢
      simpa using hy'
    · rw [if_neg c] at hy' ⊢
      exact hrel.val e y hy'
theorem rel_keep {d0 : Int} {W n d : Nat} {P : List Int} {x y : Int} (hrel : RmRel { S with hv := insH S.hv d0 W P n } hf vf) (hd : d0 + (n : Int) = (d : Int)) (hW : d < W) (hx : P[n]? = some x) (hv : S.hv d = some y) : RmRel { S with hv := insH S.hv d0 W P (n + 1) } hf vf := by
  have e : insH S.hv d0 W P (n + 1) = insH S.hv d0 W P n := by
    rw [insH_step hd hW hx]
    funext e
    by_cases c : e = d
    · subst c
      rw [if_pos rfl, hv, insH_at hd, hv]
      rfl
    · rw [if_neg c]
  rw [e]
  exact hrel
end
section
variable {w w' : World} {m : Nat} {X : MC} {C : CS}
theorem mShift_ok {U : RbS} {X2 : MC} {x : Int} {N2 : Option Addr → World → Prop} {R : World → Prop} (g : CmAt w m X2) (hnx : X2.rnxt = U.nxt) (hrel : RmRel U X2.hf X2.vf) (hw : RbW U)
    (hk : ∀ hf' vf' w', CmAt w' m { X2 with rnxt := (U.nxt + 1) % 256, hf := hf', vf := vf' } → RmRel ⟨(U.nxt + 1) % 256, U.A ++ [x], fun d => U.hv (d + 1)⟩ hf' vf' → Ext [m] w w' → N2 (some ⟨m, 0, none⟩) w') : connm_Conn_insert.L3 (some ⟨m, 0, none⟩) 0 w N2 R := by
  unfold connm_Conn_insert.L3
  refine ⟨fun mm b d w' => ∃ (k : Nat) (hf' : Nat → Bool) (vf' : Nat → Int), k ≤ 15 ∧ mm = 15 - k ∧ some ⟨m, 0, none⟩ = b ∧ d = (k : Int) ∧ CmAt w' m { X2 with hf := hf', vf := vf' } ∧ (∀ e, e < k → hf' e = X2.hf (e + 1) ∧ vf' e = X2.vf (e + 1)) ∧ (∀ e, k ≤ e → hf' e = X2.hf e ∧ vf' e = X2.vf e) ∧ Ext [m] w w', _,
    ⟨0, X2.hf, X2.vf, by omega, rfl, rfl, rfl, g, fun e he => by omega, fun e he => ⟨rfl, rfl⟩, Ext.refl _ _⟩, ?_⟩
  rintro mm b d w' ⟨k, hf', vf', hk15, rfl, rfl, rfl, g', hlo, hhi, he'⟩
  unfold connm_Conn_insert.L3b
  rw [w64 (x := (k : Int) + 1) (by omega) (by omega), show (k : Int) + 1 = ((k + 1 : Nat) : Int) by omega]
  have gd : CmAt w'.drew m { X2 with hf := hf', vf := vf' } := Own.drew g'
  refine Bm.ite (fun hlt => ?_) fun hge => ?_
  · refine Pn.mk ⟨⟨by omega, by omega⟩, gd.ldH (by omega) (Pn.mk ⟨⟨by omega, by omega⟩, gd.ldV (by omega) (Pn.mk ⟨⟨by omega, by omega⟩, Pn.mk ?_⟩)⟩)⟩
    rw [adrH]
    refine gd.stH (by omega) fun w2 hs2 g2 he2 => ⟨⟨by omega, by omega⟩, ?_⟩
    rw [adrV]
    refine g2.stV (by omega) fun w3 hs3 g3 he3 => ⟨15 - (k + 1), by omega, k + 1, _, _, by omega, rfl, rfl, rfl, g3, fun e he => ?_, fun e he => ?_, ((he'.trans (Ext.drew _ _)).trans he2).trans he3⟩
    · show setB hf' k _ e = _ ∧ setI vf' k _ e = _
      unfold setB setI
      by_cases c : e = k
      · subst c
        rw [if_pos rfl, if_pos rfl]
        exact ⟨(hhi (e + 1) (by omega)).1, (hhi (e + 1) (by omega)).2⟩
      · rw [if_neg c, if_neg c]
        exact hlo e (by omega)
    · show setB hf' k _ e = _ ∧ setI vf' k _ e = _
      unfold setB setI
      rw [if_neg (by omega), if_neg (by omega)]
      exact hhi e (by omega)
  · have ek : k = 15 := by omega
    subst ek
    refine Pn.mk ⟨⟨by omega, by omega⟩, Pn.mk ?_⟩
    have a2 : Addr.add (Addr.add (⟨m, 0, none⟩ : Addr) 12) 15 = ⟨m, 12 + 15, none⟩ := by rw [add_mk, add_mk]
    have a18 : Addr.add (Addr.add (⟨m, 0, none⟩ : Addr) 28) 15 = ⟨m, 28 + 15, none⟩ := by rw [add_mk, add_mk]
    rw [a2]
    refine gd.stH (d := 15) (by omega) fun w2 hs2 g2 he2 => ⟨⟨by omega, by omega⟩, ?_⟩
    rw [a18]
    refine g2.stV (d := 15) (by omega) fun w3 hs3 g3 he3 => Pn.mk (g3.ldI (o := 10) (v := X2.rnxt) (by omega) rfl (seqAdd_ok (Pn.mk ?_)))
    rw [hnx]
    refine g3.stRnxt fun w4 hs4 g4 he4 => ?_
    refine hk _ _ w4 g4 ⟨fun e he => ?_, fun e y hy => ?_⟩ ((((he'.trans (Ext.drew _ _)).trans he2).trans he3).trans he4)
    · show setB hf' 15 false e = (U.hv (e + 1)).isSome
      unfold setB
      by_cases c : e = 15
      · rw [if_pos c]
        subst c
        cases hv : U.hv (15 + 1) with
        | none => rfl
        | some z => have := hw.hv _ z hv; omega
      · rw [if_neg c, (hlo e (by omega)).1]
        exact hrel.has (e + 1) (by omega)
    · show setI vf' 15 0 e = y
      have hb := hw.hv (e + 1) y hy
      unfold setI
      rw [if_neg (by omega), (hlo e (by omega)).2]
      exact hrel.val (e + 1) y hy
theorem mInsert_ok {seq : Int} {P : List Int} {pb : Option Addr} {pln pc : Nat} {R : World → Prop} (h : MM w m X C) (hS : RbW C.B) (hpf : C.pf = false) (hP : ∀ w', Ext [m] w w' → Rd w' pb P) (hl : P.length = pln) (hpl : pln ≤ 281474976710656)
    (hR : ∀ X' w', MM w' m X' { C with B := (insA seq P C.B).2 } → (∀ k ∈ X'.blks, k ∈ X.blks ∨ w.heap.size ≤ k) → Ext [m] w w' → R w') : connm_Conn_insert.Call (some ⟨m, 0, none⟩) seq pb pln pc w R := by
  apply connm_Conn_insert.sound
  unfold connm_Conn_insert.B0
  have e := h.rel
  have hnx := hS.nxt
  have hlen := hS.len
  have hPB : IsB P := (hP w (Ext.refl _ _)).isB
  have hml := h.lt
  have hrl := h.rl
  have ern : X.rnxt = C.B.nxt := by rw [e.rnxt]; unfold rcvNxt; rw [if_neg (by rw [hpf]; simp)]
  have hd := h.drew
  refine Pn.mk (hd.own.ldI (o := 10) (by omega) rfl (Pn.mk (hd.own.ldR (seqDiff_ok ⟨hd.own.cellI (by omega) rfl, ?_⟩))))
  rw [ern, w64 (by omega) (by omega), show (16 : Int) - ((X.rl : Nat) : Int) = ((16 - C.B.A.length : Nat) : Int) by omega]
  have hd0 := sqDiff_bd seq C.B.nxt
  unfold insA insS at hR
  generalize sqDiff seq C.B.nxt = d0 at hd0 hR
  generalize hW : 16 - C.B.A.length = W at hR
  unfold connm_Conn_insert.L1
  refine ⟨fun mm b' pb' pl' pc' d0' w0' i w' => ∃ (n : Nat) (hf' : Nat → Bool) (vf' : Nat → Int), n ≤ pln ∧ mm = pln - n ∧ some ⟨m, 0, none⟩ = b' ∧ pb = pb' ∧ pln = pl' ∧ d0 = d0' ∧ ((W : Nat) : Int) = w0' ∧ i = (n : Int) ∧ CmAt w' m { X with hf := hf', vf := vf' } ∧ RmRel { C.B with hv := insH C.B.hv d0 W P n } hf' vf' ∧ Ext [m] w w', _,
    ⟨0, X.hf, X.vf, by omega, rfl, rfl, rfl, rfl, rfl, rfl, rfl, hd.own, by rw [insH_zero]; exact ⟨e.has, e.val⟩, Ext.drew _ _⟩, ?_⟩
  rintro mm b' pb' pl' pc' d0' w0' i w' ⟨n, hf', vf', hn, rfl, rfl, rfl, rfl, rfl, rfl, rfl, g', hrel', he'⟩
  have drain : (n = P.length ∨ (W : Int) ≤ d0 + (n : Int)) → connm_Conn_insert.B1 (some ⟨m, 0, none⟩) pb pln pc' d0 (W : Int) (n : Int) false w' (fun b' pb' pl' pc' d0' w0' i w' => ∃ m', m' < pln - n ∧ ∃ (n : Nat) (hf' : Nat → Bool) (vf' : Nat → Int), n ≤ pln ∧ m' = pln - n ∧ some ⟨m, 0, none⟩ = b' ∧ pb = pb' ∧ pln = pl' ∧ d0 = d0' ∧ ((W : Nat) : Int) = w0' ∧ i = (n : Int) ∧ CmAt w' m { X with hf := hf', vf := vf' } ∧ RmRel { C.B with hv := insH C.B.hv d0 W P n } hf' vf' ∧ Ext [m] w w') R := fun hend => by
    rw [insH_end (by omega) hend] at hrel'
    unfold connm_Conn_insert.B1
    have hw : RbW { C.B with hv := insH C.B.hv d0 W P P.length } := ⟨hS.nxt, hS.len, hS.isB, by rw [← hW]; exact insH_w hPB hS.hv hS.len⟩
    have hX := Tys.one h.own
    have hrow' : Row w' X.rb X.rl X.rc 1 T_uint8 (U8 C.B.A) := rowT h.a he' hX (by decide)
    have hq' : Row w' X.qb X.ql X.qc 1 T_uint8 (U8 C.S.D) := rowT h.q he' hX (by decide)
    generalize hT : ({ C.B with hv := insH C.B.hv d0 W P P.length } : RbS) = T at hw hR hrel'
    have hTA : T.A = C.B.A := by rw [← hT]
    have hTn : T.nxt = C.B.nxt := by rw [← hT]
    refine Bm.neg rfl ?_
    unfold connm_Conn_insert.L2
    generalize hfin : drainN 17 T = fin at hR
    refine ⟨fun mm b' w2 => ∃ (U : RbS) (rb2 : Option Addr) (rl2 rc2 : Nat) (hf2 : Nat → Bool) (vf2 : Nat → Int), mm = 16 - U.A.length ∧ some ⟨m, 0, none⟩ = b' ∧ CmAt w2 m { X with rnxt := U.nxt, rb := rb2, rl := rl2, rc := rc2, hf := hf2, vf := vf2 } ∧ Row w2 rb2 rl2 rc2 1 T_uint8 (U8 U.A) ∧ RmRel U hf2 vf2 ∧ RbW U ∧ (drainN (17 - U.A.length + T.A.length) U).2 = fin.2 ∧ T.A.length ≤ U.A.length ∧ Ext [m] w w2 ∧ (∀ k ∈ rowBlk rb2, k ∈ rowBlk X.rb ∨ w.heap.size ≤ k), _,
      ⟨T, X.rb, X.rl, X.rc, hf', vf', rfl, rfl, ?_, by rw [hTA]; exact hrow', hrel', hw, ?_, Nat.le_refl _, he', fun k hk => .inl hk⟩, ?_⟩
    · rw [hTn, ← ern]; exact g'
    · rw [show 17 - T.A.length + T.A.length = 17 by have := hw.len; omega, hfin]
    rintro mm b' w2 ⟨U, rb2, rl2, rc2, hfu, vfu, rfl, rfl, gu, hru, hrel2, hUw, hf2, hUT, hu2, hb2⟩
    unfold connm_Conn_insert.L2b
    have hUl := hUw.len
    have hdl2 : U.A.length = rl2 := by have := hru.1; rw [U8_length] at this; omega
    obtain ⟨f, hff⟩ : ∃ f, 17 - U.A.length + T.A.length = f + 1 := ⟨16 - U.A.length + T.A.length, by omega⟩
    rw [hff] at hf2
    unfold drainN at hf2
    have ld0 : ∀ {wx : World} {K : Bool → Prop}, CmAt wx m { X with rnxt := U.nxt, rb := rb2, rl := rl2, rc := rc2, hf := hfu, vf := vfu } → K (hfu 0) → LdB (Addr.add ⟨m, 0, none⟩ 12) wx K := fun {wx K} gx hk => by
      have := gx.ldH (d := 0) (by omega) hk
      rw [adrH] at this
      rw [add_mk]
      exact this
    have cell18 : ∀ {wx : World}, CmAt wx m { X with rnxt := U.nxt, rb := rb2, rl := rl2, rc := rc2, hf := hfu, vf := vfu } → wx.cell? (Addr.add ⟨m, 0, none⟩ 28) = some (.int .u8 (vfu 0)) := fun {wx} gx => gx.cellI (by omega) rfl
    have cell1 : ∀ {wx : World}, CmAt wx m { X with rnxt := U.nxt, rb := rb2, rl := rl2, rc := rc2, hf := hfu, vf := vfu } → wx.cell? (Addr.add ⟨m, 0, none⟩ 11) = some (.slice rb2 rl2 rc2) := fun {wx} gx => gx.cellI (by omega) rfl
    refine Pn.mk ⟨⟨by omega, by omega⟩, ld0 gu ?_⟩
    rw [hrel2.has 0 (by omega)]
    cases hv : U.hv 0 with
    | none =>
      rw [hv] at hf2
      simp only at hf2
      refine Bm.neg rfl ?_
      rw [← hf2] at hR
      refine hR _ w2 ⟨gu, rowT h.q hu2 hX (by decide), hru, ⟨e.st, e.why, e.wc, e.fs, e.fa, e.pf, e.iss, e.una, e.sent, ?_, e.pw, e.tm, e.rt, e.cr, e.qt, hrel2.has, hrel2.val⟩⟩ (fun k hk => ?_) hu2
      · show U.nxt = if C.pf = true then _ else U.nxt
        rw [if_neg (by rw [hpf]; simp)]
      · rcases List.mem_append.1 hk with q | q
        · exact .inl (List.mem_append.2 (.inl q))
        · rcases hb2 k q with z | z
          · exact .inl (List.mem_append.2 (.inr z))
          · exact .inr z
    | some x =>
      rw [hv] at hf2
      simp only at hf2
      have h0 := hUw.hv 0 x hv
      have gd := Own.drew gu
      have gd' : CmAt w2.drew m { X with rnxt := U.nxt, rb := rb2, rl := rl2, rc := rc2, hf := hfu, vf := vfu } := gd
      have ex : vfu 0 = x := hrel2.val 0 x hv
      refine Bm.pos rfl (Pn.mk (gd'.ldR (Pn.mk ⟨⟨by omega, by omega⟩, LdI.cell (cell18 gd') ?_⟩)))
      have hV := shift_w hUw hv
      have hl1 : (U.A ++ [x]).length = U.A.length + 1 := by simp
      have z2 := hu2.size
      have ex2d : Ext [m] w w2.drew := hu2.trans (Ext.drew _ _)
      have fin4 : ∀ (k kb : Nat) (wa : World), w.heap.size ≤ k → k ≠ m → Bf wa k U.A → Bf wa kb [x] → CmAt wa m { X with rnxt := U.nxt, rb := rb2, rl := rl2, rc := rc2, hf := hfu, vf := vfu } → Ext [] w2.drew wa → Append 5 (.int .u8 0) 1 1 (some ⟨k, 0, none⟩) rl2 rl2 (some ⟨kb, 0, none⟩) 1 wa fun b83 c83 w3 => Pn (some (⟨m, 0, none⟩ : Addr)) fun a_3 => Sts [.slice b83 (rl2 + 1) c83] (a_3.add 11) 0 w3 fun w4 => connm_Conn_insert.B4 (some ⟨m, 0, none⟩) w4 (fun b' w2 => ∃ m', m' < 16 - U.A.length ∧ ∃ (U : RbS) (rb2 : Option Addr) (rl2 rc2 : Nat) (hf2 : Nat → Bool) (vf2 : Nat → Int), m' = 16 - U.A.length ∧ some ⟨m, 0, none⟩ = b' ∧ CmAt w2 m { X with rnxt := U.nxt, rb := rb2, rl := rl2, rc := rc2, hf := hf2, vf := vf2 } ∧ Row w2 rb2 rl2 rc2 1 T_uint8 (U8 U.A) ∧ RmRel U hf2 vf2 ∧ RbW U ∧ (drainN (17 - U.A.length + T.A.length) U).2 = fin.2 ∧ T.A.length ≤ U.A.length ∧ Ext [m] w w2 ∧ (∀ k ∈ rowBlk rb2, k ∈ rowBlk X.rb ∨ w.heap.size ≤ k)) R := by
        intro k kb wa hk hkm hfk hfb ga hxa
        have hrow := hfk.row
        rw [hdl2] at hrow
        refine app8 (n := 1) hrow hfb.rd0 rfl (by omega) fun b83 c83 w3 hr3 he3 hb3 => Pn.mk ?_
        have g3 : CmAt w3 m { X with rnxt := U.nxt, rb := rb2, rl := rl2, rc := rc2, hf := hfu, vf := vfu } := he3.own ga (by simp [rowBlk]; omega)
        refine g3.stR fun w4 hs4 g4 he4 => ?_
        have hX3 := Tys.one g3
        have hr4 := rowT hr3 he4 hX3 (by decide)
        have e1 : Ext [m] w wa := ex2d.trans hxa.nil
        have e4 : Ext [m] w w4 := (e1.trans' he3 (fun y hy hlt => by simp [rowBlk] at hy; omega)).trans he4
        have hb4 : ∀ k' ∈ rowBlk b83, k' ∈ rowBlk X.rb ∨ w.heap.size ≤ k' := fun k' hk' => by
          rcases hb3 k' hk' with z | z
          · simp [rowBlk] at z; exact .inr (by omega)
          · exact .inr (by have := hxa.size; have : w2.drew.heap.size = w2.heap.size := rfl; omega)
        unfold connm_Conn_insert.B4
        refine mShift_ok (x := x) (U := U) g4 rfl hrel2 hUw fun hf6 vf6 w6 g6 hrel6 he6 => ⟨16 - (U.A.length + 1), by omega, ⟨(U.nxt + 1) % 256, U.A ++ [x], fun d => U.hv (d + 1)⟩, b83, rl2 + 1, c83, hf6, vf6, by rw [hl1], rfl, g6, rowT hr4 he6 (Tys.one g4) (by decide), hrel6, hV, ?_, by rw [hl1]; omega, e4.trans he6, hb4⟩
        rw [hl1, show 17 - (U.A.length + 1) + T.A.length = f by omega]; exact hf2
      have hUrd : Rd w2.drew rb2 U.A := (row_rd hru hUw.isB).ext0 (Ext.drew _ _)
      have zd : w2.drew.heap.size = w2.heap.size := rfl
      have hqd := Own.lt gd'
      have hxB : ∀ kb (wx : World), Own wx kb #[.int .u8 (vfu 0)] 5 → Bf wx kb [x] := fun kb wx ho => by
        rw [ex] at ho
        exact ⟨ho, fun y hy => by simp at hy; omega⟩
      refine ⟨?_, ?_⟩
      · refine copyBytes_ok hUrd hdl2 (show rl2 ≤ 281474976710656 by omega) fun k w3 hk hs3 hf3 he3 => ⟨cell18 (he3.own gd' (by simp)), New.mk fun kb w4 e4 s4 o4 he4 => ?_⟩
        exact fin4 k kb w4 (by omega) (by omega) (hf3.ext0 he4) (hxB kb w4 o4) (he4.own (he3.own gd' (by simp)) (by simp)) (he3.trans he4)
      · refine New.mk fun kb w3 e3 s3 o3 he3 => ⟨cell1 (he3.own gd' (by simp)), copyBytes_ok (hUrd.ext0 he3) hdl2 (show rl2 ≤ 281474976710656 by omega) fun k w4 hk hs4 hf4 he4 => ?_⟩
        exact fin4 k kb w4 (by have := he3.size; omega) (by have := he3.size; omega) hf4 (hxB kb w4 (he4.own o3 (by simp))) (he4.own (he3.own gd' (by simp)) (by simp)) (he3.trans he4)
  unfold connm_Conn_insert.L1b
  refine Bm.ite (fun hlt => ?_) fun hge => drain (.inl (by omega))
  rw [w64 (x := d0 + (n : Int)) (by omega) (by omega)]
  by_cases hcW : d0 + (n : Int) < (W : Int)
  rotate_left
  · rw [decide_eq_false hcW]; exact drain (.inr (by omega))
  rw [decide_eq_true hcW]
  unfold connm_Conn_insert.B1
  rw [w64 (x := d0 + (n : Int)) (by omega) (by omega)]
  have next : ∀ (hf2 : Nat → Bool) (vf2 : Nat → Int) w2, CmAt w2 m { X with hf := hf2, vf := vf2 } → RmRel { C.B with hv := insH C.B.hv d0 W P (n + 1) } hf2 vf2 → Ext [m] w w2 → connm_Conn_insert.B3 (some ⟨m, 0, none⟩) pb pln pc' d0 (W : Int) (n : Int) w2 (fun b' pb' pl' pc' d0' w0' i w' => ∃ m', m' < pln - n ∧ ∃ (n : Nat) (hf' : Nat → Bool) (vf' : Nat → Int), n ≤ pln ∧ m' = pln - n ∧ some ⟨m, 0, none⟩ = b' ∧ pb = pb' ∧ pln = pl' ∧ d0 = d0' ∧ ((W : Nat) : Int) = w0' ∧ i = (n : Int) ∧ CmAt w' m { X with hf := hf', vf := vf' } ∧ RmRel { C.B with hv := insH C.B.hv d0 W P n } hf' vf' ∧ Ext [m] w w') R := fun hf2 vf2 w2 g2 hr2 he2 => by
    unfold connm_Conn_insert.B3
    exact ⟨pln - (n + 1), by omega, n + 1, hf2, vf2, by omega, rfl, rfl, rfl, rfl, rfl, rfl, by rw [w64 (by omega) (by omega)]; omega, g2, hr2, he2⟩
  refine Bm.pos rfl (Bm.ite (fun hpos => ?_) fun hneg => ?_)
  rotate_left
  · unfold connm_Conn_insert.B2
    exact Bm.neg rfl (next hf' vf' w' g' (by rw [insH_low (by omega)]; exact hrel') he')
  obtain ⟨d, hd⟩ : ∃ d : Nat, d0 + (n : Int) = (d : Int) := ⟨(d0 + (n : Int)).toNat, by omega⟩
  rw [hd]
  obtain ⟨x, hx⟩ := get_lt (L := P) (n := n) (by omega)
  have hdW : d < W := by omega
  refine Pn.mk ⟨⟨by omega, by omega⟩, g'.ldH (by omega) ?_⟩
  have hh : hf' d = (C.B.hv d).isSome := by
    have := hrel'.has d (by omega)
    simp only [insH_at hd] at this
    exact this
  show connm_Conn_insert.B2 _ _ _ _ _ _ _ (!(hf' d)) _ _ _
  rw [hh]
  unfold connm_Conn_insert.B2
  rw [w64 (x := d0 + (n : Int)) (by omega) (by omega), hd]
  cases hv : C.B.hv d with
  | some y => exact Bm.neg rfl (next hf' vf' w' g' (rel_keep hrel' hd hdW hx hv) he')
  | none =>
    refine Bm.pos rfl ?_
    have rd2 := hP w'.drew (he'.trans (Ext.drew _ _))
    have gd' : CmAt w'.drew m { X with hf := hf', vf := vf' } := Own.drew g'
    refine rd2.ldn hx hl (Pn.mk ⟨⟨by omega, by omega⟩, Pn.mk ?_⟩)
    rw [adrH]
    refine gd'.stH (by omega) fun w2 hs2 g2 he2 => ⟨⟨by omega, by omega⟩, ?_⟩
    rw [adrV]
    refine g2.stV (by omega) fun w3 hs3 g3 he3 => next _ _ w3 g3 (rel_set hrel' hd hdW hx hv) (((he'.trans (Ext.drew _ _)).trans he2).trans he3)
end
end Go.Proofs.Qxb6500422aGreat
