/-
  the real receive buffer: Reset, Ahead, Bytes, Read, Insert (cut out of gen/seg).
-/
import Derived.Test.Qxb6500424aGreatBfC
set_option linter.unusedVariables false
set_option linter.unusedSimpArgs false
open Go.Vc
namespace Go.Proofs.Qxb6500424aGreat


/-! ### lists of numbers -/
def iv (x : Int) : Value := .int .i64 x
def IAt (w : World) (r : Nat) (L : List Int) : Prop := Own w r (L.map iv).toArray T_int
section
variable {w : World} {r : Nat} {L : List Int}
theorem IAt.ext {w' : World} {S : List Nat} (h : IAt w r L) (he : Ext S w w') (hb : r ∉ S) : IAt w' r L := he.own h hb
theorem IAt.lt (h : IAt w r L) : r < w.heap.size := Own.lt h
theorem IAt.ld {A : Addr} {k : Nat} {x : Int} {K : Int → Prop} (h : IAt w r L) (hA : A = ⟨r, k, none⟩) (hx : L[k]? = some x) (hk : K x) : LdI .i64 A w K := by
  subst hA
  exact LdI.mk h (by simp [hx, iv]) hk
theorem IAt.st {A : Addr} {k : Nat} {x : Int} {K : World → Prop} (h : IAt w r L) (hA : A = ⟨r, k, none⟩) (hl : k < L.length) (hk : ∀ w', w'.heap.size = w.heap.size → IAt w' r (L.set k x) → Ext [r] w w' → K w') : Sts [.int .i64 x] A 0 w K := by
  subst hA
  refine Sts.mk h (by simp; omega) rfl fun w' hs ho he => hk w' hs ?_ he
  have e : putArr (L.map iv).toArray k [.int .i64 x] = ((L.set k x).map iv).toArray := by
    show (L.map iv).toArray.setIfInBounds k (iv x) = _
    rw [List.setIfInBounds_toArray, List.map_set]
  rw [e] at ho
  exact ho
theorem IAt.make {n : Nat} {K : Nat → World → Prop} (hn : n ≤ 100) (hk : ∀ r w', r = w.heap.size → w'.heap.size = r + 1 → IAt w' r (List.replicate n 0) → Ext [] w w' → K r w') : Make T_int (.int .i64 0) 1 8 (n : Int) (n : Int) w K :=
  Make.mk (by omega) (by omega) (by omega) (by omega) fun r w' e1 e2 ho he => hk r w' e1 e2 (by
    rw [show Value.cells (.int .i64 0) = #[.int .i64 0] from rfl, madeCells_one, Nat.mul_one, Int.toNat_natCast] at ho
    unfold IAt
    rw [List.map_replicate, List.toArray_replicate]
    exact ho) he
theorem addr_i (r : Nat) (k : Nat) : Addr.add ⟨r, 0, none⟩ ((k : Int).toNat * 1) = ⟨r, k, none⟩ := by
  rw [add_mk, Int.toNat_natCast]; simp
end
def aheadL (S : RbS) : List Int := (List.range 16).map fun d => (S.hv d).getD (-1)
theorem aheadL_len (S : RbS) : (aheadL S).length = 16 := by simp [aheadL]
theorem aheadL_get (S : RbS) {d : Nat} (hd : d < 16) : (aheadL S)[d]? = some ((S.hv d).getD (-1)) := by simp [aheadL, hd]
section
variable {w : World} {p : Nat} {X : RbR} {S : RbS}
theorem rReset_ok {seq : Int} {R : World → Prop} (h : RR w p S) (hR : ∀ w', RR w' p (resetR seq) → Ext [p] w w' → R w') : seg_RecvBuf_Reset.Call (some ⟨p, 0, none⟩) seq w R := by
  apply seg_RecvBuf_Reset.sound
  unfold seg_RecvBuf_Reset.B0
  obtain ⟨X, h1, h2⟩ := h
  refine seqAdd_ok (Pn.mk ?_)
  have hb := sqAdd_bd seq 0
  rw [wrap8_id hb.1 hb.2]
  exact h1.stNxt fun w1 hs1 g1 he1 => Pn.mk (g1.stAv (v := 0) fun w2 hs2 g2 he2 => Pn.mk (g2.stB (v := 0#16) fun w3 hs3 g3 he3 => hR w3 ⟨_, g3, ⟨rfl, rfl, fun i x hx => by simp [resetR] at hx, fun d hd => by simp [resetR], fun d x h => (by cases h)⟩⟩ ((he1.trans he2).trans he3)))
theorem first_ok {n : Nat} {R : Option Addr → Nat → Nat → World → Prop} (h : RR w p S) (hS : RbW S) (hb : n ≤ S.A.length) (hR : ∀ k w', w.heap.size ≤ k → Bf w' k (S.A.take n) → Ext [] w w' → R (some ⟨k, 0, none⟩) n n w') : seg_RecvBuf_first.Call (some ⟨p, 0, none⟩) (n : Int) w R := by
  apply seg_RecvBuf_first.sound
  unfold seg_RecvBuf_first.B0
  obtain ⟨X, h1, h2⟩ := h
  have hl := hS.len
  have hnx := hS.nxt
  have hav := h2.av
  refine make8_ok rfl (by omega) (by omega) fun k w1 hk hs1 hf1 he1 => ?_
  have g1 := (h1.ext0 he1).drew
  refine Pn.mk (g1.ldNxt (Pn.mk (g1.ldAv ⟨by decide, ?_⟩)))
  rw [Int.toNat_natCast] at hf1 ⊢
  rw [h2.nxt, w64b hS.nxt, w64 (x := S.nxt + 256) (by omega) (by omega), w64 (x := S.nxt + 256 - (X.av : Int)) (by omega) (by omega), tmod_pos _ (by omega), show (S.nxt + 256 - (X.av : Int)) % 16 = (((S.nxt.toNat + 256 - S.A.length) % 16 : Nat) : Int) by omega]
  generalize ha : (S.nxt.toNat + 256 - S.A.length) % 16 = a
  have ha16 : a < 16 := by omega
  rw [w64 (x := (16 : Int) - (a : Int)) (by omega) (by omega), show (16 : Int) - (a : Int) = ((16 - a : Nat) : Int) by omega]
  have hL : (S.A.take n).length = n := by simp; omega
  have hB : IsB (S.A.take n) := hS.isB.take n
  have hr : ∀ (i : Nat) x, (S.A.take n)[i]? = some x → X.r ((a + i) % 16) = x := fun i x hx => by
    have hi := (List.getElem?_eq_some_iff.1 hx).1
    rw [List.getElem?_take, if_pos (by omega)] at hx
    rw [← h2.ready i x hx]
    congr 1
    omega
  have hf1' : Bf w1.drew k (List.replicate n 0) := hf1.ext0 (Ext.drew _ _)
  have ex1 : Ext [] w w1.drew := he1.trans (Ext.drew _ _)
  have run : ∀ q : Nat, q ≤ n → a + q ≤ 16 → (q = n ∨ (q < n ∧ a + q = 16)) → seg_RecvBuf_first.B1 (some ⟨p, 0, none⟩) (n : Int) (some ⟨k, 0, none⟩) n n (a : Int) (q : Int) w1.drew R := fun q hq hq2 hq3 => by
    unfold seg_RecvBuf_first.B1
    rw [w64 (x := (a : Int) + (q : Int)) (by omega) (by omega), w64 (x := (n : Int) - (q : Int)) (by omega) (by omega)]
    refine Pn.mk ⟨⟨by omega, by omega⟩, ⟨by omega, by omega⟩, ?_⟩
    have eA : slBaseA ⟨p, 0, none⟩ (a : Int) ((16 : Nat) : Int) 1 = ⟨p, a, none⟩ := by
      unfold slBaseA
      rw [if_neg (by omega), addr_k]
      simp
    have e0 : slBaseA ⟨p, 0, none⟩ ((0 : Nat) : Int) ((16 : Nat) : Int) 1 = ⟨p, 0, none⟩ := by
      unfold slBaseA
      rw [if_neg (by omega), addr_k]
    rw [eA, show ((a : Int) + (q : Int)).toNat - (a : Int).toNat = q by omega]
    refine ring_fst (r := X.r) g1 (by omega) (fun i hi => rbF_ring hi) ha16 hL hB hr hq hq2 hf1' fun w2 hs2 hf2 he2 => ⟨⟨by omega, by omega⟩, Pn.mk ⟨⟨by omega, by omega⟩, ?_⟩⟩
    rw [e0, show ((n : Nat) : Int).toNat - (q : Int).toNat = n - q by omega, show ((n : Int) - (q : Int)).toNat - ((0 : Nat) : Int).toNat = n - q by omega]
    have ex2 : Ext [] w w2 := ex1.trans' he2 (fun x hx hlt => by simp at hx; omega)
    refine ring_snd (r := X.r) ((h1.ext0 ex2).drew) (by omega) (fun i hi => rbF_ring hi) ha16 hL (by omega) hB hr hq3 (hf2.ext0 (Ext.drew _ _)) fun x w3 hs3 hf3 he3 => ?_
    exact hR k w3 (by omega) hf3 ((ex2.trans (Ext.drew _ _)).trans' he3 (fun x hx hlt => by simp at hx; omega))
  exact Bm.ite (fun hc => run n (by omega) (by omega) (.inl rfl)) fun hc => run (16 - a) (by omega) (by omega) (by omega)
def readA (mx : Int) (S : RbS) : RbS := { S with A := S.A.drop (leastN mx S.A.length) }
theorem readA_ok (hS : RbOk S) (mx : Int) : RbOk (readA mx S) := by
  have := leastN_le mx S.A.length
  have := hS.len
  exact ⟨⟨hS.nxt, by simp [readA]; omega, hS.isB.drop _, fun d x hx => by have := hS.hv d x hx; simp [readA]; omega⟩, hS.z⟩
theorem rRead_ok {mx : Int} {R : Option Addr → Nat → Nat → World → Prop} (h : RR w p S) (hS : RbW S) (hR : ∀ k w', w.heap.size ≤ k → Bf w' k (S.A.take (leastN mx S.A.length)) → RR w' p (readA mx S) → Ext [p] w w' → R (some ⟨k, 0, none⟩) (leastN mx S.A.length) (leastN mx S.A.length) w') : seg_RecvBuf_Read.Call (some ⟨p, 0, none⟩) mx w R := by
  apply seg_RecvBuf_Read.sound
  unfold seg_RecvBuf_Read.B0
  have hx := h
  obtain ⟨X, h1, h2⟩ := hx
  have hl := hS.len
  have hn := leastN_le mx S.A.length
  have hpl := h.lt
  have hnx := hS.nxt
  refine Pn.mk (h1.ldAv ?_)
  rw [h2.av]
  refine least_ok (first_ok h hS hn fun k w2 hk hf he2 => ?_)
  have g2 := h1.ext0 he2
  refine Pn.mk (g2.ldAv (Pn.mk ?_))
  rw [h2.av, w64 (by omega) (by omega), show (S.A.length : Int) - (leastN mx S.A.length : Int) = ((S.A.length - leastN mx S.A.length : Nat) : Int) by omega]
  refine g2.stAv fun w3 hs3 g3 he3 => hR k w3 hk (hf.ext he3 (by simp; omega)) ⟨_, g3, ⟨h2.nxt, by simp [readA], fun i x hx => ?_, h2.bits, h2.vals⟩⟩ ((he2.nil).trans he3)
  show X.r ((S.nxt.toNat + 256 - (S.A.drop (leastN mx S.A.length)).length + i) % 16) = x
  have hx' : (S.A.drop (leastN mx S.A.length))[i]? = some x := hx
  rw [List.getElem?_drop] at hx'
  rw [← h2.ready _ x hx', List.length_drop]
  congr 1
  omega
/-! ### Insert -/
def insH (hv : Nat → Option Int) (d0 : Int) (W : Nat) (P : List Int) (i : Nat) : Nat → Option Int := fun d => if (hv d).isSome then hv d else if d < W ∧ 0 ≤ (d : Int) - d0 ∧ (d : Int) - d0 < (i : Int) then P[((d : Int) - d0).toNat]? else none
def drainN : Nat → RbS → Nat × RbS
  | 0, S => (0, S)
  | f + 1, S => match S.hv 0 with
    | none => (0, S)
    | some x => ((drainN f ⟨(S.nxt + 1) % 256, S.A ++ [x], fun d => S.hv (d + 1)⟩).1 + 1, (drainN f ⟨(S.nxt + 1) % 256, S.A ++ [x], fun d => S.hv (d + 1)⟩).2)
def insS (seq : Int) (P : List Int) (S : RbS) : RbS := { S with hv := insH S.hv (sqDiff seq S.nxt) (16 - S.A.length) P P.length }
def insA (seq : Int) (P : List Int) (S : RbS) : Nat × RbS := drainN 17 (insS seq P S)
theorem insH_zero (hv : Nat → Option Int) (d0 : Int) (W : Nat) (P : List Int) : insH hv d0 W P 0 = hv := by
  funext d
  unfold insH
  cases h : hv d with
  | some x => simp
  | none => simp; intro _ _ h; omega
theorem insH_low {hv : Nat → Option Int} {d0 : Int} {W : Nat} {P : List Int} {i : Nat} (h : d0 + (i : Int) < 0) : insH hv d0 W P (i + 1) = insH hv d0 W P i := by
  funext d
  unfold insH
  split
  · rfl
  · by_cases c : d < W ∧ 0 ≤ (d : Int) - d0 ∧ (d : Int) - d0 < (i : Int)
    · rw [if_pos c, if_pos (by omega)]
    · rw [if_neg c, if_neg (by omega)]
theorem insH_at {hv : Nat → Option Int} {d0 : Int} {W : Nat} {P : List Int} {i d : Nat} (h : d0 + (i : Int) = (d : Int)) : insH hv d0 W P i d = hv d := by
  unfold insH
  split
  · rfl
  · rename_i hn
    rw [if_neg (by omega)]
    cases hd : hv d with
    | none => rfl
    | some x => rw [hd] at hn; simp at hn
theorem insH_step {hv : Nat → Option Int} {d0 : Int} {W : Nat} {P : List Int} {i d : Nat} {x : Int} (h : d0 + (i : Int) = (d : Int)) (hW : d < W) (hx : P[i]? = some x) : insH hv d0 W P (i + 1) = fun e => if e = d then (if (hv d).isSome then hv d else some x) else insH hv d0 W P i e := by
  funext e
  by_cases c : e = d
  · subst c
    rw [if_pos rfl]
    unfold insH
    by_cases hs : (hv e).isSome = true
    · rw [if_pos hs, if_pos hs]
    · rw [if_neg hs, if_neg hs, if_pos (by omega), show ((e : Int) - d0).toNat = i by omega, hx]
  · rw [if_neg c]
    unfold insH
    split
    · rfl
    · by_cases c2 : e < W ∧ 0 ≤ (e : Int) - d0 ∧ (e : Int) - d0 < (i : Int)
      · rw [if_pos c2, if_pos (by omega)]
      · rw [if_neg c2, if_neg (by omega)]
theorem insH_end {hv : Nat → Option Int} {d0 : Int} {W : Nat} {P : List Int} {i : Nat} (hi : i ≤ P.length) (h : i = P.length ∨ (W : Int) ≤ d0 + (i : Int)) : insH hv d0 W P i = insH hv d0 W P P.length := by
  rcases h with rfl | h
  · rfl
  · funext d
    unfold insH
    split
    · rfl
    · by_cases c : d < W ∧ 0 ≤ (d : Int) - d0 ∧ (d : Int) - d0 < (i : Int)
      · rw [if_pos c, if_pos (by omega)]
      · rw [if_neg c, if_neg (by omega)]
theorem insH_w {hv : Nat → Option Int} {d0 : Int} {P : List Int} {i : Nat} {A : List Int} (hP : IsB P) (hw : ∀ d x, hv d = some x → d + A.length < 16 ∧ 0 ≤ x ∧ x < 256) (hA : A.length ≤ 16) : ∀ d x, insH hv d0 (16 - A.length) P i d = some x → d + A.length < 16 ∧ 0 ≤ x ∧ x < 256 := fun d x h => by
  unfold insH at h
  split at h
  · exact hw d x h
  · split at h
    · rename_i hc
      have := hP.get h
      omega
    · cases h
theorem insS_w (hS : RbW S) (seq : Int) {P : List Int} (hP : IsB P) : RbW (insS seq P S) := ⟨hS.nxt, hS.len, hS.isB, insH_w hP hS.hv hS.len⟩
theorem shift_w (hS : RbW S) {x : Int} (hx : S.hv 0 = some x) : RbW ⟨(S.nxt + 1) % 256, S.A ++ [x], fun d => S.hv (d + 1)⟩ := by
  have h0 := hS.hv 0 x hx
  refine ⟨by simp only; omega, by simp; omega, hS.isB.append (fun y hy => by simp at hy; omega), fun d y hy => ?_⟩
  have := hS.hv (d + 1) y hy
  simp
  omega
theorem drain_ok : ∀ (f : Nat) {S : RbS}, RbW S → 16 < f + S.A.length → RbOk (drainN f S).2
  | 0, S, hS, hf => by have := hS.len; omega
  | f + 1, S, hS, hf => by
    unfold drainN
    cases h : S.hv 0 with
    | none => exact ⟨hS, h⟩
    | some x =>
      exact drain_ok f (shift_w hS h) (by simp; omega)
theorem insA_ok (hS : RbW S) (seq : Int) {P : List Int} (hP : IsB P) : RbOk (insA seq P S).2 := drain_ok 17 (insS_w hS seq hP) (by omega)
theorem drain_le : ∀ (f : Nat) {S : RbS}, RbW S → (drainN f S).1 + S.A.length ≤ 16
  | 0, S, hS => by have := hS.len; simp [drainN]; omega
  | f + 1, S, hS => by
    unfold drainN
    cases h : S.hv 0 with
    | none => have := hS.len; simp; omega
    | some x =>
      have := drain_le f (shift_w hS h)
      simp only [List.length_append, List.length_cons, List.length_nil] at this
      show (drainN f _).1 + 1 + S.A.length ≤ 16
      omega
theorem rInsert_ok {seq : Int} {P : List Int} {pb : Option Addr} {pln pc : Nat} {R : Int → World → Prop} (h : RR w p S) (hS : RbW S) (hP : ∀ w', Ext [p] w w' → Rd w' pb P) (hl : P.length = pln) (hpl : pln ≤ 281474976710656)
    (hR : ∀ w', RR w' p (insA seq P S).2 → Ext [p] w w' → R ((insA seq P S).1 : Int) w') : seg_RecvBuf_Insert.Call (some ⟨p, 0, none⟩) seq pb pln pc w R := by
  apply seg_RecvBuf_Insert.sound
  unfold seg_RecvBuf_Insert.B0
  obtain ⟨X, h1, h2⟩ := h
  have hnx := hS.nxt
  have hlen := hS.len
  have hav := h2.av
  have hPB : IsB P := (hP w (Ext.refl _ _)).isB
  refine Pn.mk (h1.ldNxt ?_)
  rw [h2.nxt, w64b hS.nxt]
  refine seqDiff_ok (Pn.mk (h1.ldAv ?_))
  rw [h2.av, w64 (x := (16 : Int) - (S.A.length : Int)) (by omega) (by omega), show (16 : Int) - (S.A.length : Int) = ((16 - S.A.length : Nat) : Int) by omega]
  have hd0 := sqDiff_bd seq S.nxt
  unfold insA insS at hR
  generalize sqDiff seq S.nxt = d0 at hd0 hR
  generalize hW : 16 - S.A.length = W at hR
  unfold seg_RecvBuf_Insert.L1
  refine ⟨fun mm b' pb' pl' pc' d0' w0' i w' => ∃ n : Nat, n ≤ pln ∧ mm = pln - n ∧ some ⟨p, 0, none⟩ = b' ∧ pb = pb' ∧ pln = pl' ∧ d0 = d0' ∧ ((W : Nat) : Int) = w0' ∧ i = (n : Int) ∧ RR w' p { S with hv := insH S.hv d0 W P n } ∧ Ext [p] w w', _,
    ⟨0, by omega, rfl, rfl, rfl, rfl, rfl, rfl, rfl, by rw [insH_zero]; exact ⟨X, h1, h2⟩, Ext.refl _ _⟩, ?_⟩
  rintro mm b' pb' pl' pc' d0' w0' i w' ⟨n, hn, rfl, rfl, rfl, rfl, rfl, rfl, rfl, hr', he'⟩
  -- the drain
  have drain : (n = P.length ∨ (W : Int) ≤ d0 + (n : Int)) → seg_RecvBuf_Insert.B1 (some ⟨p, 0, none⟩) pb pln pc' d0 (W : Int) (n : Int) false w' (fun b' pb' pl' pc' d0' w0' i w' => ∃ m', m' < pln - n ∧ ∃ n : Nat, n ≤ pln ∧ m' = pln - n ∧ some ⟨p, 0, none⟩ = b' ∧ pb = pb' ∧ pln = pl' ∧ d0 = d0' ∧ ((W : Nat) : Int) = w0' ∧ i = (n : Int) ∧ RR w' p { S with hv := insH S.hv d0 W P n } ∧ Ext [p] w w') R := fun hend => by
    rw [insH_end (by omega) hend] at hr'
    unfold seg_RecvBuf_Insert.B1
    have hw : RbW { S with hv := insH S.hv d0 W P P.length } := ⟨hS.nxt, hS.len, hS.isB, by rw [← hW]; exact insH_w hPB hS.hv hS.len⟩
    generalize hT : ({ S with hv := insH S.hv d0 W P P.length } : RbS) = T at hw hr' hR
    have hTA : T.A = S.A := by rw [← hT]
    refine Bm.neg rfl ?_
    have hx := hr'
    obtain ⟨Y, y1, y2⟩ := hx
    refine bit_ok (S := T) (d := 0) y1 y2.nxt hw.nxt (by omega) ?_
    unfold seg_RecvBuf_Insert.L2
    have htot := drain_le 17 hw
    generalize hfin : drainN 17 T = fin at hR htot
    refine ⟨fun mm b' n m0 w2 => ∃ (U : RbS) (c : Nat), mm = 16 - U.A.length ∧ some ⟨p, 0, none⟩ = b' ∧ n = (c : Int) ∧ m0 = b16 (one16 (pl U 0)) ∧ RR w2 p U ∧ RbW U ∧ c ≤ 16 ∧ (drainN (17 - U.A.length + T.A.length) U).1 + c = fin.1 ∧ (drainN (17 - U.A.length + T.A.length) U).2 = fin.2 ∧ T.A.length ≤ U.A.length ∧ Ext [p] w w2, _,
      ⟨T, 0, rfl, rfl, rfl, rfl, hr', hw, by omega, ?_, ?_, Nat.le_refl _, he'⟩, ?_⟩
    · rw [show 17 - T.A.length + T.A.length = 17 by have := hw.len; omega, hfin]; omega
    · rw [show 17 - T.A.length + T.A.length = 17 by have := hw.len; omega, hfin]
    rintro mm b' n m0 w2 ⟨U, c, rfl, rfl, rfl, rfl, hu, hUw, hc, hf1, hf2, hUT, hu2⟩
    obtain ⟨Y, y1, y2⟩ := hu
    unfold seg_RecvBuf_Insert.L2b
    have hUl := hUw.len
    have hUn := hUw.nxt
    refine Pn.mk (y1.ldB ?_)
    rw [and16]
    have hbit := y2.bits 0 (by omega)
    have hp0 := pl_lt U 0
    obtain ⟨f, hf⟩ : ∃ f, 17 - U.A.length + T.A.length = f + 1 := ⟨16 - U.A.length + T.A.length, by omega⟩
    rw [hf] at hf1 hf2
    unfold drainN at hf1 hf2
    cases hv : U.hv 0 with
    | none =>
      rw [hv] at hbit hf1 hf2
      refine Bm.neg ?_ ?_
      · rw [(and_one hp0).2 hbit]; rfl
      · simp only at hf1 hf2
        rw [show c = fin.1 by omega]
        refine hR w2 ?_ hu2
        rw [← hf2]
        exact ⟨Y, y1, y2⟩
    | some x =>
      rw [hv] at hbit hf1 hf2
      simp only at hf1 hf2
      have hne : ¬ (b16 (Y.B &&& one16 (pl U 0)) = 0) := fun e => by
        have := (and_one hp0).1 e
        unfold pl at this
        rw [this] at hbit
        cases hbit
      have h0 := hUw.hv 0 x hv
      refine Bm.pos (bne_iff_ne.2 hne) (Pn.mk (y1.ldB (Pn.mk ?_)))
      rw [andn16]
      refine y1.stB fun w3 hs3 g3 he3 => Pn.mk (g3.ldNxt (Pn.mk ?_))
      have en : IntKind.u8.wrap (Y.nxt + 1) = (U.nxt + 1) % 256 := by rw [wrap8_eq, y2.nxt]
      show Sts [.int .u8 (IntKind.u8.wrap (Y.nxt + 1))] _ 0 w3 _
      rw [en]
      refine g3.stNxt fun w4 hs4 g4 he4 => Pn.mk (g4.ldAv (Pn.mk ?_))
      show Sts [.int .i64 (IntKind.i64.wrap ((Y.av : Int) + 1))] _ 0 w4 _
      have eav := y2.av
      rw [w64 (by omega) (by omega), show (Y.av : Int) + 1 = ((Y.av + 1 : Nat) : Int) by omega]
      refine g4.stAv fun w5 hs5 g5 he5 => ?_
      have hV := shift_w hUw hv
      have rel : RbRel { Y with B := Y.B &&& ~~~ one16 (pl U 0), nxt := (U.nxt + 1) % 256, av := Y.av + 1 } ⟨(U.nxt + 1) % 256, U.A ++ [x], fun d => U.hv (d + 1)⟩ := by
        refine ⟨rfl, by show Y.av + 1 = _; simp; omega, fun i y hy => ?_, fun d hd => ?_, fun d y hy => ?_⟩
        · show Y.r ((((U.nxt + 1) % 256).toNat + 256 - (U.A ++ [x]).length + i) % 16) = y
          have hy' : (U.A ++ [x])[i]? = some y := hy
          have hil := (List.getElem?_eq_some_iff.1 hy').1
          rw [List.length_append, List.length_singleton] at hil ⊢
          by_cases c1 : i < U.A.length
          · rw [List.getElem?_append_left c1] at hy'
            rw [← y2.ready i y hy']
            congr 1
            omega
          · rw [List.getElem?_append_right (by omega), show i - U.A.length = 0 by omega] at hy'
            simp at hy'
            rw [← hy', ← y2.vals 0 x hv]
            congr 1
            omega
        · show (Y.B &&& ~~~ one16 (pl U 0)).getLsbD ((((U.nxt + 1) % 256).toNat + d) % 16) = (U.hv (d + 1)).isSome
          rw [andn_get hp0 (by omega)]
          by_cases c1 : d = 15
          · subst c1
            have e1 : (((U.nxt + 1) % 256).toNat + 15) % 16 = pl U 0 := by unfold pl; omega
            rw [e1]
            cases hv16 : U.hv (15 + 1) with
            | none => simp
            | some z => have := hUw.hv _ z hv16; omega
          · have e1 : (((U.nxt + 1) % 256).toNat + d) % 16 = (U.nxt.toNat + (d + 1)) % 16 := by omega
            rw [e1, y2.bits (d + 1) (by omega)]
            have e2 : ¬ ((U.nxt.toNat + (d + 1)) % 16 = pl U 0) := by unfold pl; omega
            simp [e2]
        · show Y.r ((((U.nxt + 1) % 256).toNat + d) % 16) = y
          rw [← y2.vals (d + 1) y hy]
          congr 1
          omega
      have g5' : RbAt w5 p { Y with B := Y.B &&& ~~~ one16 (pl U 0), nxt := (U.nxt + 1) % 256, av := Y.av + 1 } := g5
      refine bit_ok (S := ⟨(U.nxt + 1) % 256, U.A ++ [x], fun d => U.hv (d + 1)⟩) (d := 0) g5' rfl hV.nxt (by omega) ?_
      have hl1 : (U.A ++ [x]).length = U.A.length + 1 := by simp
      refine ⟨16 - (U.A.length + 1), by omega, ⟨(U.nxt + 1) % 256, U.A ++ [x], fun d => U.hv (d + 1)⟩, c + 1, by rw [hl1], rfl, by rw [w64 (by omega) (by omega)]; omega, rfl, ⟨_, g5', rel⟩, hV, by have := drain_le f hV; omega, ?_, ?_, by rw [hl1]; omega, ((hu2.trans he3).trans he4).trans he5⟩
      · rw [hl1, show 17 - (U.A.length + 1) + T.A.length = f by omega]; omega
      · rw [hl1, show 17 - (U.A.length + 1) + T.A.length = f by omega]; exact hf2
  unfold seg_RecvBuf_Insert.L1b
  refine Bm.ite (fun hlt => ?_) fun hge => drain (.inl (by omega))
  rw [w64 (x := d0 + (n : Int)) (by omega) (by omega)]
  by_cases hcW : d0 + (n : Int) < (W : Int)
  rotate_left
  · rw [decide_eq_false hcW]; exact drain (.inr (by omega))
  rw [decide_eq_true hcW]
  unfold seg_RecvBuf_Insert.B1
  rw [w64 (x := d0 + (n : Int)) (by omega) (by omega)]
  have next : ∀ w2, RR w2 p { S with hv := insH S.hv d0 W P (n + 1) } → Ext [p] w w2 → seg_RecvBuf_Insert.B2 (some ⟨p, 0, none⟩) pb pln pc' d0 (W : Int) (n : Int) w2 (fun b' pb' pl' pc' d0' w0' i w' => ∃ m', m' < pln - n ∧ ∃ n : Nat, n ≤ pln ∧ m' = pln - n ∧ some ⟨p, 0, none⟩ = b' ∧ pb = pb' ∧ pln = pl' ∧ d0 = d0' ∧ ((W : Nat) : Int) = w0' ∧ i = (n : Int) ∧ RR w' p { S with hv := insH S.hv d0 W P n } ∧ Ext [p] w w') R := fun w2 hr2 he2 => by
    unfold seg_RecvBuf_Insert.B2
    exact ⟨pln - (n + 1), by omega, n + 1, by omega, rfl, rfl, rfl, rfl, rfl, rfl, by rw [w64 (by omega) (by omega)]; omega, hr2, he2⟩
  refine Bm.pos rfl (Bm.ite (fun hneg => next w' (by rw [insH_low hneg]; exact hr') he') fun hpos => ?_)
  obtain ⟨d, hd⟩ : ∃ d : Nat, d0 + (n : Int) = (d : Int) := ⟨(d0 + (n : Int)).toNat, by omega⟩
  rw [hd]
  obtain ⟨Y, y1, y2⟩ := hr'
  obtain ⟨x, hx⟩ := get_lt (L := P) (n := n) (by omega)
  have hdW : d < W := by omega
  have hp0 : (S.nxt.toNat + d) % 16 < 16 := by omega
  refine bit_ok (S := S) y1 y2.nxt hS.nxt (by omega) (Pn.mk (y1.ldB ?_))
  rw [and16]
  have hpl' := pl_lt S d
  have hbit : Y.B.getLsbD (pl S d) = (S.hv d).isSome := by
    have := y2.bits d (by omega)
    simp only [insH_at hd] at this
    exact this
  have hstep := insH_step (W := W) (hv := S.hv) hd hdW hx
  cases hv : S.hv d with
  | some y =>
    rw [hv] at hbit
    have hne : ¬ (b16 (Y.B &&& one16 (pl S d)) = 0) := fun e => by
      have := (and_one hpl').1 e
      rw [this] at hbit
      cases hbit
    refine Bm.neg (by simpa using hne) (next w' ?_ he')
    have e : insH S.hv d0 W P (n + 1) = insH S.hv d0 W P n := by
      rw [hstep]
      funext e
      by_cases c : e = d
      · subst c
        rw [if_pos rfl, hv, insH_at hd, hv]
        rfl
      · rw [if_neg c]
    rw [e]
    exact ⟨Y, y1, y2⟩
  | none =>
    rw [hv] at hbit
    refine Bm.pos (by rw [(and_one hpl').2 hbit]; rfl) (Pn.mk (y1.ldB (Pn.mk ?_)))
    rw [or16]
    refine y1.stB fun w2 hs2 g2 he2 => Pn.mk (g2.drew.ldNxt ⟨by decide, ?_⟩)
    have rd2 := hP w2.drew ((he'.trans he2).trans (Ext.drew _ _))
    refine rd2.ldn hx hl (Pn.mk ?_)
    show (0 ≤ Int.tmod (IntKind.i64.wrap (IntKind.i64.wrap (IntKind.i64.wrap Y.nxt + d0) + (n : Int))) 16 ∧ _) ∧ _
    have e1 : Int.tmod (IntKind.i64.wrap (IntKind.i64.wrap (IntKind.i64.wrap Y.nxt + d0) + (n : Int))) 16 = ((pl S d : Nat) : Int) := by
      rw [show Y.nxt = S.nxt from y2.nxt, w64b hS.nxt, w64 (x := S.nxt + d0) (by omega) (by omega), w64 (by omega) (by omega), tmod_pos _ (by omega)]
      unfold pl
      omega
    rw [e1]
    refine ⟨⟨by omega, by omega⟩, ?_⟩
    rw [addr_i]
    refine g2.drew.stR hpl' fun w3 hs3 g3 he3 => next w3 ⟨_, g3, ?_⟩ (((he'.trans he2).trans (Ext.drew _ _)).trans he3)
    rw [hstep, hv]
    refine ⟨y2.nxt, y2.av, fun i y hy => ?_, fun e he => ?_, fun e y hy => ?_⟩
    · show (if (S.nxt.toNat + 256 - S.A.length + i) % 16 = pl S d then x else Y.r ((S.nxt.toNat + 256 - S.A.length + i) % 16)) = y
      have hil := (List.getElem?_eq_some_iff.1 hy).1
      have hil' : i < S.A.length := hil
      rw [if_neg (by unfold pl; omega)]
      exact y2.ready i y hy
    · show (Y.B ||| one16 (pl S d)).getLsbD ((S.nxt.toNat + e) % 16) = (if e = d then (if (none : Option Int).isSome then none else some x) else insH S.hv d0 W P n e).isSome
      rw [or_get hpl']
      by_cases c : e = d
      · subst c
        rw [if_pos rfl]
        have : (S.nxt.toNat + e) % 16 = pl S e := rfl
        simp [this]
      · rw [if_neg c]
        have e2 : ¬ ((S.nxt.toNat + e) % 16 = pl S d) := by unfold pl; omega
        rw [show decide ((S.nxt.toNat + e) % 16 = pl S d) = false from decide_eq_false e2, Bool.or_false]
        exact y2.bits e he
    · show (if (S.nxt.toNat + e) % 16 = pl S d then x else Y.r ((S.nxt.toNat + e) % 16)) = y
      have hy' : (if e = d then (if (none : Option Int).isSome then none else some x) else insH S.hv d0 W P n e) = some y := hy
      by_cases c : e = d
      · subst c
        rw [if_pos rfl] at hy'
        have hxy : x = y := by simpa using hy'
        rw [if_pos (show (S.nxt.toNat + e) % 16 = pl S e from rfl), hxy]
      · rw [if_neg c] at hy'
        have hb := insH_w (i := n) (d0 := d0) hPB hS.hv hS.len
        rw [hW] at hb
        have hb' := hb e y hy'
        rw [if_neg (by unfold pl; omega)]
        exact y2.vals e y hy'
end

end Go.Proofs.Qxb6500424aGreat
