/-
  kv: Restore of the real layer.
-/
import Derived.Test.Qxb6500430aGreatKvI
set_option linter.unusedVariables false
open Go.Vc
namespace Go.Proofs.Qxb6500430aGreat.Kv

def ssF (S : Ss) (o : Nat) : Value := sv (S (o / 6)) (o % 6)
theorem ssF_at {S : Ss} {i j : Nat} (hj : j < 6) : ssF S (i * 6 + j) = sv (S i) j := by
  unfold ssF
  rw [show (i * 6 + j) / 6 = i by omega, show (i * 6 + j) % 6 = j by omega]
theorem ssF_put {S : Ss} {i o : Nat} {s : Sess} : (if i * 6 ≤ o ∧ o < i * 6 + 6 then sv s (o - i * 6) else ssF S o) = ssF (updS S i s) o := by
  unfold ssF
  by_cases h : i * 6 ≤ o ∧ o < i * 6 + 6
  · rw [if_pos h, show o / 6 = i by omega, updS_eq, show o % 6 = o - i * 6 by omega]
  · rw [if_neg h, updS_ne (by omega)]
theorem ssOf_snoc (Q : List Sess) (s : Sess) : updS (ssOf Q) Q.length s = ssOf (Q ++ [s]) := by
  funext j
  unfold updS ssOf
  simp only [List.getD]
  by_cases h : j = Q.length
  · subst h
    rw [if_pos rfl, List.getElem?_append_right (Nat.le_refl _)]
    simp
  · rw [if_neg h]
    by_cases h2 : j < Q.length
    · rw [List.getElem?_append_left h2]
    · rw [List.getElem?_eq_none (by omega), List.getElem?_eq_none (by simp; omega)]
def mixT (X T : Tb) (i : Nat) : Tb := fun j => if j < i then X j else T j
theorem mixT_zero (X T : Tb) : mixT X T 0 = T := by funext j; simp [mixT]
theorem mixT_succ (X T : Tb) (i : Nat) : upd (mixT X T i) i (X i) = mixT X T (i + 1) := by
  funext j
  unfold upd mixT
  by_cases h : j = i
  · subst h; rw [if_pos rfl, if_pos (by omega)]
  · rw [if_neg h]
    by_cases h2 : j < i
    · rw [if_pos h2, if_pos (by omega)]
    · rw [if_neg h2, if_neg (by omega)]
def mixS (X S : Ss) (i : Nat) : Ss := fun j => if j < i then X j else S j
theorem mixS_zero (X S : Ss) : mixS X S 0 = S := by funext j; simp [mixS]
theorem mixS_succ (X S : Ss) (i : Nat) : updS (mixS X S i) i (X i) = mixS X S (i + 1) := by
  funext j
  unfold updS mixS
  by_cases h : j = i
  · subst h; rw [if_pos rfl, if_pos (by omega)]
  · rw [if_neg h]
    by_cases h2 : j < i
    · rw [if_pos h2, if_pos (by omega)]
    · rw [if_neg h2, if_neg (by omega)]
theorem Tab.congrS {w : World} {b : Nat} {S S' : Ss} {T : Tb} {l m : Int} (h : Tab w b 84 T_kv_KV (sessR S) T l m) (hS : ∀ i, i < 3 → S i = S' i) : Tab w b 84 T_kv_KV (sessR S') T l m := by
  refine ⟨?_, h.2⟩
  have := h.1
  rw [fnArr_congr (g := tabF (sessR S') T l m) (fun j hj => ?_)] at this
  · exact this
  · unfold tabF sessR
    by_cases h64 : j < 64
    · rw [if_pos h64, if_pos h64]
    · rw [if_neg h64, if_neg h64]
      by_cases h65 : j = 64
      · rw [if_pos h65, if_pos h65]
      · rw [if_neg h65, if_neg h65]
        by_cases h66 : j = 65
        · rw [if_pos h66, if_pos h66]
        · rw [if_neg h66, if_neg h66, hS _ (by omega)]
theorem Rdr.isB {w : World} {r : Nat} {s : ByteArray} {L : List Int} (h : Rdr w r s (some L)) : IsB L := by
  obtain ⟨p, h, hp, hL⟩ := h
  rw [hL L rfl]
  exact (strB_isB s).drop p
section
variable {w : World} {b : Nat}
theorem realRestore_ok {s : KvS} {x : ByteArray} {R : Int → World → Prop} (h : RealAt w b s.A s.S) (hx : x.size ≤ 281474976710656)
    (hR : ∀ w', RealAt w' b (restoreA x s).2.A (restoreA x s).2.S → Ext [b] w w' → R (restoreA x s).1 w') : kv_KV_Restore.Call (some ⟨b, 0, none⟩) x w R := by
  apply kv_KV_Restore.sound
  unfold kv_KV_Restore.B0
  have hbl := h.lt
  have fail : parse (strB x) = none → ∀ w', Ext [] w w' → R 15 w' := fun hn w' he => by
    have hr : restoreA x s = (15, s) := by unfold restoreA; rw [hn]
    rw [hr] at hR
    exact hR w' (h.ext0 he) he.nil
  refine New.mk fun r w1 hr hs1 ho1 he1 => New.mk fun t w2 ht hs2 ho2 he2 => New.mk fun ss w3 hss hs3 ho3 he3 => ?_
  have hrd : Rdr w3 r x (some (strB x)) := ⟨0, he3.own (he2.own ho1 (by simp)) (by simp), Nat.zero_le _, fun L e => by cases e; rfl⟩
  have htab : Tab w3 t 66 T_kv_table (fun _ => undef) (fun _ => none) 0 0 := ⟨he3.own ho2 (by simp), by omega⟩
  have hoss : Own w3 ss (fnArr 18 (ssF (ssOf []))) 72 := ho3
  have e3 := (he1.trans he2).trans he3
  have s1 := he1.size
  refine one_ok hx hrd fun w4 hrd4 he4 => ?_
  have e4 : Ext [] w w4 := up1 e3 he4 (by omega)
  have htab4 := htab.ext he4 (by simp; omega)
  have hoss4 := he4.own hoss (by simp; omega)
  simp only [Option.bind_some] at hrd4
  -- the count
  have hn0 : ∃ n : Nat, ((takeB (strB x)).map (·.1)).getD 0 = (n : Int) ∧ (4 < n → parse (strB x) = none) ∧ (n ≤ 4 → parse (strB x) = (((takeB (strB x)).map (·.2)).bind (parseP n 0)).bind fun y => parseC y.1 y.2) := by
    cases hxs : strB x with
    | nil => exact ⟨0, rfl, fun h => by omega, fun _ => rfl⟩
    | cons y L =>
      have hB := strB_isB x
      rw [hxs] at hB
      have hy := hB y (List.mem_cons_self ..)
      refine ⟨y.toNat, by simp [takeB]; omega, fun h => ?_, fun h => ?_⟩
      · simp only [parse, takeB, Option.bind_some]
        rw [if_neg (by omega)]
      · simp only [parse, takeB, Option.bind_some, Option.map_some]
        rw [if_pos (by omega)]
  obtain ⟨n, hn, hbig, hpar⟩ := hn0
  have hn' : (((some (strB x)).bind takeB).map (·.1)).getD 0 = (n : Int) := hn
  rw [hn']
  refine Bm.ite (fun h4 => fail (hbig (by omega)) w4 e4) fun h4 => ?_
  have hn4 : n ≤ 4 := by omega
  have hpar := hpar hn4
  clear hbig hn hn'
  generalize ho0 : ((takeB (strB x)).map (·.2)) = o0 at hrd4 hpar
  clear ho0 hrd htab hoss ho1 ho2 ho3
  refine ⟨fun mm k' x' r' t' ss' nn bf i w' => ∃ (e : Nat) (o : Option (List Int)) (A : List Pair) (T : Tb) (m : Int), e ≤ n ∧ mm = n - e ∧ some ⟨b, 0, none⟩ = k' ∧ x = x' ∧ r = r' ∧ t = t' ∧ ss = ss' ∧ nn = (n : Int) ∧ i = (e : Int) ∧
      parse (strB x) = (o.bind (parseP (n - e) (rk bf))).bind (fun y => parseC (A ++ y.1) y.2) ∧ bf.size ≤ 2 ∧ A.length = e ∧ AOk A ∧ (∀ p ∈ A, kB p ≤ rk bf) ∧ Tab w' t 66 T_kv_table (fun _ => undef) T (e : Int) m ∧ TGood T (e : Int) m ∧ (Lv T).Perm A ∧ Rdr w' r x o ∧ Own w' ss (fnArr 18 (ssF (ssOf []))) 72 ∧ Ext [] w w', _,
    ⟨0, o0, [], fun _ => none, 0, by omega, rfl, rfl, rfl, rfl, rfl, rfl, rfl, rfl, hpar, by decide, rfl, ⟨List.Pairwise.nil, fun p hp => (by cases hp)⟩, fun p hp => (by cases hp), htab4, ⟨TInv.empty, rfl, rfl, by decide, by decide⟩, by rw [Lv_empty], hrd4, hoss4, e4⟩, ?_⟩
  clear htab4 hoss4 hrd4 hpar e4 he4 w4
  rintro mm k' x' r' t' ss' nn bf i w4 ⟨e, o, A, T, m, hen, rfl, rfl, rfl, rfl, rfl, rfl, rfl, rfl, hpar, hbf, hAl, hA, hAb, htab, hg, hp, hrd, hoss, e4⟩
  unfold kv_KV_Restore.L1b
  refine Bm.ite (fun hlt => ?_) fun hge => ?_
  · have hk1 : n - e = (n - (e + 1)) + 1 := by omega
    rw [hk1] at hpar
    refine str_ok hx hrd fun w5 hrd5 he5 => str_ok hx hrd5 fun w6 hrd6 he6 => Rdr.bad hrd6 ?_
    have he56 : Ext [r] w4 w6 := he5.trans he6
    have e6 : Ext [] w w6 := up1 e4 he56 (by omega)
    cases hq : o.bind (takeS 1 2) with
    | none =>
      refine Bm.pos rfl ?_
      unfold kv_KV_Restore.B1
      refine Bm.pos rfl (fail ?_ w6 e6)
      rw [hpar]
      cases o with
      | none => rfl
      | some L =>
        simp only [Option.bind_some] at hq
        simp only [Option.bind_some, parseP]
        rw [hq]
        rfl
    | some kL =>
      obtain ⟨k, L1⟩ := kL
      obtain ⟨L, rfl, hk⟩ := Option.bind_eq_some_iff.1 hq
      rw [hq] at hrd6
      simp only [Option.map_some, Option.bind_some, Option.getD_some] at hrd6 ⊢
      cases hq2 : takeS 0 3 L1 with
      | none =>
        refine Bm.pos rfl ?_
        unfold kv_KV_Restore.B1
        refine Bm.pos rfl (fail ?_ w6 e6)
        rw [hpar]
        simp only [Option.bind_some, parseP]
        rw [hk]
        simp only [Option.bind_some]
        rw [hq2]
        rfl
      | some vL =>
        obtain ⟨v, L2⟩ := vL
        rw [hq2] at hrd6
        simp only [Option.map_some, Option.getD_some] at hrd6 ⊢
        refine Bm.neg rfl ?_
        obtain ⟨q1, k1, k2, hL1⟩ := takeS_inv hrd.isB (by omega) hk
        obtain ⟨q2, v1, v2, hL2⟩ := takeS_inv hL1 (by omega) hq2
        have hpo : PairOk (k, v) := ⟨by simp only; omega, by simp only; omega, by simp only; omega⟩
        rw [less_rk (by omega) hbf, str_beq]
        have hpar2 : parse (strB x) = (if rk bf < rk k then (parseP (n - (e + 1)) (rk k) L2).map fun z => ((k, v) :: z.1, z.2) else none).bind (fun y => parseC (A ++ y.1) y.2) := by
          rw [hpar]
          simp only [Option.bind_some, parseP]
          rw [hk]
          simp only [Option.bind_some]
          rw [hq2]
          rfl
        unfold kv_KV_Restore.B1
        by_cases hord : rk bf < rk k
        · rw [if_pos hord] at hpar2
          have hne : k ≠ bf := fun e => by rw [e] at hord; omega
          have hcond : (decide (rk k < rk bf) || decide (k = bf)) = false := by
            rw [decide_eq_false (by omega), decide_eq_false hne]
            rfl
          rw [hcond]
          have htab6 := htab.ext he56 (by simp; omega)
          have habs : ∀ y ∈ A, y.1 ≠ k := fun y hy ek => by
            have := hAb y hy
            unfold kB at this
            rw [ek] at this
            omega
          refine Bm.neg rfl (add_ok htab6 hg hpo ((absent_iff hp).2 habs) (by rw [hp.length_eq]; omega) fun w7 T' m' hg' hp' h7 he7 => ?_)
          have ee : ((e : Int) + 1) = ((e + 1 : Nat) : Int) := by omega
          rw [ee] at hg' h7
          refine ⟨n - (e + 1), by omega, e + 1, some L2, A ++ [(k, v)], T', m', by omega, rfl, rfl, rfl, rfl, rfl, rfl, rfl, by rw [w64 (by omega) (by omega)]; omega, ?_, by omega, by simp [hAl], ⟨?_, ?_⟩, ?_, h7, hg', ?_, hrd6.ext he7 (by simp; omega), he7.own (he56.own hoss (by simp; omega)) (by simp; omega), up1 e6 he7 (by omega)⟩
          · rw [hpar2]
            simp only [Option.bind_some]
            cases parseP (n - (e + 1)) (rk k) L2 with
            | none => rfl
            | some z => simp
          · refine List.pairwise_append.2 ⟨hA.1, List.pairwise_singleton .., fun y hy z hz => ?_⟩
            rw [List.mem_singleton] at hz
            subst hz
            have := hAb y hy
            show kB y < rk k
            omega
          · intro y hy
            rcases List.mem_append.1 hy with hy | hy
            · exact hA.2 y hy
            · rw [List.mem_singleton] at hy; subst hy; exact hpo
          · intro y hy
            rcases List.mem_append.1 hy with hy | hy
            · have := hAb y hy; omega
            · rw [List.mem_singleton] at hy; subst hy; exact Nat.le_refl _
          · exact (hp'.trans (hp.cons _)).trans (List.perm_append_singleton ..).symm
        · rw [if_neg hord] at hpar2
          have hcond : (decide (rk k < rk bf) || decide (k = bf)) = true := by
            by_cases hlt2 : rk k < rk bf
            · rw [decide_eq_true hlt2]; rfl
            · have : k = bf := rk_inj (by omega) hbf (by omega)
              rw [decide_eq_true this, Bool.or_true]
          rw [hcond]
          exact Bm.pos rfl (fail hpar2 w6 e6)
  have een : e = n := by omega
  subst een
  have hpar' : parse (strB x) = o.bind fun L => (parseQ 3 L).bind fun y => parseE A y.1 y.2 := by
    rw [hpar, Nat.sub_self]
    cases o with
    | none => rfl
    | some L =>
      simp only [Option.bind_some, parseP, List.append_nil, parseC]
  clear hpar
  refine ⟨fun mm k' x' r' t' ss' c w' => ∃ (f : Nat) (o : Option (List Int)) (Q : List Sess), f ≤ 3 ∧ mm = 3 - f ∧ some ⟨b, 0, none⟩ = k' ∧ x = x' ∧ r = r' ∧ t = t' ∧ ss = ss' ∧ c = (f : Int) ∧ (f = 0 ∨ o.isSome = true) ∧
      parse (strB x) = (o.bind fun L => (parseQ (3 - f) L).bind fun y => parseE A (Q ++ y.1) y.2) ∧ Q.length = f ∧ Tab w' t 66 T_kv_table (fun _ => undef) T (e : Int) m ∧ Rdr w' r x o ∧ Own w' ss (fnArr 18 (ssF (ssOf Q))) 72 ∧ Ext [] w w', _,
    ⟨0, o, [], by omega, rfl, rfl, rfl, rfl, rfl, rfl, rfl, .inl rfl, hpar', rfl, htab, hrd, hoss, e4⟩, ?_⟩
  clear hpar' htab hrd hoss e4 w4 hge hbf hAb bf o
  rintro mm k' x' r' t' ss' c w4 ⟨f, o, Q, hf3, rfl, rfl, rfl, rfl, rfl, rfl, rfl, hsome, hpar, hQl, htab, hrd, hoss, e4⟩
  unfold kv_KV_Restore.L2b
  refine Bm.ite (fun hlt => ?_) fun hge => ?_
  · have hk1 : 3 - f = (3 - (f + 1)) + 1 := by omega
    rw [hk1] at hpar
    refine num_ok hx hrd fun w5 hrd5 he5 => one_ok hx hrd5 fun w6 hrd6 he6 => str_ok hx hrd6 fun w7 hrd7 he7 => Rdr.bad hrd7 ?_
    have he57 : Ext [r] w4 w7 := (he5.trans he6).trans he7
    have e7 : Ext [] w w7 := up1 e4 he57 (by omega)
    cases hq : o.bind takeN with
    | none =>
      refine Bm.pos rfl ?_
      unfold kv_KV_Restore.B2
      refine Bm.pos rfl (fail ?_ w7 e7)
      rw [hpar]
      cases o with
      | none => rfl
      | some L =>
        simp only [Option.bind_some] at hq
        simp only [Option.bind_some, parseQ]
        rw [hq]
        rfl
    | some qL =>
      obtain ⟨q, L1⟩ := qL
      obtain ⟨L, rfl, hk⟩ := Option.bind_eq_some_iff.1 hq
      rw [hq] at hrd7
      obtain ⟨q1, k1, k2, hL1⟩ := takeN_inv hrd.isB hk
      cases L1 with
      | nil =>
        refine Bm.pos rfl ?_
        unfold kv_KV_Restore.B2
        refine Bm.pos rfl (fail ?_ w7 e7)
        rw [hpar]
        simp only [Option.bind_some, parseQ]
        rw [hk]
        rfl
      | cons er L2 =>
        simp only [Option.map_some, Option.bind_some, Option.getD_some, takeB] at hrd7 ⊢
        have her := hL1 er (List.mem_cons_self ..)
        have hL2 : IsB L2 := IsB.right (u := [er]) hL1
        cases hq2 : takeS 0 3 L2 with
        | none =>
          refine Bm.pos rfl ?_
          unfold kv_KV_Restore.B2
          refine Bm.pos rfl (fail ?_ w7 e7)
          rw [hpar]
          simp only [Option.bind_some, parseQ]
          rw [hk]
          simp only [Option.bind_some, takeB]
          rw [hq2]
          rfl
        | some vL =>
          obtain ⟨v, L3⟩ := vL
          rw [hq2] at hrd7
          simp only [Option.map_some, Option.getD_some] at hrd7 ⊢
          obtain ⟨q2, v1, v2, hL3⟩ := takeS_inv hL2 (by omega) hq2
          have hpar2 : parse (strB x) = (if er < 16 then (parseQ (3 - (f + 1)) L3).map fun z => ((q, er, v) :: z.1, z.2) else none).bind (fun y => parseE A (Q ++ y.1) y.2) := by
            rw [hpar]
            simp only [Option.bind_some, parseQ]
            rw [hk]
            simp only [Option.bind_some, takeB]
            rw [hq2]
            rfl
          refine Bm.neg rfl ?_
          unfold kv_KV_Restore.B2
          by_cases he16 : er < 16
          · rw [if_pos he16] at hpar2
            refine Bm.ite (fun hc => absurd hc (by omega)) fun _ => (mkSession_ok (s := (q, er, v)) (by simp only; omega) fun w8 he8 => ⟨⟨by omega, by omega⟩, ?_⟩)
            have hoss8 := he8.own (he57.own hoss (by simp; omega)) (by simp)
            refine st6 (s := (q, er, v)) (o := f * 6) hoss8 (by rw [add_mk, Int.toNat_natCast, Nat.zero_add]) (by omega) (fun j hj => ssF_put) fun w9 hs9 ho9 he9 => ?_
            rw [← hQl, ssOf_snoc] at ho9
            refine ⟨3 - (f + 1), by omega, f + 1, some L3, Q ++ [(q, er, v)], by omega, rfl, rfl, rfl, rfl, rfl, rfl, by rw [w64 (by omega) (by omega)]; omega, .inr rfl, ?_, by simp [hQl], ((htab.ext he57 (by simp; omega)).ext0 he8).ext he9 (by simp; omega), (hrd7.ext he8 (by simp)).ext he9 (by simp; omega), ho9, up1 (e7.trans he8) he9 (by omega)⟩
            rw [hpar2]
            simp only [Option.bind_some]
            cases parseQ (3 - (f + 1)) L3 with
            | none => rfl
            | some z => simp
          · rw [if_neg he16] at hpar2
            exact Bm.ite (fun _ => fail hpar2 w7 e7) fun hc => absurd (show er ≥ 16 by omega) hc
  have hf : f = 3 := by omega
  subst hf
  obtain ⟨L, rfl⟩ : ∃ L, o = some L := by
    rcases hsome with h | h
    · omega
    · exact Option.isSome_iff_exists.1 h
  have hpar' : parse (strB x) = parseE A Q L := by
    rw [hpar]
    simp [parseQ]
  obtain ⟨p, hor, hpp, hpl⟩ := hrd
  have hLp := hpl L rfl
  refine LdI.mk hor rfl (Bm.mk (fun hne => fail ?_ w4 e4) fun heq => ?_)
  · rw [hpar', parseE, if_neg]
    intro hnil
    rw [hLp] at hnil
    have := congrArg List.length hnil
    rw [List.length_drop, strB_length] at this
    have hps : p ≠ x.size := fun e => by rw [e] at hne; simp at hne
    simp at this
    omega
  have hps : p = x.size := by
    have : (p : Int) = (x.size : Int) := by simpa using heq
    omega
  have hLn : L = [] := by rw [hLp, hps]; exact List.drop_eq_nil_of_le (by rw [strB_length]; omega)
  have hres : restoreA x s = (0, ⟨A, ssOf Q⟩) := by
    unfold restoreA
    rw [hpar', parseE, if_pos hLn]
  rw [hres] at hR
  obtain ⟨T0, m0, h0, hg0, hp0⟩ := h
  -- the cells
  refine ⟨fun mm k' t' ss' i w' => ∃ j : Nat, j ≤ 8 ∧ mm = 8 - j ∧ some ⟨b, 0, none⟩ = k' ∧ t = t' ∧ ss = ss' ∧ i = (j : Int) ∧ Tab w' t 66 T_kv_table (fun _ => undef) T (e : Int) m ∧ Own w' ss (fnArr 18 (ssF (ssOf Q))) 72 ∧ Tab w' b 84 T_kv_KV (sessR s.S) (mixT T T0 j) (s.A.length : Int) m0 ∧ Ext [b] w w', _,
    ⟨0, by omega, rfl, rfl, rfl, rfl, rfl, htab, hoss, by rw [mixT_zero]; exact h0.ext0 e4, e4.nil⟩, ?_⟩
  clear htab hoss e4 hor w4 heq
  rintro mm k' t' ss' i w4 ⟨j, hj8, rfl, rfl, rfl, rfl, rfl, htab, hoss, hk, e4⟩
  unfold kv_KV_Restore.L3b
  refine Bm.ite (fun hlt => ⟨⟨by omega, by omega⟩, htab.drew.ld (by omega) (Pn.mk ⟨⟨by omega, by omega⟩, ?_⟩)⟩) fun hge => ?_
  · refine hk.drew.st (c := T j) (by omega) fun w5 hs5 hk5 he5 => ?_
    rw [mixT_succ] at hk5
    exact ⟨8 - (j + 1), by omega, j + 1, by omega, rfl, rfl, rfl, rfl, by rw [w64 (by omega) (by omega)]; omega, htab.drew.ext he5 (by simp; omega), he5.own hoss.drew (by simp; omega), hk5, (e4.trans (Ext.drew _ _)).trans he5⟩
  have hj : j = 8 := by omega
  subst hj
  have hkT : Tab w4 b 84 T_kv_KV (sessR s.S) T (s.A.length : Int) m0 := hk.congr fun i hi => by unfold mixT; rw [if_pos hi]
  have l1 := htab.ldL (K := fun y => Pn (some ⟨b, 0, none⟩) fun a_1 => Sts [.int .i64 y] (a_1.add 64) 0 w4 fun w2 => LdI .i64 ⟨t, 65, none⟩ w2 fun x102 => Pn (some ⟨b, 0, none⟩) fun a_2 => Sts [.int .i64 x102] (a_2.add 65) 0 w2 fun w3 => kv_KV_Restore.L4 (some ⟨b, 0, none⟩) ss 0 w3 R)
  rw [add_mk] at l1
  refine l1 (Pn.mk (hkT.stL fun w5 hs5 hk5 he5 => ?_))
  have htab5 := htab.ext he5 (by simp; omega)
  have l2 := htab5.ldM (K := fun y => Pn (some ⟨b, 0, none⟩) fun a_2 => Sts [.int .i64 y] (a_2.add 65) 0 w5 fun w3 => kv_KV_Restore.L4 (some ⟨b, 0, none⟩) ss 0 w3 R)
  rw [add_mk] at l2
  refine l2 (Pn.mk (hk5.stM fun w6 hs6 hk6 he6 => ?_))
  have e6 := (e4.trans he5).trans he6
  refine ⟨fun mm k' ss' c w' => ∃ j : Nat, j ≤ 3 ∧ mm = 3 - j ∧ some ⟨b, 0, none⟩ = k' ∧ ss = ss' ∧ c = (j : Int) ∧ Own w' ss (fnArr 18 (ssF (ssOf Q))) 72 ∧ Tab w' b 84 T_kv_KV (sessR (mixS (ssOf Q) s.S j)) T (e : Int) m ∧ Ext [b] w w', _,
    ⟨0, by omega, rfl, rfl, rfl, rfl, he6.own (he5.own hoss (by simp; omega)) (by simp; omega), by rw [mixS_zero]; exact hk6, e6⟩, ?_⟩
  clear htab hoss hk hkT l1 l2 htab5 hk5 hk6 he5 he6 e4 e6 hs5 hs6 hge w5 w6 w4
  rintro mm k' ss' c w4 ⟨j, hj3, rfl, rfl, rfl, rfl, hoss, hk, e4⟩
  unfold kv_KV_Restore.L4b
  refine Bm.ite (fun hlt => ⟨⟨by omega, by omega⟩, ?_⟩) fun hge => ?_
  · refine ld6 (s := ssOf Q j) (o := j * 6) hoss.drew (by rw [add_mk, Int.toNat_natCast, Nat.zero_add]) (by omega) (fun u hu => ssF_at hu) (Pn.mk ⟨⟨by omega, by omega⟩, ?_⟩)
    refine hk.drew.stSess (s := ssOf Q j) (by omega) fun w5 hs5 hk5 he5 => ?_
    rw [mixS_succ] at hk5
    exact ⟨3 - (j + 1), by omega, j + 1, by omega, rfl, rfl, rfl, by rw [w64 (by omega) (by omega)]; omega, he5.own hoss.drew (by simp; omega), hk5, (e4.trans (Ext.drew _ _)).trans he5⟩
  have hj : j = 3 := by omega
  subst hj
  refine hR w4 ⟨T, m, ?_, ?_, hp⟩ e4
  · show Tab w4 b 84 T_kv_KV (sessR (ssOf Q)) T (A.length : Int) m
    rw [hAl]
    exact hk.congrS fun i hi => by unfold mixS; rw [if_pos hi]
  · show TGood T (A.length : Int) m
    rw [hAl]
    exact hg
end
end Go.Proofs.Qxb6500430aGreat.Kv
