/-
  seglaw: See, LikeAgain, Alike, Keeps, Decode, Insert, Ack.
-/
import Derived.Test.Qxb6500426aSgL
set_option linter.unusedVariables false
set_option linter.unusedSimpArgs false
open Go.Vc
namespace Go.Proofs.Qxb6500426a

section
variable {w0 w : World} {a : Nat} {σ : LawS} {qu : Bool} {N : Nat}
/-- Two fresh answers alike: compared, and the real one kept. -/
theorem sameOwn {wA : World} {k1 k2 n : Nat} {v : List Int} {R : Bool → World → Prop} (h : LX w0 wA a σ qu N) (hN : N ≤ 999999999) (hk1 : wA.heap.size ≤ k1) (hx : Ext [] wA w) (hf1 : Bf w k1 v) (hf2 : Bf w k2 v) (hn : v.length = n) (hn2 : n ≤ 281474976710656)
    (hR : ∀ σ' w', LX w0 w' a σ' qu (N + 1) → Kin σ σ' → ExtT wA w' [T_seglaw_World, T_mine] → R true w') : api_SameBytes.Call (some ⟨k1, 0, none⟩) n n (some ⟨k2, 0, none⟩) n n w fun r w1 => seglaw_World_Own.Call (some ⟨a, 0, none⟩) (some ⟨k1, 0, none⟩) n n w1 fun w2 => R r w2 := by
  refine sameBytes_ok hf1.rd0 hf2.rd0 hn hn hn2 fun w1 he1 _ => ?_
  rw [decide_eq_true rfl]
  have z := h.ext.size
  refine lawOwn_ok ((h.ext0 hx).ext0 he1) hN (hf1.ext0 he1) (h.at'.fresh hk1) (by omega) hn hn2 fun σ' w2 h2 hkin he2 => hR σ' w2 h2 hkin ⟨a :: rowBlk σ.kb, ((hx.trans he1).nil).trans' he2 (fun y hy hlt => ?_), fun y hy hlt => ?_⟩
  · rcases List.mem_cons.1 hy with e | e
    · omega
    · exact e
  · rcases List.mem_cons.1 hy with e | e
    · subst e; exact ⟨_, _, h.at'.own, by simp⟩
    · obtain ⟨cs, ho⟩ := h.at'.mine.ty e
      exact ⟨_, _, ho, by simp⟩
theorem likeAgain_ok {mx : Int} {R : Bool → World → Prop} (h : LX w0 w a σ qu N) (hN : N ≤ 999999999) (hR : ∀ σ' w', LX w0 w' a σ' qu (N + 1) → Kin σ σ' → ExtT w w' [T_seglaw_World, T_mine] → R true w') : seglaw_World_LikeAgain.Call (some ⟨a, 0, none⟩) mx w R := by
  apply seglaw_World_LikeAgain.sound
  unfold seglaw_World_LikeAgain.B0
  have hl := leastN_le mx σ.Sb.sent
  have hs := h.at'.sok.sent
  have hl2 := h.at'.sok.len
  refine Pn.mk (h.at'.ldX (sAgain_ok h.at'.sx h.at'.sok fun k1 w1 hk1 hf1 he1 => Pn.mk ((h.at'.ext0 he1).ldS (mAgain_ok (h.at'.ext0 he1).sm h.at'.sok fun k2 w2 hk2 hf2 he2 => Bm.neg (by simp) ?_))))
  exact sameOwn h hN hk1 (he1.trans he2) (hf1.ext0 he2) hf2 (by simp; omega) (by omega) hR
theorem see_ok {kind : Int} {R : Bool → World → Prop} (h : LX w0 w a σ qu N) (hN : N ≤ 999999999) (hR : ∀ σ' w', LX w0 w' a σ' qu (N + 1) → Kin σ σ' → R true w') : seglaw_World_See.Call (some ⟨a, 0, none⟩) kind w R := by
  apply seglaw_World_See.sound
  unfold seglaw_World_See.B0
  have hs := h.at'.sok
  have hr := h.at'.rok
  have hsl := hs.len
  have hrl := hr.len
  have same : ∀ w', Ext [] w w' → R true w' := fun w' he => hR σ w' ((h.ext0 he).mono (by omega)) (Kin.refl _)
  refine Bm.mk (fun _ => Pn.mk (h.at'.ldX (sUna_ok h.at'.sx hs (Pn.mk (h.at'.ldS (mUna_ok h.at'.sm ?_)))))) fun _ => ?_
  · rw [beq_self_eq_true]; exact same _ (Ext.refl _ _)
  refine Bm.mk (fun _ => Pn.mk (h.at'.ldX (sNxt_ok h.at'.sx hs fun w1 he1 => Pn.mk ((h.at'.ext0 he1).ldS (mNxt_ok (h.at'.ext0 he1).sm fun w2 he2 => ?_))))) fun _ => ?_
  · rw [beq_self_eq_true]; exact same _ (he1.trans he2)
  refine Bm.mk (fun _ => Pn.mk (h.at'.ldX (sLen_ok h.at'.sx (Pn.mk (h.at'.ldS (mLen_ok h.at'.sm ?_)))))) fun _ => ?_
  · rw [beq_self_eq_true]; exact same _ (Ext.refl _ _)
  refine Bm.mk (fun _ => Pn.mk (h.at'.ldX (sUnsent_ok h.at'.sx hs fun w1 he1 => Pn.mk ((h.at'.ext0 he1).ldS (mUnsent_ok (h.at'.ext0 he1).sm hs fun w2 he2 => ?_))))) fun _ => ?_
  · rw [beq_self_eq_true]; exact same _ (he1.trans he2)
  refine Bm.mk (fun _ => Pn.mk (h.at'.ldX (sBytes_ok h.at'.sx hs fun k1 w1 hk1 hf1 he1 => Pn.mk ((h.at'.ext0 he1).ldS (mBytes_ok (h.at'.ext0 he1).sm hs fun k2 w2 hk2 hf2 he2 => ?_))))) fun _ => ?_
  · exact sameOwn h hN hk1 (he1.trans he2) (hf1.ext0 he2) hf2 rfl (by omega) fun σ' w' q1 q2 _ => hR σ' w' q1 q2
  refine Bm.mk (fun _ => Pn.mk (h.at'.ldR (rNxt_ok h.at'.rx hr.toRbW (Pn.mk (h.at'.ldM (mrNxt_ok h.at'.rm ?_)))))) fun _ => ?_
  · rw [beq_self_eq_true]; exact same _ (Ext.refl _ _)
  refine Bm.mk (fun _ => Pn.mk (h.at'.ldR (rAvail_ok h.at'.rx (Pn.mk (h.at'.ldM (mrAvail_ok h.at'.rm ?_)))))) fun _ => ?_
  · rw [beq_self_eq_true]; exact same _ (Ext.refl _ _)
  refine Bm.mk (fun _ => Pn.mk (h.at'.ldR (rWindow_ok h.at'.rx hr.toRbW (Pn.mk (h.at'.ldM (mrWindow_ok h.at'.rm hr.toRbW ?_)))))) fun _ => ?_
  · rw [beq_self_eq_true]; exact same _ (Ext.refl _ _)
  refine Bm.mk (fun _ => Pn.mk (h.at'.ldR (rHeld_ok h.at'.rx (Pn.mk (h.at'.ldM (mrHeld_ok h.at'.rm ?_)))))) fun _ => ?_
  · rw [show (((List.filter (fun d => (σ.Rb.hv d).isSome) (List.range 16)).length : Int) == (heldN σ.Rb : Int)) = true from beq_self_eq_true _]; exact same _ (Ext.refl _ _)
  refine Bm.mk (fun _ => Pn.mk (h.at'.ldR (rBytes_ok h.at'.rx hr.toRbW fun k1 w1 hk1 hf1 he1 => Pn.mk ((h.at'.ext0 he1).ldM (mrBytes_ok (h.at'.ext0 he1).rm hr.toRbW fun k2 w2 hk2 hf2 he2 => ?_))))) fun _ => ?_
  · exact sameOwn h hN hk1 (he1.trans he2) (hf1.ext0 he2) hf2 rfl (by omega) fun σ' w' q1 q2 _ => hR σ' w' q1 q2
  refine Bm.mk (fun _ => Pn.mk (h.at'.ldR (rAhead_ok h.at'.rx hr.toRbW fun k1 w1 hk1 hf1 he1 => Pn.mk ((h.at'.ext0 he1).ldM (mrAhead_ok (h.at'.ext0 he1).rm hr.toRbW fun k2 w2 hk2 hf2 he2 => sameInts_ok (hf1.ext he2 (by simp)) hf2 (aheadL_len _) (by omega) fun w3 he3 => ?_))))) fun _ => ?_
  · have z := h.ext.size
    refine lawOwnInts_ok ((h.ext0 (he1.trans he2)).ext0 he3) hN ((hf1.ext he2 (by simp)).ext he3 (by simp)) (fun b n c hv e => ?_) (by omega) (aheadL_len _) (by omega) hR
    obtain ⟨j, hj⟩ := List.getElem?_of_mem hv
    obtain ⟨k', n', e', _, ho⟩ := h.at'.kint j _ hj
    simp only [Value.slice.injEq, Option.some.injEq, Addr.mk.injEq, and_true] at e'
    have := ho.lt
    omega
  refine Bm.mk (fun _ => Pn.mk (h.at'.ldX (sCheck_ok h.at'.sx hs same))) fun _ => ?_
  exact Bm.mk (fun _ => Pn.mk (h.at'.ldR (rCheck_ok h.at'.rx hr same))) fun _ => same _ (Ext.refl _ _)
theorem alike_ok {R : Bool → World → Prop} (h : LX w0 w a σ qu N) (hN : N ≤ 900000000) (hR : ∀ σ' w', LX w0 w' a σ' qu (N + 14) → Kin σ σ' → R true w') : seglaw_World_Alike.Call (some ⟨a, 0, none⟩) w R := by
  apply seglaw_World_Alike.sound
  unfold seglaw_World_Alike.B0 seglaw_World_Alike.L1
  refine ⟨fun mm a' k w' => ∃ (n : Nat) (τ : LawS), n ≤ 5 ∧ mm = 5 - n ∧ some ⟨a, 0, none⟩ = a' ∧ k = 15 + (n : Int) ∧ LX w0 w' a τ qu (N + n) ∧ Kin σ τ, _, ⟨0, σ, by omega, rfl, rfl, rfl, h, Kin.refl _⟩, ?_⟩
  rintro mm a' k w' ⟨n, τ, hn, rfl, rfl, rfl, h', hk⟩
  unfold seglaw_World_Alike.L1b
  refine Bm.ite (fun hlt => see_ok h' (by omega) fun τ' w2 h2 hk2 => Bm.neg rfl ⟨5 - (n + 1), by omega, n + 1, τ', by omega, rfl, rfl, by rw [w64 (by omega) (by omega)]; omega, h2, hk.trans hk2⟩) fun hge => ?_
  unfold seglaw_World_Alike.L2
  refine ⟨fun mm a' k w' => ∃ (q : Nat) (τ : LawS), q ≤ 6 ∧ mm = 6 - q ∧ some ⟨a, 0, none⟩ = a' ∧ k = 23 + (q : Int) ∧ LX w0 w' a τ qu (N + 5 + q) ∧ Kin σ τ, _, ⟨0, τ, by omega, rfl, rfl, rfl, h'.mono (by omega), hk⟩, ?_⟩
  rintro mm a' k w2 ⟨q, υ, hq, rfl, rfl, rfl, h2, hk2⟩
  unfold seglaw_World_Alike.L2b
  refine Bm.ite (fun hlt => see_ok h2 (by omega) fun τ' w3 h3 hk3 => Bm.neg rfl ⟨6 - (q + 1), by omega, q + 1, τ', by omega, rfl, rfl, by rw [w64 (by omega) (by omega)]; omega, h3, hk2.trans hk3⟩) fun hge => ?_
  exact likeAgain_ok h2 (by omega) fun σ3 w3 h3 hk3 _ => Bm.neg rfl (see_ok h3 (by omega) fun σ4 w4 h4 hk4 => Bm.neg rfl (see_ok h4 (by omega) fun σ5 w5 h5 hk5 => hR σ5 w5 (h5.mono (by omega)) (((hk2.trans hk3).trans hk4).trans hk5)))
theorem keeps_ok {R : Bool → World → Prop} (h : LX w0 w a σ qu N) (hR : ∀ w', Ext [] w w' → R true w') : seglaw_World_Keeps.Call (some ⟨a, 0, none⟩) w R := by
  apply seglaw_World_Keeps.sound
  unfold seglaw_World_Keeps.B0
  have hs := h.at'.sok
  have hr := h.at'.rok
  have hsl := hs.len
  have hss := hs.sent
  have hrl := hr.len
  refine Pn.mk (h.at'.ldS (mUna_ok h.at'.sm (Pn.mk (h.at'.ldS (mNxt_ok h.at'.sm fun w1 he1 => Pn.mk ((h.at'.ext0 he1).ldS (mLen_ok (h.at'.ext0 he1).sm (Pn.mk ((h.at'.ext0 he1).ldS (mUnsent_ok (h.at'.ext0 he1).sm hs fun w2 he2 => ?_)))))))))) 
  have e2 := he1.trans he2
  have h2 := h.at'.ext0 e2
  refine Bm.neg (decide_eq_false (by omega)) (Bm.neg (decide_eq_false (by omega)) ?_)
  rw [decide_eq_false (by omega)]
  unfold seglaw_World_Keeps.B1
  rw [w64 (by omega) (by omega), show (σ.Sb.D.length : Int) - ((σ.Sb.D.length : Int) - (σ.Sb.sent : Int)) = (σ.Sb.sent : Int) by omega]
  refine Bm.neg rfl (seqAdd_ok (Bm.neg ?_ (Pn.mk (h2.ldS (mBytes_ok h2.sm hs fun k3 w3 hk3 hf3 he3 => Bm.neg (by simp) (Pn.mk ?_))))))
  · have : nxtS σ.Sb = sqAdd σ.Sb.una (σ.Sb.sent : Int) := rfl
    rw [this]
    simp
  have h3 := h2.ext0 he3
  refine h3.ldM (mrAvail_ok h3.rm (Pn.mk (h3.ldM (mrWindow_ok h3.rm hr.toRbW (Bm.neg (decide_eq_false (by omega)) (Bm.neg (decide_eq_false (by omega)) ?_))))))
  rw [w64 (by omega) (by omega), show ((16 : Int) - (σ.Rb.A.length : Int) != 16 - (σ.Rb.A.length : Int)) = false by simp]
  unfold seglaw_World_Keeps.B2
  refine Bm.neg rfl (Pn.mk (h3.ldM (mrBytes_ok h3.rm hr.toRbW fun k4 w4 hk4 hf4 he4 => Bm.neg (by simp) (Pn.mk ((h3.ext0 he4).ldM (mrAhead_ok (h3.ext0 he4).rm hr.toRbW fun k5 w5 hk5 hf5 he5 => Bm.neg rfl ?_))))))
  have h5 := (h3.ext0 he4).ext0 he5
  have e5 := ((e2.trans he3).trans he4).trans he5
  unfold seglaw_World_Keeps.L1
  refine ⟨fun mm a' win ab al ac hd d w' => ∃ n : Nat, n ≤ 16 ∧ mm = 16 - n ∧ some ⟨a, 0, none⟩ = a' ∧ 16 - (σ.Rb.A.length : Int) = win ∧ some ⟨k5, 0, none⟩ = ab ∧ 16 = al ∧ hd = (((List.range n).filter fun d => (σ.Rb.hv d).isSome).length : Int) ∧ d = (n : Int) ∧ w5 = w', _, ⟨0, by omega, rfl, rfl, rfl, rfl, rfl, rfl, rfl, rfl⟩, ?_⟩
  rintro mm a' win ab al ac hd d w' ⟨n, hn, rfl, rfl, rfl, rfl, rfl, rfl, rfl, rfl⟩
  have hle := List.length_filter_le (fun d => (σ.Rb.hv d).isSome) (List.range n)
  rw [List.length_range] at hle
  unfold seglaw_World_Keeps.L1b
  refine Bm.ite (fun hlt => ?_) fun hge => ?_
  · have hget := aheadL_get σ.Rb (d := n) (by omega)
    refine Pn.mk ⟨⟨by omega, by omega⟩, hf5.ld (addr_i k5 n) hget ?_⟩
    cases hv : σ.Rb.hv n with
    | none =>
      refine Bm.neg rfl ⟨16 - (n + 1), by omega, n + 1, by omega, rfl, rfl, rfl, rfl, rfl, ?_, by rw [w64 (by omega) (by omega)]; omega, rfl⟩
      rw [List.range_succ, List.filter_append, List.length_append, List.filter_cons_of_neg (p := fun d => (σ.Rb.hv d).isSome) (a := n) (by simp [hv])]
      simp
    | some x =>
      rw [hv] at hget
      have hb := hr.hv n x hv
      have hn0 : n ≠ 0 := fun e => by subst e; rw [hr.z] at hv; cases hv
      refine Bm.pos (by simp; omega) (Bm.neg (by simp; omega) (Bm.neg (decide_eq_false (by omega)) (Pn.mk ⟨⟨by omega, by omega⟩, hf5.ld (addr_i k5 n) hget (Bm.neg (decide_eq_false (by simp; omega)) (Pn.mk ⟨⟨by omega, by omega⟩, hf5.ld (addr_i k5 n) hget ?_⟩))⟩)))
      rw [decide_eq_false (by simp; omega)]
      unfold seglaw_World_Keeps.B3
      refine Bm.neg rfl ⟨16 - (n + 1), by omega, n + 1, by omega, rfl, rfl, rfl, rfl, rfl, ?_, by rw [w64 (by omega) (by omega)]; omega, rfl⟩
      rw [w64 (by omega) (by omega), List.range_succ, List.filter_append, List.length_append, List.filter_cons_of_pos (p := fun d => (σ.Rb.hv d).isSome) (a := n) (by simp [hv])]
      simp
  · have en : n = 16 := by omega
    subst en
    refine Pn.mk (h5.ldM (mrHeld_ok h5.rm ?_))
    rw [show (((List.filter (fun d => (σ.Rb.hv d).isSome) (List.range 16)).length : Int) == (heldN σ.Rb : Int)) = true from beq_self_eq_true _]
    exact hR _ e5
/-! ### Decode -/
def decV (src dst : Int) (raw : List Int) : Hd × List Int := if decErr src dst raw = 0 then (decHd raw, raw.drop 8) else (zH, [])
theorem decode_ok {src dst : Int} {rb : Option Addr} {rl rc : Nat} {raw : List Int} {R : Int → Int → Int → Int → Int → Int → Option Addr → Nat → Nat → Int → Bool → World → Prop} (h : LX w0 w a σ qu N) (hN : N ≤ 999999999) (hrw : Rd w rb raw) (hl : raw.length = rl) (hln : rl ≤ 281474976710656)
    (hR : ∀ σ' pb pl pc w', LX w0 w' a σ' qu (N + 1) → Kin σ σ' → Rd w' pb (decV src dst raw).2 → (decV src dst raw).2.length = pl → pl ≤ 100 → ExtT w w' [T_seglaw_World, T_mine] → (∀ q o, pb = some ⟨q, o, none⟩ → w.heap.size ≤ q) → R (decV src dst raw).1.sp (decV src dst raw).1.dp (decV src dst raw).1.sq (decV src dst raw).1.ak (decV src dst raw).1.fl (decV src dst raw).1.wn pb pl pc (decErr src dst raw) true w') :
    seglaw_World_Decode.Call (some ⟨a, 0, none⟩) src dst rb rl rc w R := by
  apply seglaw_World_Decode.sound
  unfold seglaw_World_Decode.B0
  refine New.mk fun t w1 e1 s1 o1 he1 => copyBytes_ok (hrw.ext0 he1) hl hln fun k1 w2 hk1 hs2 hf1 he2 => copyBytes_ok (hrw.ext0 (he1.trans he2)) hl hln fun k2 w3 hk2 hs3 hf2 he3 => ?_
  have ex3 := (he1.trans he2).trans he3
  have f1 := hf1.ext0 he3
  have ot3 := (he2.trans he3).own o1 (by simp)
  have z := h.ext.size
  have z1 := he1.size
  -- both sides, whatever they answer
  have tail : ∀ (pb1 pb2 : Option Addr) (pl : Nat) (w4 w5 w6 w7 w8 w9 : World) (ra rbk : Nat), Ext [] w3 w4 → Ext [] w4 w5 → Own w6 ra ((decV src dst raw).1.cells pb1 pl pl) T_api_Segment → Ext [] w3 w6 → Ext [] w6 w9 → Own w9 rbk ((decV src dst raw).1.cells pb2 pl pl) T_api_Segment →
      (decV src dst raw).2.length = pl → pl ≤ 100 → ((pb1 = none ∧ pl = 0) ∨ ∃ q, pb1 = some ⟨q, 0, none⟩ ∧ w3.heap.size ≤ q ∧ Bf w9 q (decV src dst raw).2) → Rd w9 pb2 (decV src dst raw).2 → (∀ q1 q2 o, pb1 = some ⟨q1, 0, none⟩ → pb2 = some ⟨q2, o, none⟩ → q1 ≠ q2) → (∀ q2 o, pb2 = some ⟨q2, o, none⟩ → w3.heap.size ≤ q2) →
      seglaw_Scribble.Call (some ⟨k1, 0, none⟩) rl rl w9 fun w10 => Bm ((decErr src dst raw) != (decErr src dst raw)) (
        LdI .i64 ⟨rbk, 0, none⟩ w10 fun x41_0 => LdI .i64 ⟨rbk, 1, none⟩ w10 fun x41_1 => LdI .i64 ⟨rbk, 2, none⟩ w10 fun x41_2 => LdI .i64 ⟨rbk, 3, none⟩ w10 fun x41_3 => LdI .i64 ⟨rbk, 4, none⟩ w10 fun x41_4 => LdI .i64 ⟨rbk, 5, none⟩ w10 fun x41_5 => LdL ⟨rbk, 6, none⟩ w10 fun x41_6_b x41_6_l x41_6_c =>
        Sts [.int .i64 x41_0, .int .i64 x41_1, .int .i64 x41_2, .int .i64 x41_3, .int .i64 x41_4, .int .i64 x41_5, .slice x41_6_b x41_6_l x41_6_c] ⟨t, 0, none⟩ 0 w10 fun w11 =>
        LdI .i64 ⟨t, 0, none⟩ w11 fun r_0 => LdI .i64 ⟨t, 1, none⟩ w11 fun r_1 => LdI .i64 ⟨t, 2, none⟩ w11 fun r_2 => LdI .i64 ⟨t, 3, none⟩ w11 fun r_3 => LdI .i64 ⟨t, 4, none⟩ w11 fun r_4 => LdI .i64 ⟨t, 5, none⟩ w11 fun r_5 => LdL ⟨t, 6, none⟩ w11 fun r_6_b r_6_l r_6_c =>
        R r_0 r_1 r_2 r_3 r_4 r_5 r_6_b r_6_l r_6_c (decErr src dst raw) false w11) (
        LdI .i64 ⟨ra, 0, none⟩ w10 fun x43_0 => LdI .i64 ⟨ra, 1, none⟩ w10 fun x43_1 => LdI .i64 ⟨ra, 2, none⟩ w10 fun x43_2 => LdI .i64 ⟨ra, 3, none⟩ w10 fun x43_3 => LdI .i64 ⟨ra, 4, none⟩ w10 fun x43_4 => LdI .i64 ⟨ra, 5, none⟩ w10 fun x43_5 => LdL ⟨ra, 6, none⟩ w10 fun x43_6_b x43_6_l x43_6_c =>
        LdI .i64 ⟨rbk, 0, none⟩ w10 fun x44_0 => LdI .i64 ⟨rbk, 1, none⟩ w10 fun x44_1 => LdI .i64 ⟨rbk, 2, none⟩ w10 fun x44_2 => LdI .i64 ⟨rbk, 3, none⟩ w10 fun x44_3 => LdI .i64 ⟨rbk, 4, none⟩ w10 fun x44_4 => LdI .i64 ⟨rbk, 5, none⟩ w10 fun x44_5 => LdL ⟨rbk, 6, none⟩ w10 fun x44_6_b x44_6_l x44_6_c =>
        seglaw_SameSeg.Call x43_0 x43_1 x43_2 x43_3 x43_4 x43_5 x43_6_b x43_6_l x43_6_c x44_0 x44_1 x44_2 x44_3 x44_4 x44_5 x44_6_b x44_6_l x44_6_c w10 fun r45 w12 =>
        LdL ⟨ra, 6, none⟩ w12 fun x48_b x48_l x48_c =>
        seglaw_World_Own.Call (some ⟨a, 0, none⟩) x48_b x48_l x48_c w12 fun w13 =>
        LdI .i64 ⟨rbk, 0, none⟩ w13 fun x50_0 => LdI .i64 ⟨rbk, 1, none⟩ w13 fun x50_1 => LdI .i64 ⟨rbk, 2, none⟩ w13 fun x50_2 => LdI .i64 ⟨rbk, 3, none⟩ w13 fun x50_3 => LdI .i64 ⟨rbk, 4, none⟩ w13 fun x50_4 => LdI .i64 ⟨rbk, 5, none⟩ w13 fun x50_5 => LdL ⟨rbk, 6, none⟩ w13 fun x50_6_b x50_6_l x50_6_c =>
        Sts [.int .i64 x50_0, .int .i64 x50_1, .int .i64 x50_2, .int .i64 x50_3, .int .i64 x50_4, .int .i64 x50_5, .slice x50_6_b x50_6_l x50_6_c] ⟨t, 0, none⟩ 0 w13 fun w14 =>
        LdI .i64 ⟨t, 0, none⟩ w14 fun r_0 => LdI .i64 ⟨t, 1, none⟩ w14 fun r_1 => LdI .i64 ⟨t, 2, none⟩ w14 fun r_2 => LdI .i64 ⟨t, 3, none⟩ w14 fun r_3 => LdI .i64 ⟨t, 4, none⟩ w14 fun r_4 => LdI .i64 ⟨t, 5, none⟩ w14 fun r_5 => LdL ⟨t, 6, none⟩ w14 fun r_6_b r_6_l r_6_c =>
        R r_0 r_1 r_2 r_3 r_4 r_5 r_6_b r_6_l r_6_c (decErr src dst raw) r45 w14) := by
    intro pb1 pb2 pl w4 w5 w6 w7 w8 w9 ra rbk _ _ oa6 hx6 hx9 ob9 hpl hpl2 hp1 hp2 hpp hp2f
    have hx9' : Ext [] w3 w9 := hx6.trans hx9
    have oa9 := hx9.own oa6 (by simp)
    have fk9 := f1.ext0 hx9'
    have hL9 := (h.ext0 ex3).ext0 hx9'
    have hkn : KNot k1 σ := h.at'.fresh (by omega)
    have ot9 := hx9'.own ot3 (by simp)
    refine scribble_ok fk9 (by omega) hln fun w10 hs10 _ he10 => Bm.neg (by simp) ?_
    have hL10 := hL9.u8 fk9.1 hkn (by omega) he10
    have tk : Tys w9 [k1] [T_uint8] := Tys.one fk9.1
    have oa10 := ownT he10 tk oa9 (by decide)
    have ob10 := ownT he10 tk ob9 (by decide)
    have ot10 := ownT he10 tk ot9 (by decide)
    have p1rd : Rd w10 pb1 (decV src dst raw).2 := by
      rcases hp1 with ⟨_, e⟩ | ⟨q, rfl, hq, hfq⟩
      · have : (decV src dst raw).2 = [] := List.eq_nil_of_length_eq_zero (by omega)
        rw [this]
        exact Rd.nil _ _
      · exact (hfq.ext he10 (by simp; omega)).rd0
    have p2rd : Rd w10 pb2 (decV src dst raw).2 := hp2.ext he10 (fun q o e hx => by
      simp at hx
      have := hp2f q o e
      omega)
    refine LdI.mk oa10 rfl (LdI.mk oa10 rfl (LdI.mk oa10 rfl (LdI.mk oa10 rfl (LdI.mk oa10 rfl (LdI.mk oa10 rfl (LdL.mk oa10 rfl ?_))))))
    refine LdI.mk ob10 rfl (LdI.mk ob10 rfl (LdI.mk ob10 rfl (LdI.mk ob10 rfl (LdI.mk ob10 rfl (LdI.mk ob10 rfl (LdL.mk ob10 rfl ?_))))))
    refine sameSeg_ok p1rd p2rd hpl hpl (by omega) fun w12 he12 => LdL.mk (he12.own oa10 (by simp)) rfl ?_
    have hL12 := hL10.ext0 he12
    have ob12 := he12.own ob10 (by simp)
    have ot12 := he12.own ot10 (by simp)
    have rd12 := p2rd.ext0 he12
    have exA : Ext [] w w12 := ((ex3.trans hx9').trans' he10 (fun y hy hlt => by simp at hy; omega)).trans he12
    have last : ∀ (σ' : LawS) (w13 : World), LX w0 w13 a σ' qu (N + 1) → Kin σ σ' → (∃ X, Ext X w12 w13 ∧ (∀ y ∈ X, y = a ∨ y ∈ rowBlk σ.kb ∨ (∃ q, pb1 = some ⟨q, 0, none⟩ ∧ y = q)) ∧ Tys w12 X [T_seglaw_World, T_mine, T_uint8]) →
        LdI .i64 ⟨rbk, 0, none⟩ w13 fun x50_0 => LdI .i64 ⟨rbk, 1, none⟩ w13 fun x50_1 => LdI .i64 ⟨rbk, 2, none⟩ w13 fun x50_2 => LdI .i64 ⟨rbk, 3, none⟩ w13 fun x50_3 => LdI .i64 ⟨rbk, 4, none⟩ w13 fun x50_4 => LdI .i64 ⟨rbk, 5, none⟩ w13 fun x50_5 => LdL ⟨rbk, 6, none⟩ w13 fun x50_6_b x50_6_l x50_6_c =>
        Sts [.int .i64 x50_0, .int .i64 x50_1, .int .i64 x50_2, .int .i64 x50_3, .int .i64 x50_4, .int .i64 x50_5, .slice x50_6_b x50_6_l x50_6_c] ⟨t, 0, none⟩ 0 w13 fun w14 =>
        LdI .i64 ⟨t, 0, none⟩ w14 fun r_0 => LdI .i64 ⟨t, 1, none⟩ w14 fun r_1 => LdI .i64 ⟨t, 2, none⟩ w14 fun r_2 => LdI .i64 ⟨t, 3, none⟩ w14 fun r_3 => LdI .i64 ⟨t, 4, none⟩ w14 fun r_4 => LdI .i64 ⟨t, 5, none⟩ w14 fun r_5 => LdL ⟨t, 6, none⟩ w14 fun r_6_b r_6_l r_6_c =>
        R r_0 r_1 r_2 r_3 r_4 r_5 r_6_b r_6_l r_6_c (decErr src dst raw) true w14 := by
      intro σ' w13 h13 hkin hX
      obtain ⟨X, heX, hXm, hXt⟩ := hX
      have ob13 := ownT heX hXt ob12 (by decide)
      have ot13 := ownT heX hXt ot12 (by decide)
      have rd13 : Rd w13 pb2 (decV src dst raw).2 := rd12.ext heX (fun q o e hx => by
        have hq2 := hp2f q o e
        rcases hXm q hx with e' | e' | ⟨q1, e1, e'⟩
        · subst e'
          have := h.at'.own.lt
          have := (ex3).size
          omega
        · have := h.at'.mine.lt q e'
          have := (ex3).size
          omega
        · exact hpp q1 q o e1 e e'.symm)
      refine retSeg (K := fun y0 y1 y2 y3 y4 y5 y6 y7 y8 w1 => R y0 y1 y2 y3 y4 y5 y6 y7 y8 (decErr src dst raw) true w1) ob13 ot13 rfl fun w14 he14 => ?_
      have t14 : Tys w13 [t] [T_api_Segment] := Tys.one ot13
      have h14 : LX w0 w14 a σ' qu (N + 1) := ⟨h13.at'.keep he14 t14 (fun q hq => by simp at hq; subst hq; decide), h13.kn, h13.jn, h13.ge, h13.ext.trans' he14 (fun y hy hlt => by simp at hy; omega)⟩
      refine hR σ' pb2 pl pl w14 h14 hkin (rd13.ext he14 (fun q o e hx => by
        simp at hx
        have := hp2f q o e
        have := ot3.lt
        omega)) hpl hpl2 ?_ (fun q o e => by have := hp2f q o e; have := ex3.size; omega)
      refine ⟨a :: rowBlk σ.kb, ?_, fun y hy hlt => ?_⟩
      · refine (((exA.nil).trans' heX (fun y hy hlt => ?_)).trans' he14 (fun y hy hlt => by simp at hy; omega))
        rcases hXm y hy with e' | e' | ⟨q1, e1, e'⟩
        · rw [e']; exact List.mem_cons_self ..
        · exact List.mem_cons_of_mem _ e'
        · rcases hp1 with ⟨e2, _⟩ | ⟨q, e2, hq, _⟩
          · rw [e2] at e1; cases e1
          · rw [e2] at e1
            simp only [Option.some.injEq, Addr.mk.injEq, and_true] at e1
            have := ex3.size
            omega
      · rcases List.mem_cons.1 hy with e | e
        · subst e; exact ⟨_, _, h.at'.own, by simp⟩
        · obtain ⟨cs, ho⟩ := h.at'.mine.ty e
          exact ⟨_, _, ho, by simp⟩
    rcases hp1 with ⟨rfl, rfl⟩ | ⟨q, rfl, hq, hfq⟩
    · exact lawOwn_nil (last σ w12 (hL12.mono (by omega)) (Kin.refl _) ⟨[], Ext.refl _ _, fun y hy => (by cases hy), Tys.nil _ _⟩)
    · have hfq12 := (hfq.ext he10 (by simp; omega)).ext0 he12
      have := ex3.size
      refine lawOwn_ok hL12 hN hfq12 (h.at'.fresh (by omega)) (by omega) hpl (by omega) fun σ' w13 h13 hkin he13 => last σ' w13 h13 hkin ⟨_, he13, fun y hy => ?_, fun y hy hlt => ?_⟩
      · rcases List.mem_cons.1 hy with e | e
        · exact .inr (.inr ⟨q, rfl, e⟩)
        · rcases List.mem_cons.1 e with e | e
          · exact .inl e
          · exact .inr (.inl e)
      · rcases List.mem_cons.1 hy with e | e
        · subst e; exact ⟨_, _, hfq12.1, by simp⟩
        · rcases List.mem_cons.1 e with e | e
          · subst e; exact ⟨_, _, hL12.at'.own, by simp⟩
          · obtain ⟨cs, ho⟩ := hL12.at'.mine.ty e
            exact ⟨_, _, ho, by simp⟩
  by_cases hz : decErr src dst raw = 0
  · have ev : decV src dst raw = (decHd raw, raw.drop 8) := by unfold decV; rw [if_pos hz]
    refine realDecode_ok f1.rd0 hl (Nat.le_refl _) (fun hne => absurd hz hne) fun _ l8 l20 q1 w4 hq1 hfq1 he4 => ?_
    refine New.mk fun ra w5 e5 s5 o5 he5 => Sts.full (vs := ((decHd raw).cells (some ⟨q1, 0, none⟩) (rl - 8) (rl - 8)).toList) o5 rfl rfl fun w6 hs6 o6 he6 => ?_
    have hx6 : Ext [] w3 w6 := (he4.trans he5).trans' he6 (fun y hy hlt => by simp at hy; have := he4.size; omega)
    have hx46 : Ext [] w4 w6 := he5.trans' he6 (fun y hy hlt => by simp at hy; omega)
    refine modDecode_ok (hf2.ext0 hx6).rd0 hl (Nat.le_refl _) (fun hne => absurd hz hne) fun _ _ _ q2 w7 hq2 hfq2 he7 => ?_
    refine New.mk fun rbk w8 e8 s8 o8 he8 => Sts.full (vs := ((decHd raw).cells (some ⟨q2, 0, none⟩) (rl - 8) (rl - 8)).toList) o8 rfl rfl fun w9 hs9 o9 he9 => ?_
    have hx9 : Ext [] w6 w9 := (he7.trans he8).trans' he9 (fun y hy hlt => by simp at hy; have := he7.size; omega)
    have hx79 : Ext [] w7 w9 := he8.trans' he9 (fun y hy hlt => by simp at hy; omega)
    have key := tail (some ⟨q1, 0, none⟩) (some ⟨q2, 0, none⟩) (rl - 8) w4 w5 w6 w7 w8 w9 ra rbk he4 he5 (by rw [ev]; exact o6) hx6 hx9 (by rw [ev]; exact o9) (by rw [ev]; simp; omega) (by omega) (.inr ⟨q1, rfl, hq1, by rw [ev]; exact (hfq1.ext0 hx46).ext0 hx9⟩) (by rw [ev]; exact (hfq2.ext0 hx79).rd0) (fun y1 y2 o i1 i2 => by
      simp only [Option.some.injEq, Addr.mk.injEq, and_true] at i1 i2
      have := (hfq1.ext0 hx46).lt
      omega) (fun y2 o i2 => by
      simp only [Option.some.injEq, Addr.mk.injEq, and_true] at i2
      have := hx6.size
      omega)
    rw [hz] at key
    exact key
  · have ev : decV src dst raw = (zH, []) := by unfold decV; rw [if_neg hz]
    refine realDecode_ok f1.rd0 hl (Nat.le_refl _) (fun _ w4 he4 => ?_) fun hc => absurd hc hz
    refine New.mk fun ra w5 e5 s5 o5 he5 => Sts.full (vs := (zH.cells none 0 0).toList) o5 rfl rfl fun w6 hs6 o6 he6 => ?_
    have hx6 : Ext [] w3 w6 := (he4.trans he5).trans' he6 (fun y hy hlt => by simp at hy; have := he4.size; omega)
    refine modDecode_ok (hf2.ext0 hx6).rd0 hl (Nat.le_refl _) (fun _ w7 he7 => ?_) fun hc => absurd hc hz
    refine New.mk fun rbk w8 e8 s8 o8 he8 => Sts.full (vs := (zH.cells none 0 0).toList) o8 rfl rfl fun w9 hs9 o9 he9 => ?_
    have hx9 : Ext [] w6 w9 := (he7.trans he8).trans' he9 (fun y hy hlt => by simp at hy; have := he7.size; omega)
    exact tail none none 0 w4 w5 w6 w7 w8 w9 ra rbk he4 he5 (by rw [ev]; exact o6) hx6 hx9 (by rw [ev]; exact o9) (by rw [ev]; rfl) (by omega) (.inl ⟨rfl, rfl⟩) (by rw [ev]; exact Rd.nil _ _) (fun y1 y2 o i1 i2 => (by cases i1)) (fun y2 o i2 => (by cases i2))
/-! ### Insert and Ack -/
theorem insert_ok {seq : Int} {pb : Option Addr} {pln pc : Nat} {P : List Int} {R : Bool → World → Prop} (h : LX w0 w a σ qu N) (hP : Rd w pb P) (hl : P.length = pln) (hln : pln ≤ 281474976710656)
    (hR : ∀ σ' w', LX w0 w' a σ' qu N → σ'.m = σ.m → R true w') : seglaw_World_Insert.Call (some ⟨a, 0, none⟩) seq pb pln pc w R := by
  apply seglaw_World_Insert.sound
  unfold seglaw_World_Insert.B0
  refine copyBytes_ok hP hl hln fun k1 w1 hk1 hs1 hf1 he1 => copyBytes_ok (hP.ext0 he1) hl hln fun k2 w2 hk2 hs2 hf2 he2 => ?_
  have ex2 := he1.trans he2
  have h2 := h.ext0 ex2
  have f1 := hf1.ext0 he2
  have z := h.ext.size
  have hrb := h.at'.rok
  obtain ⟨Y, y1, y2⟩ := h2.at'.rx
  obtain ⟨hff, vf, r1, r2⟩ := h2.at'.rm.own
  have t1 : Tys w2 [σ.r] [T_seg_RecvBuf] := Tys.one y1
  refine Pn.mk (h2.at'.ldR (rInsert_ok h2.at'.rx hrb.toRbW (fun w' he => ⟨(f1.rd0).1, (Bf.rd0 ⟨ownT he t1 f1.1 (by decide), f1.2⟩).2⟩) hl hln fun w3 h3 he3 => Pn.mk ?_))
  have own3 := ownT he3 t1 h2.at'.own (by decide)
  have rm3 : RM w3 σ.m σ.eb σ.el σ.ec σ.Rb := ⟨⟨hff, vf, ownT he3 t1 r1 (by decide), r2⟩, rowT h2.at'.rm.row he3 t1 (by decide)⟩
  have t3 : Tys w3 [σ.m] [T_segm_RecvBuf] := Tys.one (ownT he3 t1 r1 (by decide))
  have f23 : Own w3 k2 (U8 P).toArray T_uint8 := ownT he3 t1 hf2.1 (by decide)
  rw [add_mk]
  refine LdP.mk own3 rfl (mrInsert_ok rm3 hrb.toRbW (fun w' he => (Bf.rd0 ⟨ownT he t3 f23 (by decide), hf2.2⟩)) hl hln fun eb' el' ec' w4 h4 he4 hb4 => ?_)
  have hL := h2.recv (insA_ok hrb.toRbW seq (hP.isB)) h3 he3 h4 he4
  have f14 : Bf w4 k1 P := ⟨ownT he4 t3 (ownT he3 t1 f1.1 (by decide)) (by decide), f1.2⟩
  have kn := h.at'.fresh (k := k1) (by omega)
  refine scribble_ok f14 (by omega) hln fun w5 hs5 _ he5 => ?_
  rw [beq_self_eq_true]
  refine hR _ w5 (hL.u8 f14.1 ⟨kn.d, fun hx => ?_, kn.l, kn.p, kn.v⟩ (by omega) he5) rfl
  rcases hb4 k1 hx with q | q
  · exact kn.e q
  · have := he3.size
    have := f1.lt
    omega
theorem ack_ok {x : Int} {R : Bool → World → Prop} (h : LX w0 w a σ qu N) (hR : ∀ σ' w', LX w0 w' a σ' qu N → R true w') : seglaw_World_Ack.Call (some ⟨a, 0, none⟩) x w R := by
  apply seglaw_World_Ack.sound
  unfold seglaw_World_Ack.B0
  have hs := h.at'.sok
  obtain ⟨Y, y1, y2⟩ := h.at'.sx
  have t1 : Tys w [σ.x] [T_seg_SendBuf] := Tys.one y1
  refine Pn.mk (h.at'.ldX (sAck_ok h.at'.sx hs fun w1 h1 he1 => Pn.mk ?_))
  have own1 := ownT he1 t1 h.at'.own (by decide)
  have sm1 : SM w1 σ.s σ.db σ.dl σ.dc σ.Sb := ⟨ownT he1 t1 h.at'.sm.own (by decide), rowT h.at'.sm.row he1 t1 (by decide)⟩
  rw [add_mk]
  refine LdP.mk own1 rfl (mAck_ok sm1 hs fun db' dl' dc' w2 h2 he2 hb2 => ?_)
  rw [beq_self_eq_true]
  exact hR _ w2 (h.send (ackA_ok hs x) h1 he1 h2 he2)
end
end Go.Proofs.Qxb6500426a
