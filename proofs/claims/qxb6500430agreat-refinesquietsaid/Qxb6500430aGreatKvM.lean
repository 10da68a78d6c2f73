/-
  kvm: put, run, Apply of the model.
-/
import Derived.Test.Qxb6500430aGreatKvL
set_option linter.unusedVariables false
open Go.Vc
namespace Go.Proofs.Qxb6500430aGreat.Kv

theorem padA_set {A : List Pair} {i : Nat} {q : Pair} (hi : i < A.length) : (padA A).set i q = padA (A.set i q) := by
  unfold padA
  rw [List.set_append_left _ _ hi, List.length_set]
section
variable {w : World} {b : Nat} {A : List Pair} {S : Ss}
theorem modPut_ok {k v : ByteArray} {R : Int → World → Prop} (h : ModAt w b A S) (hk : KvOk A S) (hp : PairOk (k, v))
    (hR1 : ∀ w' v0, lookA A k = some v0 → ModAt w' b (setA k v A) S → Ext [b] w w' → R 0 w')
    (hR2 : lookA A k = none → 4 ≤ A.length → R 6 w)
    (hR3 : ∀ w', lookA A k = none → A.length < 4 → ModAt w' b (insK kB (k, v) A) S → Ext [b] w w' → R 0 w') : kvm_KV_put.Call (some ⟨b, 0, none⟩) k v w R := by
  apply kvm_KV_put.sound
  unfold kvm_KV_put.B0
  have hl := hk.le
  refine modFind_ok h hl ⟨fun i v0 hq => ?_, fun ha => ?_⟩
  · have hi := (List.getElem?_eq_some_iff.1 hq).1
    refine Bm.pos (decide_eq_true (by omega)) (Pn.mk ⟨⟨by omega, by omega⟩, MB.stV h (by omega) fun w1 hs1 h1 he1 => hR1 w1 v0 ?_ ?_ he1⟩)
    · have := lookA_some hk.a (List.mem_of_getElem? hq)
      exact this
    · have e := setA_at hk.a hq v
      simp only at e
      rw [padA_at hq, padA_set hi, ← e] at h1
      unfold ModAt
      rw [setA_length]
      exact h1
  · have hlk := lookA_none ha
    refine Bm.neg (by decide) (Pn.mk (MB.ldN h (Bm.ite (fun h4 => hR2 hlk (by omega)) fun h4 => Pn.mk (MB.ldN h ?_))))
    have hl4 : A.length < 4 := by omega
    have hpad : padA A = A ++ zP :: ([] ++ List.replicate (3 - A.length) zP) := by
      unfold padA
      rw [show 4 - A.length = (3 - A.length) + 1 by omega, List.replicate_succ]
      rfl
    refine ⟨fun m k' key val j w' => ∃ (P Q : List Pair) (x : Pair), m = P.length ∧ some ⟨b, 0, none⟩ = k' ∧ k = key ∧ v = val ∧ j = (P.length : Int) ∧ A = P ++ Q ∧ (∀ y ∈ Q, ¬ kB y < kB (k, v)) ∧ MB w' b (A.length : Int) (P ++ x :: (Q ++ List.replicate (3 - A.length) zP)) S ∧ Ext [b] w w', _,
      ⟨A, [], zP, rfl, rfl, rfl, rfl, rfl, (List.append_nil A).symm, (fun y hy => by cases hy), by rw [← hpad]; exact h, Ext.refl _ _⟩, ?_⟩
    rintro m k' key val j w' ⟨P, Q, x, rfl, rfl, rfl, rfl, rfl, hPQ, hQ, h1, he⟩
    have hlen : A.length = P.length + Q.length := by rw [hPQ, List.length_append]
    have fin : (∀ y ∈ P, kB y < kB (k, v)) → kvm_KV_put.B1 (some ⟨b, 0, none⟩) k v (P.length : Int) false w' (fun k' key val j w' => ∃ m', m' < P.length ∧ ∃ (P Q : List Pair) (x : Pair), m' = P.length ∧ some ⟨b, 0, none⟩ = k' ∧ k = key ∧ v = val ∧ j = (P.length : Int) ∧ A = P ++ Q ∧ (∀ y ∈ Q, ¬ kB y < kB (k, v)) ∧ MB w' b (A.length : Int) (P ++ x :: (Q ++ List.replicate (3 - A.length) zP)) S ∧ Ext [b] w w') R := by
      intro hP
      unfold kvm_KV_put.B1
      refine Bm.neg rfl (Pn.mk ⟨⟨by omega, by omega⟩, Pn.mk (h1.drew.stK (by omega) fun w2 hs2 h2 he2 => ⟨⟨by omega, by omega⟩, h2.stV (by omega) fun w3 hs3 h3 he3 => Pn.mk (h3.ldN (Pn.mk (h3.stN fun w4 hs4 h4 he4 => hR3 w4 hlk hl4 ?_ ?_)))⟩)⟩)
      · rw [set_kv (by rw [h1.2]; omega)] at h4
        have e5 : (P ++ x :: (Q ++ List.replicate (3 - A.length) zP)).set P.length (k, v) = padA (insK kB (k, v) A) := by
          have hins : insK kB (k, v) A = P ++ (k, v) :: Q := by rw [hPQ]; exact insK_mid hP hQ
          rw [List.set_append_right _ _ (Nat.le_refl _)]
          unfold padA
          rw [insK_length, hins, show 4 - (A.length + 1) = 3 - A.length by omega]
          simp
        rw [e5, w64 (by omega) (by omega)] at h4
        unfold ModAt
        rw [insK_length]
        rw [show ((A.length + 1 : Nat) : Int) = (A.length : Int) + 1 by omega]
        exact h4
      · exact (((he.trans (Ext.drew _ _)).trans he2).trans he3).trans he4
    unfold kvm_KV_put.L1b
    refine Bm.ite (fun hj => ?_) fun hj => fin (fun y hy => ?_)
    · obtain ⟨P', y, rfl⟩ : ∃ P' y, P = P' ++ [y] := by
        rcases List.eq_nil_or_concat P with rfl | ⟨P', y, h⟩
        · simp at hj
        · exact ⟨P', y, by rw [h, List.concat_eq_append]⟩
      have hPl : (P' ++ [y]).length = P'.length + 1 := by simp
      rw [hPl] at hj fin hlen ⊢
      have ej : IntKind.i64.wrap (((P'.length + 1 : Nat) : Int) - 1) = (P'.length : Int) := by
        rw [w64 (by omega) (by omega)]; omega
      rw [ej]
      have hget : (P' ++ [y] ++ x :: (Q ++ List.replicate (3 - A.length) zP)).getD P'.length zP = y := by simp [List.getD]
      have hyA : y ∈ A := by rw [hPQ]; simp
      refine Pn.mk ⟨⟨by omega, by omega⟩, h1.ldK (by omega) ?_⟩
      rw [hget, less_rk hp.2.1 (hk.a.2 y hyA).2.1]
      by_cases hlt : rk k < rk y.1
      · rw [decide_eq_true hlt]
        unfold kvm_KV_put.B1
        refine Bm.pos rfl (Pn.mk ?_)
        rw [ej]
        refine ⟨⟨by omega, by omega⟩, h1.drew.ldK (by omega) (Pn.mk ⟨⟨by omega, by omega⟩, h1.drew.ldV (by omega) (Pn.mk ⟨⟨by omega, by omega⟩, Pn.mk (h1.drew.stK (i := P'.length + 1) (by omega) fun w2 hs2 h2 he2 => ⟨⟨by omega, by omega⟩, h2.stV (i := P'.length + 1) (by omega) fun w3 hs3 h3 he3 => ?_⟩)⟩)⟩)⟩
        rw [set_kv (by rw [h1.2]; omega), hget] at h3
        have e5 : (P' ++ [y] ++ x :: (Q ++ List.replicate (3 - A.length) zP)).set (P'.length + 1) (y.1, y.2) = P' ++ y :: ((y :: Q) ++ List.replicate (3 - A.length) zP) := by
          rw [List.append_assoc, List.set_append_right _ _ (by omega)]
          simp
        rw [e5] at h3
        refine ⟨P'.length, by omega, P', y :: Q, y, rfl, rfl, rfl, rfl, rfl, by rw [hPQ]; simp, ?_, h3, ((he.trans (Ext.drew _ _)).trans he2).trans he3⟩
        intro u hu
        rcases List.mem_cons.1 hu with rfl | hu
        · show ¬ rk u.1 < rk k
          omega
        · exact hQ u hu
      · rw [decide_eq_false hlt]
        refine fin fun u hu => ?_
        have hyk : kB y < kB (k, v) := by
          have hne : rk y.1 ≠ rk k := fun e => ha y hyA (rk_inj (hk.a.2 y hyA).2.1 hp.2.1 e)
          show rk y.1 < rk k
          omega
        rcases List.mem_append.1 hu with hu | hu
        · have hasc := hk.a.1
          rw [hPQ, List.append_assoc] at hasc
          have h1 : kB u < kB y := asc_mid hasc hu (by simp)
          omega
        · rw [List.mem_singleton] at hu
          subst hu
          exact hyk
    · have : P = [] := List.eq_nil_of_length_eq_zero (by omega)
      subst this
      cases hy
theorem modRun_ok {c : CmdS} {R : Int → ByteArray → World → Prop} (h : ModAt w b A S) (hk : KvOk A S) (hc : CmdP c)
    (hR : ∀ w', ModAt w' b (runA c A).2 S → Ext [b] w w' → R (runA c A).1.1 (runA c A).1.2 w') : kvm_KV_run.Call (some ⟨b, 0, none⟩) c.op c.cl c.seq c.key c.val c.old w R := by
  apply kvm_KV_run.sound
  unfold kvm_KV_run.B0
  have hpo : PairOk (c.key, c.val) := ⟨hc.2.1.1, hc.2.1.2.1, hc.2.1.2.2.1⟩
  have hl := hk.le
  have hlt := h.lt
  refine New.mk fun a w1 ha hs1 ho1 he1 => New.mk fun t4 w2 ht4 hs2 ho2 he2 => ?_
  have hca : CmdAt w2 a c := he2.own ho1 (by simp)
  have hans : AnsB w2 t4 := ⟨_, _, ho2⟩
  have he := he1.trans he2
  have h2 := h.ext0 he
  have hge := he1.size
  have put : c.op = 1 → LdS ⟨a, 3, none⟩ w2 fun x17 => LdS ⟨a, 4, none⟩ w2 fun x19 => kvm_KV_put.Call (some ⟨b, 0, none⟩) x17 x19 w2 fun r20 w4 => Sts [.int .i64 r20, .string (ByteArray.mk #[])] ⟨t4, 0, none⟩ 0 w4 fun w5 => LdI .i64 ⟨t4, 0, none⟩ w5 fun r0 => LdS ⟨t4, 1, none⟩ w5 fun r1 => R r0 r1 w5 := fun h1 => by
    refine hca.l3 (hca.l4 (modPut_ok h2 hk hpo (fun w3 v0 hlk h3 he3 => ?_) (fun hlk h4 => ?_) (fun w3 hlk h4 h3 he3 => ?_)))
    · have hrun : runA c A = ((0, estr), setA c.key c.val A) := by unfold runA; rw [hlk]; simp only [h1, if_true]
      rw [hrun] at hR
      exact (hans.ext he3 (by simp; omega)).ret fun w5 he5 => hR w5 (h3.ext he5 (by simp; omega)) (up1 (he.nil.trans he3) he5 (by omega))
    · have hrun : runA c A = ((6, estr), A) := by unfold runA; rw [hlk]; simp only [h1, if_true]; rw [if_pos (by omega)]
      rw [hrun] at hR
      exact hans.ret fun w5 he5 => hR w5 (h2.ext he5 (by simp; omega)) (up1 he.nil he5 (by omega))
    · have hrun : runA c A = ((0, estr), insK kB (c.key, c.val) A) := by unfold runA; rw [hlk]; simp only [h1, if_true]; rw [if_neg (by omega)]
      rw [hrun] at hR
      exact (hans.ext he3 (by simp; omega)).ret fun w5 he5 => hR w5 (h3.ext he5 (by simp; omega)) (up1 (he.nil.trans he3) he5 (by omega))
  refine hca.l3 (modFind_ok h2 hl ⟨fun i v hq => ?_, fun habs => ?_⟩)
  · have hi := (List.getElem?_eq_some_iff.1 hq).1
    have hlk : lookA A c.key = some v := lookA_some hk.a (List.mem_of_getElem? hq)
    refine hca.l0 (Bm.mk (fun e1 => put (by simpa using e1)) fun e1 => ?_)
    have e1' : c.op ≠ 1 := by simpa using e1
    refine Bm.neg (decide_eq_false (by omega)) (Pn.mk ⟨⟨by omega, by omega⟩, MB.ldV h2 (by omega) ?_⟩)
    rw [padA_at hq]
    refine hca.l0 (Bm.mk (fun e2 => ?_) fun e2 => hca.l0 (Bm.mk (fun e3 => ?_) fun e3 => hca.l5 ?_))
    · have e2' : c.op = 2 := by simpa using e2
      have hrun : runA c A = ((0, v), A) := by unfold runA; rw [hlk]; simp [e2']
      rw [hrun] at hR
      exact hans.ret fun w5 he5 => hR w5 (h2.ext he5 (by simp; omega)) (up1 he.nil he5 (by omega))
    · have e3' : c.op = 3 := by simpa using e3
      have hrun : runA c A = ((0, v), delA c.key A) := by unfold runA; rw [hlk]; simp [e3']
      rw [hrun] at hR
      obtain ⟨s, t, hA, hs, hx⟩ := A_split hk.a hq
      have hdel : delA c.key A = s ++ t := by
        have e := delA_at hk.a hq
        simp only at e
        rw [e, hA, ← hs, List.eraseIdx_append_of_length_le (Nat.le_refl _)]
        simp
      have hlen : A.length = s.length + t.length + 1 := by rw [hA]; simp; omega
      refine ⟨fun m k' t4' old j w' => ∃ (P Q : List Pair) (x : Pair), m = Q.length ∧ some ⟨b, 0, none⟩ = k' ∧ t4 = t4' ∧ v = old ∧ j = (P.length : Int) ∧ s ++ t = P ++ Q ∧ MB w' b (A.length : Int) (P ++ x :: (Q ++ List.replicate (4 - A.length) zP)) S ∧ AnsB w' t4 ∧ Ext [b] w w', _,
        ⟨s, t, (c.key, v), rfl, rfl, rfl, rfl, by rw [hs], rfl, ?_, hans, he.nil⟩, ?_⟩
      · have : padA A = s ++ (c.key, v) :: (t ++ List.replicate (4 - A.length) zP) := by
          unfold padA
          generalize hn : List.replicate (4 - A.length) zP = Z
          rw [hA]
          simp
        rw [← this]
        exact h2
      rintro m k' t4' old j w' ⟨P, Q, x, rfl, rfl, rfl, rfl, rfl, hPQ, h3, hans3, he3⟩
      have hPQl : s.length + t.length = P.length + Q.length := by
        have := congrArg List.length hPQ
        simpa using this
      unfold kvm_KV_run.L1b
      have ej : IntKind.i64.wrap ((P.length : Int) + 1) = ((P.length + 1 : Nat) : Int) := by
        rw [w64 (by omega) (by omega)]; omega
      rw [ej]
      refine Pn.mk (h3.ldN (Bm.ite (fun hlt => Pn.mk ⟨⟨by omega, by omega⟩, ?_⟩) fun hge => ?_))
      · obtain ⟨y, Q', rfl⟩ : ∃ y Q', Q = y :: Q' := by
          cases Q with
          | nil => simp at hPQl; omega
          | cons y Q' => exact ⟨y, Q', rfl⟩
        simp only [List.length_cons] at hPQl
        have hget : (P ++ x :: (y :: Q' ++ List.replicate (4 - A.length) zP)).getD (P.length + 1) zP = y := by
          simp [List.getD]
        refine h3.drew.ldK (by omega) (Pn.mk ⟨⟨by omega, by omega⟩, h3.drew.ldV (by omega) (Pn.mk ⟨⟨by omega, by omega⟩, Pn.mk (h3.drew.stK (by omega) fun w4 hs4 h4 he4 => ⟨⟨by omega, by omega⟩, h4.stV (by omega) fun w5 hs5 h5 he5 => ?_⟩)⟩)⟩)
        rw [set_kv (by rw [h3.2]; omega), hget] at h5
        have e5 : (P ++ x :: (y :: Q' ++ List.replicate (4 - A.length) zP)).set P.length (y.1, y.2) = (P ++ [y]) ++ y :: (Q' ++ List.replicate (4 - A.length) zP) := by
          rw [List.set_append_right _ _ (Nat.le_refl _)]
          simp
        rw [e5] at h5
        refine ⟨Q'.length, by simp, P ++ [y], Q', y, rfl, rfl, rfl, rfl, by simp, by rw [hPQ]; simp, h5, ((hans3.ext0 (Ext.drew _ _)).ext he4 (by simp; omega)).ext he5 (by simp; omega), ((he3.trans (Ext.drew _ _)).trans he4).trans he5⟩
      · have hQ : Q = [] := List.eq_nil_of_length_eq_zero (by omega)
        subst hQ
        simp only [List.length_nil, Nat.add_zero] at hPQl
        refine Pn.mk (h3.ldN (Pn.mk (h3.stN fun w4 hs4 h4 he4 => ?_)))
        have en : IntKind.i64.wrap ((A.length : Int) - 1) = (P.length : Int) := by rw [w64 (by omega) (by omega)]; omega
        rw [en] at h4
        refine Pn.mk (h4.drew.ldN (Pn.mk (h4.drew.ldN (Pn.mk ⟨⟨by omega, by omega⟩, Pn.mk (h4.drew.stK (by omega) fun w5 hs5 h5 he5 => ⟨⟨by omega, by omega⟩, h5.stV (by omega) fun w6 hs6 h6 he6 => ?_⟩)⟩))))
        rw [set_kv (by rw [h3.2]; omega)] at h6
        have e6 : (P ++ x :: ([] ++ List.replicate (4 - A.length) zP)).set P.length (ByteArray.mk #[], ByteArray.mk #[]) = padA P := by
          rw [List.set_append_right _ _ (Nat.le_refl _)]
          unfold padA
          rw [show 4 - P.length = (4 - A.length) + 1 by omega, List.replicate_succ, Nat.sub_self]
          rfl
        rw [e6] at h6
        rw [List.append_nil] at hPQ
        have hans6 := (((hans3.ext he4 (by simp; omega)).ext0 (Ext.drew _ _)).ext he5 (by simp; omega)).ext he6 (by simp; omega)
        refine hans6.ret fun w7 he7 => hR w7 ?_ (up1 ((((he3.trans he4).trans (Ext.drew _ _)).trans he5).trans he6) he7 (by omega))
        show ModAt w7 b (delA c.key A) S
        rw [hdel, hPQ]
        exact MB.ext h6 he7 (by simp; omega)
    · have e2' : c.op ≠ 2 := by simpa using e2
      have e3' : c.op ≠ 3 := by simpa using e3
      rw [str_beq]
      by_cases ho : v = c.old
      · have hrun : runA c A = ((0, estr), setA c.key c.val A) := by unfold runA; rw [hlk]; simp [e1', e2', e3', ho]
        rw [hrun] at hR
        refine Bm.neg (by simp [ho]) (hca.drew.l4 (Pn.mk ⟨⟨by omega, by omega⟩, (MB.drew h2).stV (by omega) fun w3 hs3 h3 he3 => ?_⟩))
        have e := setA_at hk.a hq c.val
        simp only at e
        rw [padA_at hq, padA_set hi, ← e] at h3
        refine ((hans.ext0 (Ext.drew _ _)).ext he3 (by simp; omega)).ret fun w5 he5 => hR w5 ?_ (up1 ((he.trans (Ext.drew _ _)).nil.trans he3) he5 (by omega))
        unfold ModAt
        rw [setA_length]
        exact h3.ext he5 (by simp; omega)
      · have hrun : runA c A = ((11, v), A) := by unfold runA; rw [hlk]; simp [e1', e2', e3', ho]
        rw [hrun] at hR
        exact Bm.pos (by simp [ho]) (hans.ret fun w5 he5 => hR w5 (h2.ext he5 (by simp; omega)) (up1 he.nil he5 (by omega)))
  · have hlk := lookA_none habs
    refine hca.l0 (Bm.mk (fun e1 => put (by simpa using e1)) fun e1 => ?_)
    have e1' : c.op ≠ 1 := by simpa using e1
    have hrun : runA c A = ((2, estr), A) := by unfold runA; rw [hlk]; simp [e1']
    rw [hrun] at hR
    exact Bm.pos (by decide) (hans.ret fun w5 he5 => hR w5 (h2.ext he5 (by simp; omega)) (up1 he.nil he5 (by omega)))
theorem modApply_ok {s : KvS} {data : ByteArray} {R : Int → ByteArray → World → Prop} (h : ModAt w b s.A s.S) (hk : KvOk s.A s.S) (hd : data.size ≤ 281474976710656)
    (hR : ∀ w', ModAt w' b (applyA data s).2.A (applyA data s).2.S → Ext [b] w w' → R (applyA data s).1.1 (applyA data s).1.2 w') : kvm_KV_Apply.Call (some ⟨b, 0, none⟩) data w R := by
  apply kvm_KV_Apply.sound
  unfold kvm_KV_Apply.B0
  have hlt := h.lt
  refine New.mk fun t4 w1 ht4 hs1 ho1 he1 => decodeCmd_ok hd fun w2 he2 => ?_
  have hans : AnsB w2 t4 := ⟨_, _, he2.own ho1 (by simp)⟩
  have hee := he1.trans he2
  have hge := he1.size
  have hge2 := he2.size
  refine ⟨fun hn => NewSet.mk rfl rfl fun a w3 ha hs3 ho3 he3 => ?_, fun c hc => NewSet.mk rfl rfl fun a w3 ha hs3 ho3 he3 => ?_⟩
  · have hrun : applyA data s = ((9, estr), s) := by unfold applyA; rw [hn]
    rw [hrun] at hR
    exact Bm.pos rfl ((hans.ext0 he3).ret fun w4 he4 => hR w4 ((h.ext0 (hee.trans he3)).ext he4 (by simp; omega)) (up1 (hee.trans he3).nil he4 (by omega)))
  have hcp := decCmd_ok hc
  have hca : CmdAt w3 a c := ho3
  obtain ⟨i, hi⟩ : ∃ i : Nat, c.cl = i := ⟨c.cl.toNat, by have := hcp.1; omega⟩
  have hi3 : i < 3 := by have := hcp.1; omega
  have hin : c.cl.toNat = i := by omega
  have hap : applyA data s = if c.seq < (s.S i).1 then ((10, estr), s) else if c.seq = (s.S i).1 then ((s.S i).2, s) else ((runA c s.A).1, ⟨(runA c s.A).2, updS s.S i (c.seq, (runA c s.A).1)⟩) := by
    unfold applyA
    rw [hc]
    show (if c.seq < (s.S c.cl.toNat).1 then _ else _) = _
    rw [hin]
  have h3 := h.ext0 (hee.trans he3)
  have hans3 := hans.ext0 he3
  have e3 := hee.trans he3
  have hb3 := h3.lt
  refine Bm.neg rfl (hca.drew.l2 (hca.drew.l1 (Pn.mk ⟨by have := hcp.1; omega, ?_⟩)))
  rw [hi]
  refine (MB.drew h3).ldQ hi3 (Bm.ite (fun hlt1 => ?_) fun hge1 => hca.drew.drew.l2 (hca.drew.drew.l1 (Pn.mk ⟨by have := hcp.1; omega, ?_⟩)))
  · rw [hap, if_pos hlt1] at hR
    exact (hans3.ext0 (Ext.drew _ _)).ret fun w6 he6 => hR w6 ((h3.ext0 (Ext.drew _ _)).ext he6 (by simp; omega)) (up1 (e3.trans (Ext.drew _ _)).nil he6 (by omega))
  rw [hi]
  refine (MB.drew (MB.drew h3)).ldQ hi3 (Bm.mk (fun heq => hca.drew.drew.drew.l1 (Pn.mk ⟨by have := hcp.1; omega, ?_⟩)) fun hne => ?_)
  · have heq' : c.seq = (s.S i).1 := by simpa using heq
    rw [hap, if_neg hge1, if_pos heq'] at hR
    rw [hi]
    refine (MB.drew (MB.drew (MB.drew h3))).ldE hi3 ((MB.drew (MB.drew (MB.drew h3))).ldS hi3 ?_)
    exact (((hans3.ext0 (Ext.drew _ _)).ext0 (Ext.drew _ _)).ext0 (Ext.drew _ _)).ret fun w7 he7 => hR w7 (((((h3.ext0 (Ext.drew _ _)).ext0 (Ext.drew _ _)).ext0 (Ext.drew _ _))).ext he7 (by simp; omega)) (up1 (((e3.trans (Ext.drew _ _)).trans (Ext.drew _ _)).trans (Ext.drew _ _)).nil he7 (by omega))
  · have hne' : c.seq ≠ (s.S i).1 := by simpa using hne
    rw [hap, if_neg hge1, if_neg hne'] at hR
    have e3d : Ext [] w w3.drew.drew := (e3.trans (Ext.drew _ _)).trans (Ext.drew _ _)
    refine hca.drew.drew.all (modRun_ok (MB.drew (MB.drew h3)) hk hcp fun w6 h6 he6 => NewSet.mk rfl rfl fun u w7 hu hs7 ho7 he7 => ?_)
    have hca7 := (hca.drew.drew.ext he6 (by simp; omega)).ext0 he7
    have hb6 := h6.lt
    refine hca7.drew.l1 (hca7.drew.l1 (hca7.drew.l2 (LdI.mk ho7.drew rfl (LdS.mk ho7.drew rfl (Pn.mk ⟨by have := hcp.1; omega, Pn.mk ?_⟩)))))
    rw [hi]
    refine (MB.drew (h6.ext0 he7)).stQ hi3 fun w8 hs8 h8 he8 => ?_
    have ho8 := he8.own ho7.drew (by simp; omega)
    have hlt9 : a < w3.heap.size := Own.lt hca
    have hca8 := hca7.drew.ext he8 (by simp; omega)
    refine ⟨ho8.cell rfl, ho8.cell rfl, by rw [Own.cell hca8 (v := .int .i64 c.cl) rfl, hi], ⟨by omega, by omega⟩, h8.stA hi3 fun w9 hs9 h9 he9 => ?_⟩
    have ho9 := he9.own ho8 (by simp; omega)
    refine LdI.mk ho9 rfl (LdS.mk ho9 rfl ?_)
    have hans9 := ((((((hans3.ext0 (Ext.drew _ _)).ext0 (Ext.drew _ _)).ext he6 (by simp; omega)).ext0 he7).ext0 (Ext.drew _ _)).ext he8 (by simp; omega)).ext he9 (by simp; omega)
    refine hans9.ret fun w10 he10 => hR w10 ?_ (up1 ((e3d.nil.trans he6).trans (((he7.trans (Ext.drew _ _)).nil.trans he8).trans he9)) he10 (by omega))
    have hSS : updS (updS s.S i (c.seq, (s.S i).2)) i ((updS s.S i (c.seq, (s.S i).2) i).1, (runA c s.A).1.1, (runA c s.A).1.2) = updS s.S i (c.seq, (runA c s.A).1) := by
      funext j
      by_cases e : j = i
      · subst e; rw [updS_eq, updS_eq, updS_eq]
      · rw [updS_ne e, updS_ne e, updS_ne e]
    rw [hSS] at h9
    exact MB.ext h9 he10 (by simp; omega)
end
end Go.Proofs.Qxb6500430aGreat.Kv
