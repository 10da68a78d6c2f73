/-
  kvm: Snapshot, Restore of the model.
-/
import Derived.Test.Qxb6500430aGreatKvM
set_option linter.unusedVariables false
open Go.Vc
namespace Go.Proofs.Qxb6500430aGreat.Kv

section
variable {w : World} {b : Nat} {A : List Pair} {S : Ss}
theorem modSnapshot_ok {R : ByteArray → World → Prop} (h : ModAt w b A S) (hk : KvOk A S) (hR : ∀ w', Ext [] w w' → R (snapS A S) w') : kvm_KV_Snapshot.Call (some ⟨b, 0, none⟩) w R := by
  apply kvm_KV_Snapshot.sound
  unfold kvm_KV_Snapshot.B0
  have hle := hk.le
  have hlt := h.lt
  refine Buf.make (by omega) (by omega) fun r w1 hr hs1 hb1 he1 => Pn.mk (MB.ldN (h.ext0 he1) ?_)
  rw [wrap8_id (by omega) (by omega)]
  refine Buf.app [(A.length : Int)] hb1 (IsB.one (by omega)) (by simp) fun b2 c2 w2 hb2 he2 hg2 => ?_
  have nb : ∀ k ∈ rowBlk b2, w.heap.size ≤ k := fun k hk => by
    rcases hg2 k hk with h1 | h1
    · simp [rowBlk] at h1; omega
    · have := he1.size; omega
  have e2 : Ext [] w w2 := he1.trans' he2 (fun y hy hl => by simp [rowBlk] at hy; omega)
  refine ⟨fun mm k' b' l' c' j w' => ∃ n : Nat, n ≤ A.length ∧ mm = A.length - n ∧ some ⟨b, 0, none⟩ = k' ∧ j = (n : Int) ∧ Buf w' b' l' c' ([(A.length : Int)] ++ (A.take n).flatMap pairB) ∧ (∀ k ∈ rowBlk b', w.heap.size ≤ k) ∧ Ext [] w w', _,
    ⟨0, Nat.zero_le _, rfl, rfl, rfl, by simpa using hb2, nb, e2⟩, ?_⟩
  clear hb1 hb2 he1 he2 hg2 nb e2 hs1
  rintro mm k' b' l' c' j w' ⟨n, hn, rfl, rfl, rfl, hb', nb', he'⟩
  have h' := h.ext0 he'
  unfold kvm_KV_Snapshot.L1b
  refine Pn.mk (MB.ldN h' (Bm.ite (fun hj => ?_) fun hj => ?_))
  · have hnA : n < A.length := by omega
    obtain ⟨q, hq⟩ : ∃ q, A[n]? = some q := ⟨_, List.getElem?_eq_getElem hnA⟩
    have hqo := hk.a.2 q (List.mem_of_getElem? hq)
    refine Pn.mk ⟨⟨by omega, by omega⟩, MB.ldK h' (by omega) ?_⟩
    rw [padA_at hq]
    refine modStr_ok hb' (by have := hqo.2; omega) (by
      have h1 := hb'.len
      have h2 := flat_len (A := A.take n) fun p hp => hk.a.2 p (List.mem_of_mem_take hp)
      rw [List.length_take] at h2
      simp only [List.length_append, List.length_cons, List.length_nil]
      omega) fun b8 l8 c8 w8 hb8 he8 hg8 => Pn.mk ⟨⟨by omega, by omega⟩, ?_⟩
    have nb8 : ∀ k ∈ rowBlk b8, w.heap.size ≤ k := fun k hk => by
      rcases hg8 k hk with h1 | h1
      · exact nb' k h1
      · have := he'.size; omega
    have e8 : Ext [] w w8 := he'.trans' he8 (fun y hy hl => by have := nb' y hy; omega)
    refine MB.ldV (h.ext0 e8) (by omega) ?_
    rw [padA_at hq]
    refine modStr_ok hb8 (by have := hqo.2; omega) (by
      have h1 := hb'.len
      have h2 := flat_len (A := A.take n) fun p hp => hk.a.2 p (List.mem_of_mem_take hp)
      rw [List.length_take] at h2
      simp only [List.length_append, List.length_cons, List.length_nil, strB_length]
      have := hqo.2
      omega) fun b10 l10 c10 w10 hb10 he10 hg10 => ?_
    refine ⟨A.length - (n + 1), by omega, n + 1, by omega, rfl, rfl, by rw [w64 (by omega) (by omega)]; omega, ?_, fun k hk => ?_, e8.trans' he10 (fun y hy hl => by have := nb8 y hy; omega)⟩
    · have e : (A.take (n + 1)).flatMap pairB = (A.take n).flatMap pairB ++ pairB q := by
        rw [List.take_add_one, hq, List.flatMap_append]
        simp
      rw [e]
      have : [(A.length : Int)] ++ (A.take n).flatMap pairB ++ (((q.1.size : Int)) :: strB q.1) ++ ((q.2.size : Int) :: strB q.2) = [(A.length : Int)] ++ ((A.take n).flatMap pairB ++ pairB q) := by
        simp [pairB, putS]
      rw [this] at hb10
      exact hb10
    · rcases hg10 k hk with h1 | h1
      · exact nb8 k h1
      · have := e8.size; omega
  have hnA : n = A.length := by omega
  subst hnA
  rw [List.take_length] at hb'
  have h2 := flat_len hk.a.2
  refine ⟨fun mm k' b' l' c' c w' => ∃ n : Nat, n ≤ 3 ∧ mm = 3 - n ∧ some ⟨b, 0, none⟩ = k' ∧ c = (n : Int) ∧ Buf w' b' l' c' ([(A.length : Int)] ++ A.flatMap pairB ++ sessTo S n) ∧ (∀ k ∈ rowBlk b', w.heap.size ≤ k) ∧ Ext [] w w', _,
    ⟨0, by omega, rfl, rfl, rfl, by simpa [sessTo] using hb', nb', he'⟩, ?_⟩
  clear hb' nb' he' h'
  rintro mm k' b' l' c' c w' ⟨n, hn, rfl, rfl, rfl, hb', nb', he'⟩
  have h' := h.ext0 he'
  have hto := sessTo_len hk.s n hn
  unfold kvm_KV_Snapshot.L2b
  refine Bm.ite (fun hj => ?_) fun hj => ?_
  · have hn3 : n < 3 := by omega
    have hso := hk.s n hn3
    refine Pn.mk ⟨⟨by omega, by omega⟩, MB.ldQ h' hn3 (putU64_ok hb' ⟨hso.1, by have := hso.2.1; omega⟩ (by
      simp only [List.length_append, List.length_cons, List.length_nil]
      omega) fun b7 l7 c7 w7 hb7 he7 hg7 => Pn.mk ⟨⟨by omega, by omega⟩, ?_⟩)⟩
    have n7 : ∀ k ∈ rowBlk b7, w.heap.size ≤ k := fun k hk => by
      rcases hg7 k hk with h1 | h1
      · exact nb' k h1
      · have := he'.size; omega
    have e7 : Ext [] w w7 := he'.trans' he7 (fun y hy hl => by have := nb' y hy; omega)
    refine MB.ldE (h.ext0 e7) hn3 ?_
    rw [wrap8_id hso.2.2.1 (by have := hso.2.2.2.1; omega)]
    refine Buf.app [(S n).2.1] hb7 (IsB.one ⟨hso.2.2.1, by have := hso.2.2.2.1; omega⟩) (by
      simp only [List.length_append, List.length_cons, List.length_nil, enc8_length]
      omega) fun b8 c8 w8 hb8 he8 hg8 => Pn.mk ⟨⟨by omega, by omega⟩, ?_⟩
    have n8 : ∀ k ∈ rowBlk b8, w.heap.size ≤ k := fun k hk => by
      rcases hg8 k hk with h1 | h1
      · exact n7 k h1
      · have := e7.size; omega
    have e8 : Ext [] w w8 := e7.trans' he8 (fun y hy hl => by have := n7 y hy; omega)
    refine MB.ldS (h.ext0 e8) hn3 (modStr_ok hb8 (by have := hso.2.2.2.2; omega) (by
      simp only [List.length_append, List.length_cons, List.length_nil, enc8_length]
      omega) fun b9 l9 c9 w9 hb9 he9 hg9 => ?_)
    refine ⟨3 - (n + 1), by omega, n + 1, by omega, rfl, rfl, by rw [w64 (by omega) (by omega)]; omega, ?_, fun k hk => ?_, e8.trans' he9 (fun y hy hl => by have := n8 y hy; omega)⟩
    · have : [(A.length : Int)] ++ A.flatMap pairB ++ sessTo S n ++ enc8 (S n).1 ++ [(S n).2.1] ++ (((S n).2.2.size : Int) :: strB (S n).2.2) = [(A.length : Int)] ++ A.flatMap pairB ++ sessTo S (n + 1) := by
        simp [sessTo, sessB, putS]
      rw [this] at hb9
      exact hb9
    · rcases hg9 k hk with h1 | h1
      · exact n8 k h1
      · have := e8.size; omega
  · have hn3 : n = 3 := by omega
    subst hn3
    rw [sessTo3] at hb'
    exact hb'.str (hR w' he')
/-- A place in s: none: -1. -/
def PosAt (s : ByteArray) (o : Option (List Int)) (p : Int) : Prop := (o = none ∧ p = -1) ∨ ∃ n : Nat, p = n ∧ n ≤ s.size ∧ o = some ((strB s).drop n)
theorem take_ok {s : ByteArray} {o : Option (List Int)} {p lo hi : Int} {R : ByteArray → Int → World → Prop} (hs : s.size ≤ 281474976710656) (hp : PosAt s o p)
    (hR : ∀ p', PosAt s ((o.bind (takeS lo hi)).map (·.2)) p' → R (((o.bind (takeS lo hi)).map (·.1)).getD estr) p' w) : kvm_take.Call s p lo hi w R := by
  apply kvm_take.sound
  unfold kvm_take.B0
  have bad : o.bind (takeS lo hi) = none → R estr (-1) w := fun hn => by
    rw [hn] at hR
    exact hR (-1) (.inl ⟨rfl, rfl⟩)
  have bad1 : o.bind (takeS lo hi) = none → kvm_take.B1 s p lo hi true w R := fun hn => by
    unfold kvm_take.B1
    exact Bm.pos rfl (bad hn)
  rcases hp with ⟨rfl, rfl⟩ | ⟨n, rfl, hn, rfl⟩
  · exact Bm.pos (by decide) (bad1 rfl)
  refine Bm.neg (decide_eq_false (by omega)) ?_
  by_cases hge : s.size ≤ n
  · rw [decide_eq_true (by omega)]
    refine bad1 ?_
    simp only [Option.bind_some]
    rw [List.drop_eq_nil_of_le (by rw [strB_length]; omega)]
    rfl
  rw [decide_eq_false (by omega)]
  unfold kvm_take.B1
  refine Bm.neg rfl ⟨⟨by omega, by omega⟩, ?_⟩
  rw [wi_byte]
  have hb := byteAt_bd s (n : Int)
  have htk : (some ((strB s).drop n)).bind (takeS lo hi) = if lo ≤ byteAt s n ∧ byteAt s n ≤ hi ∧ byteAt s n ≤ ((s.size - (n + 1) : Nat) : Int) then some (bStr (((strB s).drop (n + 1)).take (byteAt s n).toNat), ((strB s).drop (n + 1)).drop (byteAt s n).toNat) else none := by
    simp only [Option.bind_some]
    rw [drop_at (by omega), takeS_cons, List.length_drop, strB_length]
  have bad2 : (some ((strB s).drop n)).bind (takeS lo hi) = none → kvm_take.B2 s (n : Int) (byteAt s n) true w R := fun hn => by
    unfold kvm_take.B2
    exact Bm.pos rfl (bad hn)
  refine Bm.ite (fun hx => bad2 (by rw [htk, if_neg (by omega)])) fun h1 => Bm.ite (fun hx => bad2 (by rw [htk, if_neg (by omega)])) fun h2 => ?_
  rw [w64 (x := (n : Int) + 1) (by omega) (by omega), w64 (x := (n : Int) + 1 + byteAt s n) (by omega) (by omega)]
  by_cases h3 : (n : Int) + 1 + byteAt s n > (s.size : Int)
  · rw [decide_eq_true h3]
    exact bad2 (by rw [htk, if_neg (by omega)])
  rw [decide_eq_false h3]
  rw [htk, if_pos ⟨by omega, by omega, by omega⟩] at hR
  unfold kvm_take.B2
  rw [w64 (x := (n : Int) + 1) (by omega) (by omega), w64 (x := (n : Int) + 1 + byteAt s n) (by omega) (by omega)]
  refine Bm.neg rfl ⟨⟨by omega, by omega⟩, ⟨by omega, by omega⟩, ?_⟩
  have hcut : s.extract ((n : Int) + 1).toNat ((n : Int) + 1 + byteAt s n).toNat = bStr (((strB s).drop (n + 1)).take (byteAt s n).toNat) := by
    rw [show ((n : Int) + 1).toNat = n + 1 by omega, show ((n : Int) + 1 + byteAt s n).toNat = n + 1 + (byteAt s n).toNat by omega, cut_eq (by omega)]
  rw [hcut]
  refine hR _ (.inr ⟨n + 1 + (byteAt s n).toNat, by omega, by omega, ?_⟩)
  rw [Option.map_some, List.drop_drop]
def mixF (F G : Nat → Value) (m j : Nat) : Value := if j < m then F j else G j
theorem mixF_put {F G : Nat → Value} {m j : Nat} (vs : List Value) (hv : ∀ k, k < vs.length → vs.getD k undef = F (m + k)) : fnPut (mixF F G m) m vs j = mixF F G (m + vs.length) j := by
  unfold fnPut mixF
  by_cases h : m ≤ j ∧ j < m + vs.length
  · rw [if_pos h, if_pos h.2, hv (j - m) (by omega), show m + (j - m) = j by omega]
  · rw [if_neg h]
    by_cases h2 : j < m
    · rw [if_pos h2, if_pos (by omega)]
    · rw [if_neg h2, if_neg (by omega)]
theorem modRestore_ok {s : KvS} {x : ByteArray} {R : Int → World → Prop} (h : ModAt w b s.A s.S) (hx : x.size ≤ 281474976710656)
    (hR : ∀ w', ModAt w' b (restoreA x s).2.A (restoreA x s).2.S → Ext [b] w w' → R (restoreA x s).1 w') : kvm_KV_Restore.Call (some ⟨b, 0, none⟩) x w R := by
  apply kvm_KV_Restore.sound
  unfold kvm_KV_Restore.B0
  have hbl := h.lt
  have fail : parse (strB x) = none → ∀ w', Ext [] w w' → R 15 w' := fun hn w' he => by
    have hr : restoreA x s = (15, s) := by unfold restoreA; rw [hn]
    rw [hr] at hR
    exact hR w' (h.ext0 he) he.nil
  refine New.mk fun t w1 ht hs1 ho1 he1 => ?_
  have hm1 : MB w1 t 0 (padA []) (ssOf []) := ⟨ho1, rfl⟩
  by_cases hz : x.size < 1
  · refine Bm.pos (decide_eq_true (by omega)) ?_
    unfold kvm_KV_Restore.B1
    refine Bm.pos rfl (fail ?_ w1 he1)
    have : strB x = [] := List.eq_nil_of_length_eq_zero (by rw [strB_length]; omega)
    rw [this]
    rfl
  refine Bm.neg (decide_eq_false (by omega)) ⟨⟨by omega, by omega⟩, ?_⟩
  rw [wi_byte]
  have hb0 := byteAt_bd x 0
  have hdx : strB x = byteAt x 0 :: (strB x).drop 1 := drop_at (s := x) (p := 0) (by omega)
  by_cases h4 : byteAt x 0 > 4
  · rw [decide_eq_true h4]
    unfold kvm_KV_Restore.B1
    refine Bm.pos rfl (fail ?_ w1 he1)
    rw [hdx]
    simp only [parse, takeB, Option.bind_some]
    rw [if_neg (by omega)]
  rw [decide_eq_false h4]
  unfold kvm_KV_Restore.B1
  rw [wi_byte]
  obtain ⟨n, hn⟩ : ∃ n : Nat, byteAt x 0 = n := ⟨(byteAt x 0).toNat, by omega⟩
  have hn4 : n ≤ 4 := by omega
  have hpar : parse (strB x) = (parseP n 0 ((strB x).drop 1)).bind fun y => parseC y.1 y.2 := by
    rw [hdx]
    simp only [parse, takeB, Option.bind_some]
    rw [if_pos (by omega), hn, Int.toNat_natCast]
    rfl
  rw [hn]
  refine Bm.neg rfl ⟨⟨by omega, by omega⟩, hm1.stN fun w2 hs2 hm2 he2 => ?_⟩
  have e2 : Ext [] w w2 := up1 he1 he2 (by omega)
  refine ⟨fun mm k' x' t' p i w' => ∃ (e pn : Nat) (A : List Pair) (bf : ByteArray), e ≤ n ∧ mm = n - e ∧ some ⟨b, 0, none⟩ = k' ∧ x = x' ∧ t = t' ∧ p = (pn : Int) ∧ pn ≤ x.size ∧ i = (e : Int) ∧
      parse (strB x) = (parseP (n - e) (rk bf) ((strB x).drop pn)).bind (fun y => parseC (A ++ y.1) y.2) ∧ bf.size ≤ 2 ∧ A.length = e ∧ (e = 0 → bf = estr) ∧ (∀ q, A[e - 1]? = some q → q.1 = bf) ∧ MB w' t (n : Int) (padA A) (ssOf []) ∧ Ext [] w w', _,
    ⟨0, 1, [], estr, by omega, rfl, rfl, rfl, rfl, rfl, by omega, rfl, hpar, by decide, rfl, fun _ => rfl, fun q hq => (by cases hq), hm2, e2⟩, ?_⟩
  clear hm1 hm2 he2 e2 hs2 hpar w2 ho1
  rintro mm k' x' t' p i w2 ⟨e, pn, A, bf, hen, rfl, rfl, rfl, rfl, rfl, hpn, rfl, hpar, hbf, hAl, hb0', hlast, hm, e2⟩
  unfold kvm_KV_Restore.L1b
  refine hm.ldN (Bm.ite (fun hlt => ?_) fun hge => ?_)
  · have hk1 : n - e = (n - (e + 1)) + 1 := by omega
    rw [hk1] at hpar
    refine take_ok hx (.inr ⟨pn, rfl, hpn, rfl⟩) fun p1 hp1 => ⟨⟨by omega, by omega⟩, ?_⟩
    have A1 : (Addr.add ⟨t, 1, none⟩ ((e : Int).toNat * 1)) = Addr.add (Addr.add ⟨t, 0, none⟩ 1) ((e : Int).toNat * 1) := by rw [add_mk, add_mk, add_mk]
    have A5 : (Addr.add ⟨t, 5, none⟩ ((e : Int).toNat * 1)) = Addr.add (Addr.add ⟨t, 0, none⟩ 5) ((e : Int).toNat * 1) := by rw [add_mk, add_mk, add_mk]
    rw [A1, A5]
    refine hm.stK (by omega) fun w3 hs3 hm3 he3 => take_ok hx hp1 fun p2 hp2 => ⟨⟨by omega, by omega⟩, hm3.stV (by omega) fun w4 hs4 hm4 he4 => ?_⟩
    rw [set_kv (by rw [hm.2]; omega)] at hm4
    have e4 : Ext [] w w4 := up1 (up1 e2 he3 (by omega)) he4 (by omega)
    have e4d := e4.trans (Ext.drew [] w4)
    have bad : parse (strB x) = none → kvm_KV_Restore.B2 (some ⟨b, 0, none⟩) x t p2 (e : Int) true w4.drew (fun k' s' t' p' i' w' => ∃ m', m' < n - e ∧ ∃ (e pn : Nat) (A : List Pair) (bf : ByteArray), e ≤ n ∧ m' = n - e ∧ some ⟨b, 0, none⟩ = k' ∧ x = s' ∧ t = t' ∧ p' = (pn : Int) ∧ pn ≤ x.size ∧ i' = (e : Int) ∧
      parse (strB x) = (parseP (n - e) (rk bf) ((strB x).drop pn)).bind (fun y => parseC (A ++ y.1) y.2) ∧ bf.size ≤ 2 ∧ A.length = e ∧ (e = 0 → bf = estr) ∧ (∀ q, A[e - 1]? = some q → q.1 = bf) ∧ MB w' t (n : Int) (padA A) (ssOf []) ∧ Ext [] w w') R := fun hn => by
      unfold kvm_KV_Restore.B2
      exact Bm.pos rfl (fail hn _ e4d)
    simp only [Option.bind_some] at hp1 hp2 hm4 ⊢
    cases hq : takeS 1 2 ((strB x).drop pn) with
    | none =>
      rw [hq] at hp2
      simp only [Option.map_none, Option.bind_none] at hp2
      rcases hp2 with ⟨_, hp2⟩ | ⟨_, _, _, hc⟩
      · refine Bm.pos (decide_eq_true (by omega)) (bad ?_)
        rw [hpar]
        simp only [parseP]
        rw [hq]
        rfl
      · cases hc
    | some kL =>
      obtain ⟨k, L1⟩ := kL
      rw [hq] at hp1 hp2 hm4
      simp only [Option.map_some, Option.bind_some, Option.getD_some] at hp1 hp2 hm4 ⊢
      cases hq2 : takeS 0 3 L1 with
      | none =>
        rw [hq2] at hp2
        rcases hp2 with ⟨_, hp2⟩ | ⟨_, _, _, hc⟩
        · refine Bm.pos (decide_eq_true (by omega)) (bad ?_)
          rw [hpar]
          simp only [parseP]
          rw [hq]
          simp only [Option.bind_some]
          rw [hq2]
          rfl
        · cases hc
      | some vL =>
        obtain ⟨v, L2⟩ := vL
        rw [hq2] at hp2 hm4
        simp only [Option.map_some, Option.getD_some] at hp2 hm4
        rcases hp2 with ⟨hc, _⟩ | ⟨pn2, rfl, hpn2, hL2⟩
        · cases hc
        simp only [Option.some.injEq] at hL2
        obtain ⟨q1, k1, k2, hL1⟩ := takeS_inv ((strB_isB x).drop pn) (by omega) hq
        have hpar2 : parse (strB x) = (if rk bf < rk k then (parseP (n - (e + 1)) (rk k) L2).map fun z => ((k, v) :: z.1, z.2) else none).bind (fun y => parseC (A ++ y.1) y.2) := by
          rw [hpar]
          simp only [parseP]
          rw [hq]
          simp only [Option.bind_some]
          rw [hq2]
          rfl
        have hpadA : (padA A).set e (k, v) = padA (A ++ [(k, v)]) := by
          unfold padA
          rw [List.set_append_right _ _ (by omega), List.length_append, show 4 - A.length = (4 - (A.length + [(k, v)].length)) + 1 by simp; omega, List.replicate_succ, hAl, Nat.sub_self]
          simp
        rw [hpadA] at hm4
        have good : rk bf < rk k → kvm_KV_Restore.B2 (some ⟨b, 0, none⟩) x t (pn2 : Int) (e : Int) false w4.drew (fun k' s' t' p' i' w' => ∃ m', m' < n - e ∧ ∃ (e pn : Nat) (A : List Pair) (bf : ByteArray), e ≤ n ∧ m' = n - e ∧ some ⟨b, 0, none⟩ = k' ∧ x = s' ∧ t = t' ∧ p' = (pn : Int) ∧ pn ≤ x.size ∧ i' = (e : Int) ∧
      parse (strB x) = (parseP (n - e) (rk bf) ((strB x).drop pn)).bind (fun y => parseC (A ++ y.1) y.2) ∧ bf.size ≤ 2 ∧ A.length = e ∧ (e = 0 → bf = estr) ∧ (∀ q, A[e - 1]? = some q → q.1 = bf) ∧ MB w' t (n : Int) (padA A) (ssOf []) ∧ Ext [] w w') R := fun hord => by
          unfold kvm_KV_Restore.B2
          rw [if_pos hord] at hpar2
          refine Bm.neg rfl ⟨n - (e + 1), by omega, e + 1, pn2, A ++ [(k, v)], k, by omega, rfl, rfl, rfl, rfl, rfl, hpn2, by rw [w64 (by omega) (by omega)]; omega, ?_, by omega, by simp [hAl], fun h => by omega, fun q hq => ?_, hm4.drew, e4d⟩
          · rw [hpar2, ← hL2]
            cases parseP (n - (e + 1)) (rk k) L2 with
            | none => rfl
            | some z => simp
          · rw [Nat.add_sub_cancel, List.getElem?_append_right (by omega), hAl, Nat.sub_self] at hq
            simp only [List.getElem?_cons_zero, Option.some.injEq] at hq
            rw [← hq]
        refine Bm.neg (decide_eq_false (by omega)) (Bm.ite (fun hpos => ?_) fun hz => ?_)
        · have ei : IntKind.i64.wrap ((e : Int) - 1) = ((e - 1 : Nat) : Int) := by rw [w64 (by omega) (by omega)]; omega
          rw [ei]
          have A1' : (Addr.add ⟨t, 1, none⟩ (((e - 1 : Nat) : Int).toNat * 1)) = Addr.add (Addr.add ⟨t, 0, none⟩ 1) (((e - 1 : Nat) : Int).toNat * 1) := by rw [add_mk, add_mk, add_mk]
          rw [A1']
          obtain ⟨q, hqe⟩ : ∃ q, A[e - 1]? = some q := ⟨_, List.getElem?_eq_getElem (by omega)⟩
          have hqb := hlast q hqe
          have g1 : (padA (A ++ [(k, v)])).getD (e - 1) zP = q := padA_at (by rw [List.getElem?_append_left (by omega)]; exact hqe)
          have g2 : (padA (A ++ [(k, v)])).getD e zP = (k, v) := padA_at (by rw [List.getElem?_append_right (by omega), hAl, Nat.sub_self]; rfl)
          refine ⟨⟨by omega, by omega⟩, hm4.drew.ldK (by omega) ⟨⟨by omega, by omega⟩, ?_⟩⟩
          refine hm4.drew.ldK (by omega) ?_
          rw [g1, g2, hqb, less_rk hbf (by simp only; omega)]
          by_cases hord : rk bf < rk k
          · rw [show (!decide (rk bf < rk (k, v).1)) = false by rw [decide_eq_true hord]; rfl]
            exact good hord
          · rw [show (!decide (rk bf < rk (k, v).1)) = true by rw [decide_eq_false hord]; rfl]
            rw [if_neg hord] at hpar2
            exact bad hpar2
        · have e0 : e = 0 := by omega
          refine good ?_
          rw [hb0' e0]
          exact rk_pos (by omega)
  have een : e = n := by omega
  subst een
  have hpar' : parse (strB x) = (parseQ 3 ((strB x).drop pn)).bind fun y => parseE A y.1 y.2 := by
    rw [hpar, Nat.sub_self]
    simp only [parseP, Option.bind_some, List.append_nil, parseC]
  clear hpar
  refine ⟨fun mm k' x' t' p c w' => ∃ (f pn : Nat) (Q : List Sess), f ≤ 3 ∧ mm = 3 - f ∧ some ⟨b, 0, none⟩ = k' ∧ x = x' ∧ t = t' ∧ p = (pn : Int) ∧ pn ≤ x.size ∧ c = (f : Int) ∧
      parse (strB x) = ((parseQ (3 - f) ((strB x).drop pn)).bind fun y => parseE A (Q ++ y.1) y.2) ∧ Q.length = f ∧ MB w' t (e : Int) (padA A) (ssOf Q) ∧ Ext [] w w', _,
    ⟨0, pn, [], by omega, rfl, rfl, rfl, rfl, rfl, hpn, rfl, hpar', rfl, hm, e2⟩, ?_⟩
  clear hpar' hm e2 w2 hge hbf hlast hb0' bf hpn pn
  rintro mm k' x' t' p c w2 ⟨f, pn, Q, hf3, rfl, rfl, rfl, rfl, rfl, hpn, rfl, hpar, hQl, hm, e2⟩
  unfold kvm_KV_Restore.L2b
  refine Bm.ite (fun hlt => ?_) fun hge => ?_
  · have hk1 : 3 - f = (3 - (f + 1)) + 1 := by omega
    rw [hk1] at hpar
    refine getU64_ok hx ⟨⟨by omega, by omega⟩, ?_⟩
    have A9 : (Addr.add ⟨t, 9, none⟩ ((f : Int).toNat * 1)) = Addr.add (Addr.add ⟨t, 0, none⟩ 9) ((f : Int).toNat * 1) := by rw [add_mk, add_mk, add_mk]
    rw [A9]
    refine hm.stQ (by omega) fun w3 hs3 hm3 he3 => ⟨⟨by omega, by omega⟩, hm3.ldQ (by omega) ?_⟩
    rw [updS_eq]
    have e3 : Ext [] w w3 := up1 e2 he3 (by omega)
    have bad : parse (strB x) = none → kvm_KV_Restore.B3 (some ⟨b, 0, none⟩) x t (pn : Int) (f : Int) true w3 (fun k' s' t' p' c' w' => ∃ m', m' < 3 - f ∧ ∃ (f pn : Nat) (Q : List Sess), f ≤ 3 ∧ m' = 3 - f ∧ some ⟨b, 0, none⟩ = k' ∧ x = s' ∧ t = t' ∧ p' = (pn : Int) ∧ pn ≤ x.size ∧ c' = (f : Int) ∧
      parse (strB x) = ((parseQ (3 - f) ((strB x).drop pn)).bind fun y => parseE A (Q ++ y.1) y.2) ∧ Q.length = f ∧ MB w' t (e : Int) (padA A) (ssOf Q) ∧ Ext [] w w') R := fun hn => by
      unfold kvm_KV_Restore.B3
      exact Bm.pos rfl (fail hn _ e3)
    have hg := gU_take (s := x) hpn
    refine Bm.ite (fun hneg => bad ?_) fun hpos => ?_
    · rw [hpar]
      simp only [parseQ]
      rw [hg.1.1 hneg]
      rfl
    cases hq : takeN ((strB x).drop pn) with
    | none => exact absurd (hg.1.2 hq) hpos
    | some qL =>
      obtain ⟨q, L1⟩ := qL
      obtain ⟨hv, h8, hL1⟩ := hg.2 q L1 hq
      rw [w64 (x := (pn : Int) + 8) (by omega) (by omega)]
      refine Bm.ite (fun hend => bad ?_) fun hin => ⟨⟨by omega, by omega⟩, ?_⟩
      · rw [hpar]
        simp only [parseQ]
        rw [hq]
        simp only [Option.bind_some]
        rw [hL1, List.drop_eq_nil_of_le (by rw [strB_length]; omega)]
        rfl
      rw [wi_byte]
      have hd8 : L1 = byteAt x ((pn : Int) + 8) :: (strB x).drop (pn + 9) := by
        rw [hL1, drop_at (by omega)]
        rfl
      have hb8 := byteAt_bd x ((pn : Int) + 8)
      have hpar1 : parse (strB x) = ((takeS 0 3 ((strB x).drop (pn + 9))).bind fun y => if byteAt x ((pn : Int) + 8) < 16 then (parseQ (3 - (f + 1)) y.2).map fun z => ((q, byteAt x ((pn : Int) + 8), y.1) :: z.1, z.2) else none).bind fun y => parseE A (Q ++ y.1) y.2 := by
        rw [hpar]
        simp only [parseQ]
        rw [hq]
        simp only [Option.bind_some]
        rw [hd8]
        rfl
      by_cases h16 : byteAt x ((pn : Int) + 8) ≥ 16
      · rw [decide_eq_true h16]
        refine bad ?_
        rw [hpar1]
        cases takeS 0 3 ((strB x).drop (pn + 9)) with
        | none => rfl
        | some y =>
          simp only [Option.bind_some]
          rw [if_neg (by omega)]
          rfl
      rw [decide_eq_false h16]
      unfold kvm_KV_Restore.B3
      rw [w64 (x := (pn : Int) + 8) (by omega) (by omega), wi_byte, w64 (x := (pn : Int) + 9) (by omega) (by omega)]
      refine Bm.neg rfl ⟨⟨by omega, by omega⟩, ⟨by omega, by omega⟩, ?_⟩
      have A12 : (Addr.add ⟨t, 12, none⟩ ((f : Int).toNat * 2)) = Addr.add (Addr.add ⟨t, 0, none⟩ 12) ((f : Int).toNat * 2) := by rw [add_mk, add_mk, add_mk]
      rw [A12]
      refine hm3.stE (by omega) fun w4 hs4 hm4 he4 => take_ok hx (.inr ⟨pn + 9, by omega, by omega, rfl⟩) fun p2 hp2 => ⟨⟨by omega, by omega⟩, hm4.stS (by omega) fun w5 hs5 hm5 he5 => ?_⟩
      have e5 : Ext [] w w5 := up1 (up1 e3 he4 (by omega)) he5 (by omega)
      simp only [Option.bind_some] at hp2 hm5
      cases hq2 : takeS 0 3 ((strB x).drop (pn + 9)) with
      | none =>
        rw [hq2] at hp2
        rcases hp2 with ⟨_, hp2⟩ | ⟨_, _, _, hc⟩
        · refine Bm.pos (decide_eq_true (by omega)) (fail ?_ w5 e5)
          rw [hpar1, hq2]
          rfl
        · cases hc
      | some vL =>
        obtain ⟨v, L3⟩ := vL
        rw [hq2] at hp2 hm5
        rcases hp2 with ⟨hc, _⟩ | ⟨pn2, rfl, hpn2, hL3⟩
        · cases hc
        simp only [Option.map_some, Option.some.injEq] at hL3
        refine Bm.neg (decide_eq_false (by omega)) ⟨3 - (f + 1), by omega, f + 1, pn2, Q ++ [(q, byteAt x ((pn : Int) + 8), v)], by omega, rfl, rfl, rfl, rfl, rfl, hpn2, by rw [w64 (by omega) (by omega)]; omega, ?_, by simp [hQl], ?_, e5⟩
        · rw [hpar1, hq2]
          simp only [Option.bind_some]
          rw [if_pos (by omega), hL3]
          cases parseQ (3 - (f + 1)) ((strB x).drop pn2) with
          | none => rfl
          | some z => simp
        · have hSS : updS (updS (updS (ssOf Q) f (gU x (pn : Int), (ssOf Q f).2)) f ((updS (ssOf Q) f (gU x (pn : Int), (ssOf Q f).2) f).1, byteAt x ((pn : Int) + 8), (updS (ssOf Q) f (gU x (pn : Int), (ssOf Q f).2) f).2.2)) f
              ((updS (updS (ssOf Q) f (gU x (pn : Int), (ssOf Q f).2)) f ((updS (ssOf Q) f (gU x (pn : Int), (ssOf Q f).2) f).1, byteAt x ((pn : Int) + 8), (updS (ssOf Q) f (gU x (pn : Int), (ssOf Q f).2) f).2.2) f).1,
               (updS (updS (ssOf Q) f (gU x (pn : Int), (ssOf Q f).2)) f ((updS (ssOf Q) f (gU x (pn : Int), (ssOf Q f).2) f).1, byteAt x ((pn : Int) + 8), (updS (ssOf Q) f (gU x (pn : Int), (ssOf Q f).2) f).2.2) f).2.1, v) = ssOf (Q ++ [(q, byteAt x ((pn : Int) + 8), v)]) := by
            rw [← ssOf_snoc, hQl]
            funext j
            by_cases ej : j = f
            · subst ej
              rw [updS_eq, updS_eq, updS_eq, updS_eq, hv]
            · rw [updS_ne ej, updS_ne ej, updS_ne ej, updS_ne ej]
          rw [← hSS]
          exact hm5
  have hf : f = 3 := by omega
  subst hf
  have hpar' : parse (strB x) = parseE A Q ((strB x).drop pn) := by
    rw [hpar]
    simp [parseQ]
  refine Bm.mk (fun hne => fail ?_ w2 e2) fun heq => ?_
  · rw [hpar', parseE, if_neg]
    intro hnil
    have := congrArg List.length hnil
    rw [List.length_drop, strB_length] at this
    have hps : pn ≠ x.size := fun e => by rw [e] at hne; simp at hne
    simp at this
    omega
  have hps : pn = x.size := by
    have : (pn : Int) = (x.size : Int) := by simpa using heq
    omega
  have hres : restoreA x s = (0, ⟨A, ssOf Q⟩) := by
    unfold restoreA
    rw [hpar', parseE, if_pos (by rw [hps]; exact List.drop_eq_nil_of_le (by rw [strB_length]; omega))]
  rw [hres] at hR
  have hk2 := h.ext0 e2
  have hmd := hm.drew.1
  have hbt : b ≠ t := by omega
  have c : ∀ (w' : World), Ext [b] w2.drew w' → ∀ o, o < 18 → w'.cell? ⟨t, o, none⟩ = some (modF (e : Int) (padA A) (ssOf Q) o) := fun w' he o ho => (he.own hmd (by simp; omega)).cell (fnArr_get _ ho)
  refine LdI.fn hmd (by omega) rfl (LdS.fn hmd (by omega) rfl (LdS.fn hmd (by omega) rfl (LdS.fn hmd (by omega) rfl (LdS.fn hmd (by omega) rfl (LdS.fn hmd (by omega) rfl (LdS.fn hmd (by omega) rfl (LdS.fn hmd (by omega) rfl (LdS.fn hmd (by omega) rfl (LdI.fn hmd (by omega) rfl (LdI.fn hmd (by omega) rfl (LdI.fn hmd (by omega) rfl (LdI.fn hmd (by omega) rfl (LdS.fn hmd (by omega) rfl (LdI.fn hmd (by omega) rfl (LdS.fn hmd (by omega) rfl (LdI.fn hmd (by omega) rfl (LdS.fn hmd (by omega) rfl (Pn.mk ?_))))))))))))))))))
  have hG : Own w2.drew b (fnArr 18 (mixF (modF (e : Int) (padA A) (ssOf Q)) (modF (s.A.length : Int) (padA s.A) s.S) 0)) T_kvm_KV := hk2.1.drew
  refine Sts.fn (o := 0) hG (by simp) rfl (fun j hj => mixF_put _ (fun k hk => ?_)) fun w3 hs3 h3 he3 => ⟨c w3 he3 12 (by omega), c w3 he3 13 (by omega), c w3 he3 14 (by omega), c w3 he3 15 (by omega), c w3 he3 16 (by omega), c w3 he3 17 (by omega), c w3 he3 9 (by omega), c w3 he3 10 (by omega), c w3 he3 11 (by omega), c w3 he3 5 (by omega), c w3 he3 6 (by omega), c w3 he3 7 (by omega), c w3 he3 8 (by omega), c w3 he3 1 (by omega), c w3 he3 2 (by omega), c w3 he3 3 (by omega), c w3 he3 4 (by omega), Pn.mk ?_⟩
  · match k, hk with
    | 0, _ => rfl
  refine Sts.fn (o := 1) h3 (by simp) rfl (fun j hj => mixF_put (m := 1) _ (fun k hk => ?_)) fun w4 hs4 h4 he4 => ?_
  · match k, hk with
    | 0, _ | 1, _ | 2, _ | 3, _ => rfl
  have he4' := he3.trans he4
  refine ⟨c w4 he4' 12 (by omega), c w4 he4' 13 (by omega), c w4 he4' 14 (by omega), c w4 he4' 15 (by omega), c w4 he4' 16 (by omega), c w4 he4' 17 (by omega), c w4 he4' 9 (by omega), c w4 he4' 10 (by omega), c w4 he4' 11 (by omega), c w4 he4' 5 (by omega), c w4 he4' 6 (by omega), c w4 he4' 7 (by omega), c w4 he4' 8 (by omega), Pn.mk ?_⟩
  refine Sts.fn (o := 5) h4 (by simp) rfl (fun j hj => mixF_put (m := 5) _ (fun k hk => ?_)) fun w5 hs5 h5 he5 => ?_
  · match k, hk with
    | 0, _ | 1, _ | 2, _ | 3, _ => rfl
  have he5' := he4'.trans he5
  refine ⟨c w5 he5' 12 (by omega), c w5 he5' 13 (by omega), c w5 he5' 14 (by omega), c w5 he5' 15 (by omega), c w5 he5' 16 (by omega), c w5 he5' 17 (by omega), c w5 he5' 9 (by omega), c w5 he5' 10 (by omega), c w5 he5' 11 (by omega), Pn.mk ?_⟩
  refine Sts.fn (o := 9) h5 (by simp) rfl (fun j hj => mixF_put (m := 9) _ (fun k hk => ?_)) fun w6 hs6 h6 he6 => ?_
  · match k, hk with
    | 0, _ | 1, _ | 2, _ => rfl
  have he6' := he5'.trans he6
  refine ⟨c w6 he6' 12 (by omega), c w6 he6' 13 (by omega), c w6 he6' 14 (by omega), c w6 he6' 15 (by omega), c w6 he6' 16 (by omega), c w6 he6' 17 (by omega), Pn.mk ?_⟩
  refine Sts.fn (o := 12) h6 (by simp) rfl (fun j hj => mixF_put (m := 12) _ (fun k hk => ?_)) fun w7 hs7 h7 he7 => ?_
  · match k, hk with
    | 0, _ | 1, _ | 2, _ | 3, _ | 4, _ | 5, _ => rfl
  refine hR w7 ?_ ((e2.trans (Ext.drew _ _)).nil.trans (he6'.trans he7))
  show MB w7 b (A.length : Int) (padA A) (ssOf Q)
  rw [hAl]
  refine ⟨?_, hm.2⟩
  rw [fnArr_congr (g := modF (e : Int) (padA A) (ssOf Q)) (fun j hj => by unfold mixF; rw [if_pos (by simp; omega)])] at h7
  exact h7
end
end Go.Proofs.Qxb6500430aGreat.Kv
