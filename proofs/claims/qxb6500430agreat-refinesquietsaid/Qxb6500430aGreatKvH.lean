/-
  kv: snapshots: Snapshot of the real layer; reading them back, plainly.
-/
import Derived.Test.Qxb6500430aGreatKvG
set_option linter.unusedVariables false
open Go.Vc
namespace Go.Proofs.Qxb6500430aGreat.Kv

theorem appendStr_ok {w : World} {b : Option Addr} {l c : Nat} {v : List Int} {s : ByteArray} {R : Option Addr → Nat → Nat → World → Prop} (h : Buf w b l c v) (hs : s.size ≤ 255) (hl : v.length ≤ 900000)
    (hR : ∀ b' l' c' w', Buf w' b' l' c' (v ++ ((s.size : Int) :: strB s)) → Ext (rowBlk b) w w' → Grew w (rowBlk b) (rowBlk b') → R b' l' c' w') : kv_appendStr.Call b l c s w R := by
  apply kv_appendStr.sound
  unfold kv_appendStr.B0
  rw [wrap8_id (by omega) (by omega)]
  refine Buf.app [(s.size : Int)] h (IsB.one (by omega)) (by simp; omega) fun b1 c1 w1 hb1 he1 hg1 => ?_
  refine ⟨fun m b2 l2 c2 s' i w2 => ∃ n : Nat, n ≤ s.size ∧ m = s.size - n ∧ s = s' ∧ i = (n : Int) ∧ Buf w2 b2 l2 c2 (v ++ [(s.size : Int)] ++ (strB s).take n) ∧ Ext (rowBlk b) w w2 ∧ Grew w (rowBlk b) (rowBlk b2), _,
    ⟨0, Nat.zero_le _, rfl, rfl, rfl, by rw [List.take_zero, List.append_nil]; exact hb1, he1, hg1⟩, ?_⟩
  rintro m b2 l2 c2 s' i w2 ⟨n, hn, rfl, rfl, rfl, hb, he, hg⟩
  unfold kv_appendStr.L1b
  refine Bm.ite (fun hlt => ⟨⟨by omega, hlt⟩, ?_⟩) fun hge => ?_
  · refine Buf.app [byteAt s (n : Int)] hb (IsB.one (byteAt_bd _ _)) (by
      simp only [List.length_append, List.length_take, List.length_cons, List.length_nil]
      omega) fun b3 c3 w3 hb3 he3 hg3 => ?_
    rw [List.append_assoc, take_strB_succ (by omega)] at hb3
    refine ⟨_, ?_, n + 1, by omega, rfl, rfl, by rw [w64 (by omega) (by omega)]; omega, hb3, he.trans' he3 (fun x hx hl => ?_), hg.trans he.size hg3⟩
    · omega
    · rcases hg x hx with h1 | h1
      · exact h1
      · omega
  · have e : n = s.size := by omega
    subst e
    rw [List.take_of_length_le (by rw [strB_length]; omega), List.append_assoc] at hb
    exact hR _ _ _ _ hb he hg
theorem modStr_ok {w : World} {b : Option Addr} {l c : Nat} {v : List Int} {s : ByteArray} {R : Option Addr → Nat → Nat → World → Prop} (h : Buf w b l c v) (hs : s.size ≤ 255) (hl : v.length ≤ 900000)
    (hR : ∀ b' l' c' w', Buf w' b' l' c' (v ++ ((s.size : Int) :: strB s)) → Ext (rowBlk b) w w' → Grew w (rowBlk b) (rowBlk b') → R b' l' c' w') : kvm_str.Call b l c s w R := by
  apply kvm_str.sound
  unfold kvm_str.B0
  rw [wrap8_id (by omega) (by omega)]
  refine Buf.app [(s.size : Int)] h (IsB.one (by omega)) (by simp; omega) fun b1 c1 w1 hb1 he1 hg1 => ?_
  refine ⟨fun m b2 l2 c2 s' i w2 => ∃ n : Nat, n ≤ s.size ∧ m = s.size - n ∧ s = s' ∧ i = (n : Int) ∧ Buf w2 b2 l2 c2 (v ++ [(s.size : Int)] ++ (strB s).take n) ∧ Ext (rowBlk b) w w2 ∧ Grew w (rowBlk b) (rowBlk b2), _,
    ⟨0, Nat.zero_le _, rfl, rfl, rfl, by rw [List.take_zero, List.append_nil]; exact hb1, he1, hg1⟩, ?_⟩
  rintro m b2 l2 c2 s' i w2 ⟨n, hn, rfl, rfl, rfl, hb, he, hg⟩
  unfold kvm_str.L1b
  refine Bm.ite (fun hlt => ⟨⟨by omega, hlt⟩, ?_⟩) fun hge => ?_
  · refine Buf.app [byteAt s (n : Int)] hb (IsB.one (byteAt_bd _ _)) (by
      simp only [List.length_append, List.length_take, List.length_cons, List.length_nil]
      omega) fun b3 c3 w3 hb3 he3 hg3 => ?_
    rw [List.append_assoc, take_strB_succ (by omega)] at hb3
    refine ⟨_, ?_, n + 1, by omega, rfl, rfl, by rw [w64 (by omega) (by omega)]; omega, hb3, he.trans' he3 (fun x hx hl => ?_), hg.trans he.size hg3⟩
    · omega
    · rcases hg x hx with h1 | h1
      · exact h1
      · omega
  · have e : n = s.size := by omega
    subst e
    rw [List.take_of_length_le (by rw [strB_length]; omega), List.append_assoc] at hb
    exact hR _ _ _ _ hb he hg

def pairB (p : Pair) : List Int := putS p.1 ++ putS p.2
def sessB (s : Sess) : List Int := enc8 s.1 ++ [s.2.1] ++ putS s.2.2
def snapB (A : List Pair) (S : Ss) : List Int := [(A.length : Int)] ++ A.flatMap pairB ++ (sessB (S 0) ++ sessB (S 1) ++ sessB (S 2))
def snapS (A : List Pair) (S : Ss) : ByteArray := bStr (snapB A S)
theorem pairB_len {p : Pair} (h : PairOk p) : (pairB p).length ≤ 7 := by
  unfold pairB putS
  simp only [List.length_append, List.length_cons, strB_length]
  have := h.2
  omega
theorem pairB_isB {p : Pair} (h : PairOk p) : IsB (pairB p) := (putS_isB (by have := h.2; omega)).append (putS_isB (by have := h.2; omega))
theorem sessB_isB {s : Sess} (h : SessOk s) : IsB (sessB s) := ((enc8_isB _).append (IsB.one ⟨h.2.2.1, by have := h.2.2.2.1; omega⟩)).append (putS_isB (by have := h.2.2.2.2; omega))
theorem flat_isB : ∀ {A : List Pair}, (∀ p ∈ A, PairOk p) → IsB (A.flatMap pairB)
  | [], _ => IsB.nil
  | p :: A, h => by
    rw [List.flatMap_cons]
    exact (pairB_isB (h p (List.mem_cons_self ..))).append (flat_isB fun q hq => h q (List.mem_cons_of_mem _ hq))
theorem flat_len : ∀ {A : List Pair}, (∀ p ∈ A, PairOk p) → (A.flatMap pairB).length ≤ 7 * A.length
  | [], _ => by simp
  | p :: A, h => by
    rw [List.flatMap_cons, List.length_append, List.length_cons]
    have h1 := pairB_len (h p (List.mem_cons_self ..))
    have h2 := flat_len fun q hq => h q (List.mem_cons_of_mem _ hq)
    omega
theorem snapB_isB {A : List Pair} {S : Ss} (h : KvOk A S) : IsB (snapB A S) :=
  ((IsB.one (by have := h.le; omega)).append (flat_isB h.a.2)).append (((sessB_isB (h.s 0 (by omega))).append (sessB_isB (h.s 1 (by omega)))).append (sessB_isB (h.s 2 (by omega))))
theorem sessB_len {s : Sess} (h : SessOk s) : (sessB s).length ≤ 13 := by
  unfold sessB putS
  simp only [List.length_append, List.length_cons, List.length_nil, strB_length, enc8_length]
  have := h.2.2.2.2
  omega
theorem snapB_len {A : List Pair} {S : Ss} (h : KvOk A S) : (snapB A S).length ≤ 68 := by
  unfold snapB
  simp only [List.length_append, List.length_cons, List.length_nil]
  have h0 := sessB_len (h.s 0 (by omega))
  have h1 := sessB_len (h.s 1 (by omega))
  have h2 := sessB_len (h.s 2 (by omega))
  have h3 := flat_len h.a.2
  have := h.le
  omega
/-- The sessions ahead of c. -/
def sessTo (S : Ss) : Nat → List Int
  | 0 => []
  | n + 1 => sessTo S n ++ sessB (S n)
theorem sessTo3 (S : Ss) : sessTo S 3 = sessB (S 0) ++ sessB (S 1) ++ sessB (S 2) := by simp [sessTo]
theorem sessTo_len {S : Ss} (h : ∀ i, i < 3 → SessOk (S i)) : ∀ n, n ≤ 3 → (sessTo S n).length ≤ 13 * n
  | 0, _ => by simp [sessTo]
  | n + 1, hn => by
    have := sessTo_len h n (by omega)
    have := sessB_len (h n (by omega))
    simp only [sessTo, List.length_append]
    omega
section
variable {w : World} {b : Nat} {A : List Pair} {S : Ss}
theorem realSnapshot_ok {R : ByteArray → World → Prop} (h : RealAt w b A S) (hk : KvOk A S) (hR : ∀ w', Ext [] w w' → R (snapS A S) w') : kv_KV_Snapshot.Call (some ⟨b, 0, none⟩) w R := by
  apply kv_KV_Snapshot.sound
  unfold kv_KV_Snapshot.B0
  obtain ⟨T, m, h, hg, hp⟩ := h
  have hle := hk.le
  have hlt := h.lt
  refine Buf.make (by omega) (by omega) fun r w1 hr hs1 hb1 he1 => Pn.mk ((h.ext0 he1).ldL ?_)
  rw [wrap8_id (by omega) (by omega)]
  refine Buf.app [(A.length : Int)] hb1 (IsB.one (by omega)) (by simp) fun b2 c2 w2 hb2 he2 hg2 => Pn.mk ?_
  have nb : ∀ k ∈ rowBlk b2, w.heap.size ≤ k := fun k hk => by
    rcases hg2 k hk with h1 | h1
    · simp [rowBlk] at h1; omega
    · have := he1.size; omega
  have e2 : Ext [] w w2 := he1.trans' he2 (fun y hy hl => by simp [rowBlk] at hy; omega)
  refine sorted_ok (h.ext0 e2) hg.inv (by rw [hp.length_eq]; omega) hk.a hp fun w3 x0 x1 x2 x3 hx he3 => NewSet.mk rfl rfl fun a w4 ha hs4 ho4 he4 => ?_
  have hat : At4 w4 a [x0, x1, x2, x3] := ⟨ho4, rfl⟩
  have e4 := (e2.trans he3).trans he4
  refine ⟨fun mm k' b' l' c' a' j w' => ∃ n : Nat, n ≤ A.length ∧ mm = A.length - n ∧ some ⟨b, 0, none⟩ = k' ∧ a = a' ∧ j = (n : Int) ∧ At4 w' a [x0, x1, x2, x3] ∧ Buf w' b' l' c' ([(A.length : Int)] ++ (A.take n).flatMap pairB) ∧ (∀ k ∈ rowBlk b', w.heap.size ≤ k ∧ k ≠ a) ∧ Ext [] w w', _,
    ⟨0, Nat.zero_le _, rfl, rfl, rfl, rfl, hat, by simpa using (hb2.ext0 he3).ext0 he4, fun k hk => ⟨nb k hk, by have := hb2.lt k hk; have := he3.size; omega⟩, e4⟩, ?_⟩
  rintro mm k' b' l' c' a' j w' ⟨n, hn, rfl, rfl, rfl, rfl, hat', hb', nb', he'⟩
  have h' := h.ext0 he'
  have hw4 := e4.size
  have ha4 : w.heap.size ≤ a := by have := (e2.trans he3).size; omega
  unfold kv_KV_Snapshot.L1b
  refine Pn.mk (h'.ldL (Bm.ite (fun hj => ?_) fun hj => ?_))
  · rw [decide_eq_true (by omega)]
    unfold kv_KV_Snapshot.B1
    have hnA : n < A.length := by omega
    obtain ⟨q, hq⟩ : ∃ q, A[n]? = some q := ⟨_, List.getElem?_eq_getElem hnA⟩
    obtain ⟨i, hi, hL, hT⟩ := hx n q hq
    have hqo := hg.inv.ok i hi q hT
    have hatd : At4 w'.drew a [x0, x1, x2, x3] := ⟨hat'.1.drew, hat'.2⟩
    refine Bm.pos rfl ⟨⟨by omega, by omega⟩, hatd.ld hL (Pn.mk ⟨⟨by omega, by omega⟩, h'.drew.ld hi (New.mk fun u w5 hu hs5 ho5 he5 => ?_)⟩)⟩
    have h5 := h'.drew.ext0 he5
    have hcell : ∀ j, j < 8 → w5.cell? ⟨b, i * 8 + j, none⟩ = some (cv (T i) j) := fun j hj => h5.1.cell (by rw [fnArr_get _ (by omega), tabF_cell hi hj])
    have hat5 : At4 w5 a [x0, x1, x2, x3] := hatd.ext he5 (by simp)
    rw [add_mk, Int.toNat_natCast, Nat.zero_add]
    simp only [add_mk]
    have hcat : w5.cell? ⟨a, 0 + (n : Int).toNat * 1, none⟩ = some (.int .i64 (i : Int)) := by
      rw [Int.toNat_natCast, Nat.mul_one, Nat.zero_add]
      refine hat5.1.cell ?_
      rw [List.getElem?_toArray, I64, List.getElem?_map, hL]
      rfl
    refine ⟨hcell 0 (by omega), hcell 1 (by omega), hcell 2 (by omega), hcell 3 (by omega), hcell 4 (by omega), hcell 5 (by omega), hcell 6 (by omega), hcell 7 (by omega), hcat, ?_⟩
    refine Sts.full (vs := cellVs (T i)) ho5 rfl rfl fun w6 hs6 ho6 he6 => ?_
    rw [hT] at ho6
    have hud : u = w'.heap.size := hu
    have nbu : ∀ k ∈ rowBlk b', k ≠ u := fun k hk => by have := hb'.lt k hk; omega
    have e6 : Ext [] w' w6 := up1 ((Ext.drew _ _).trans he5) he6 (by omega)
    have hb6 := hb'.ext0 e6
    refine ld8b ho6 (keyOf_ok hqo fun w7 he7 => appendStr_ok (hb6.ext0 he7) (by have := hqo.2; omega) (by
      have h1 := hb'.len
      have h2 := flat_len (A := A.take n) fun p hp => hk.a.2 p (List.mem_of_mem_take hp)
      rw [List.length_take] at h2
      simp only [List.length_append, List.length_cons, List.length_nil]
      omega) fun b8 l8 c8 w8 hb8 he8 hg8 => ?_)
    have ho8 := he8.own (he7.own ho6 (by simp)) (fun hk => nbu u hk rfl)
    have e7 : Ext [] w' w7 := e6.trans he7
    have nb8 : ∀ k ∈ rowBlk b8, w.heap.size ≤ k ∧ k ≠ a ∧ k ≠ u := fun k hk => by
      rcases hg8 k hk with h1 | h1
      · exact ⟨(nb' k h1).1, (nb' k h1).2, nbu k h1⟩
      · have := (he7.own ho6 (by simp)).lt
        have := (hat'.ext e7 (by simp)).1.lt
        have := he'.size
        have := e7.size
        omega
    have e8 : Ext [] w w8 := (he'.trans e7).trans' he8 (fun y hy hl => by have := (nb' y hy).1; omega)
    refine ld8b ho8 (valOf_ok hqo fun w9 he9 => appendStr_ok (hb8.ext0 he9) (by have := hqo.2; omega) (by
      have h1 := hb'.len
      have h2 := flat_len (A := A.take n) fun p hp => hk.a.2 p (List.mem_of_mem_take hp)
      rw [List.length_take] at h2
      simp only [List.length_append, List.length_cons, List.length_nil, strB_length]
      have := hqo.2
      omega) fun b10 l10 c10 w10 hb10 he10 hg10 => ?_)
    have e9 : Ext [] w8 w9 := he9
    refine ⟨A.length - (n + 1), by omega, n + 1, by omega, rfl, trivial, trivial, by rw [w64 (by omega) (by omega)]; omega, ?_, ?_, fun k hk => ?_, (e8.trans e9).trans' he10 (fun y hy hl => by have := (nb8 y hy).1; omega)⟩
    · exact ((((hat'.ext e7 (by simp)).ext he8 (fun hk => (nb' a hk).2 rfl)).ext he9 (by simp)).ext he10 (fun hk => (nb8 a hk).2.1 rfl))
    · have e : (A.take (n + 1)).flatMap pairB = (A.take n).flatMap pairB ++ pairB q := by
        rw [List.take_add_one, hq, List.flatMap_append]
        simp
      rw [e]
      have : [(A.length : Int)] ++ (A.take n).flatMap pairB ++ (((q.1.size : Int)) :: strB q.1) ++ ((q.2.size : Int) :: strB q.2) = [(A.length : Int)] ++ ((A.take n).flatMap pairB ++ pairB q) := by
        simp [pairB, putS]
      rw [this] at hb10
      exact hb10
    · rcases hg10 k hk with h1 | h1
      · exact ⟨(nb8 k h1).1, (nb8 k h1).2.1⟩
      · have h9 := e8.size
        have h10 := he9.size
        have : a < w8.heap.size := ((hat'.ext e7 (by simp)).ext he8 (fun hk => (nb' a hk).2 rfl)).1.lt
        exact ⟨by omega, by omega⟩
  have hnA : n = A.length := by omega
  subst hnA
  rw [List.take_length] at hb'
  unfold kv_KV_Snapshot.B1
  have h2 := flat_len hk.a.2
  refine Bm.neg rfl ⟨fun mm k' b' l' c' c w' => ∃ n : Nat, n ≤ 3 ∧ mm = 3 - n ∧ some ⟨b, 0, none⟩ = k' ∧ c = (n : Int) ∧ Buf w' b' l' c' ([(A.length : Int)] ++ A.flatMap pairB ++ sessTo S n) ∧ (∀ k ∈ rowBlk b', w.heap.size ≤ k) ∧ Ext [] w w', _,
    ⟨0, by omega, rfl, rfl, rfl, by simpa [sessTo] using hb', fun k hk => (nb' k hk).1, he'⟩, ?_⟩
  clear hb' nb' he' hat' h'
  rintro mm k' b' l' c' c w' ⟨n, hn, rfl, rfl, rfl, hb', nb', he'⟩
  have h' := h.ext0 he'
  have hto := sessTo_len hk.s n hn
  unfold kv_KV_Snapshot.L2b
  refine Bm.ite (fun hj => ?_) fun hj => ?_
  · have hn3 : n < 3 := by omega
    have hso := hk.s n hn3
    refine Pn.mk ⟨⟨by omega, by omega⟩, h'.ldSess hn3 (ansOf_ok hso.2.2.2.2 fun w5 he5 => NewSet.mk rfl rfl fun u w6 hu hs6 ho6 he6 => Pn.mk ⟨⟨by omega, by omega⟩, ?_⟩)⟩
    have e56 := he5.trans he6
    have hb6 := (hb'.ext0 e56)
    refine (h'.ext0 e56).ldSeq hn3 (putU64_ok hb6 ⟨hso.1, by have := hso.2.1; omega⟩ (by
      simp only [List.length_append, List.length_cons, List.length_nil]
      omega) fun b7 l7 c7 w7 hb7 he7 hg7 => ?_)
    have hu0 : ∀ k ∈ rowBlk b', k ≠ u := fun k hk => by have := hb'.lt k hk; have := he5.size; omega
    have ho7 := he7.own ho6 (fun hk => hu0 u hk rfl)
    have n7 : ∀ k ∈ rowBlk b7, w.heap.size ≤ k ∧ k ≠ u := fun k hk => by
      rcases hg7 k hk with h1 | h1
      · exact ⟨nb' k h1, hu0 k h1⟩
      · have := he'.size; have := e56.size; have := ho6.lt; omega
    have e7 : Ext [] w w7 := (he'.trans e56).trans' he7 (fun y hy hl => by have := nb' y hy; omega)
    refine LdI.mk ho7 rfl ?_
    rw [wrap8_id hso.2.2.1 (by have := hso.2.2.2.1; omega)]
    refine Buf.app [(S n).2.1] hb7 (IsB.one ⟨hso.2.2.1, by have := hso.2.2.2.1; omega⟩) (by
      simp only [List.length_append, List.length_cons, List.length_nil, enc8_length]
      omega) fun b8 c8 w8 hb8 he8 hg8 => ?_
    have ho8 := he8.own ho7 (fun hk => (n7 u hk).2 rfl)
    have n8 : ∀ k ∈ rowBlk b8, w.heap.size ≤ k := fun k hk => by
      rcases hg8 k hk with h1 | h1
      · exact (n7 k h1).1
      · have := e7.size; omega
    have e8 : Ext [] w w8 := e7.trans' he8 (fun y hy hl => by have := (n7 y hy).1; omega)
    refine LdS.mk ho8 rfl (appendStr_ok hb8 (by have := hso.2.2.2.2; omega) (by
      simp only [List.length_append, List.length_cons, List.length_nil, enc8_length]
      omega) fun b9 l9 c9 w9 hb9 he9 hg9 => ?_)
    refine ⟨3 - (n + 1), by omega, n + 1, by omega, rfl, rfl, by rw [w64 (by omega) (by omega)]; omega, ?_, fun k hk => ?_, e8.trans' he9 (fun y hy hl => by have := n8 y hy; omega)⟩
    · have : [(A.length : Int)] ++ A.flatMap pairB ++ sessTo S n ++ enc8 (S n).1 ++ [(S n).2.1] ++ (((S n).2.2.size : Int) :: strB (S n).2.2) = [(A.length : Int)] ++ A.flatMap pairB ++ sessTo S (n + 1) := by
        simp [sessTo, sessB, putS]
      rw [this] at hb9
      exact hb9
    · rcases hg9 k hk with h1 | h1
      · exact n8 k h1
      · have := e8.size; omega
  · have hn3 : n = 3 := by omega
    subst hn3
    rw [sessTo3] at hb'
    exact hb'.str (hR w' he')
end
end Go.Proofs.Qxb6500430aGreat.Kv
