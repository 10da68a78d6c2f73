/-
  kv: reading a snapshot back, plainly: what is read is what was written.
-/
import Derived.Test.Qxb6500430aGreatKvH
set_option linter.unusedVariables false
open Go.Vc
namespace Go.Proofs.Qxb6500430aGreat.Kv

def takeB : List Int → Option (Int × List Int)
  | [] => none
  | x :: L => some (x, L)
def parseP : Nat → Nat → List Int → Option (List Pair × List Int)
  | 0, _, L => some ([], L)
  | n + 1, b, L => (takeS 1 2 L).bind fun x => (takeS 0 3 x.2).bind fun y => if b < rk x.1 then (parseP n (rk x.1) y.2).map fun z => ((x.1, y.1) :: z.1, z.2) else none
def parseQ : Nat → List Int → Option (List Sess × List Int)
  | 0, L => some ([], L)
  | n + 1, L => (takeN L).bind fun x => (takeB x.2).bind fun e => (takeS 0 3 e.2).bind fun y => if e.1 < 16 then (parseQ n y.2).map fun z => ((x.1, e.1, y.1) :: z.1, z.2) else none
def parseE (A : List Pair) (Q : List Sess) (L : List Int) : Option (List Pair × List Sess) := if L = [] then some (A, Q) else none
def parseC (A : List Pair) (L : List Int) : Option (List Pair × List Sess) := (parseQ 3 L).bind fun y => parseE A y.1 y.2
def parse (L : List Int) : Option (List Pair × List Sess) := (takeB L).bind fun x => if x.1 ≤ 4 then (parseP x.1.toNat 0 x.2).bind fun y => parseC y.1 y.2 else none
def ssOf (Q : List Sess) : Ss := fun i => Q.getD i zeroS
theorem parseP_inv : ∀ (n : Nat) {b : Nat} {L M : List Int} {A : List Pair}, IsB L → parseP n b L = some (A, M) → L = A.flatMap pairB ++ M ∧ A.length = n ∧ (∀ p ∈ A, PairOk p ∧ b < kB p) ∧ Asc kB A ∧ IsB M
  | 0, b, L, M, A, hL, h => by
    simp only [parseP, Option.some.injEq, Prod.mk.injEq] at h
    obtain ⟨rfl, rfl⟩ := h
    exact ⟨rfl, rfl, fun p hp => (by cases hp), List.Pairwise.nil, hL⟩
  | n + 1, b, L, M, A, hL, h => by
    simp only [parseP, Option.bind_eq_some_iff] at h
    obtain ⟨⟨k, L1⟩, h1, ⟨v, L2⟩, h2, h3⟩ := h
    simp only at h2 h3
    split at h3
    · rename_i hb
      rw [Option.map_eq_some_iff] at h3
      obtain ⟨⟨A', M'⟩, h4, h5⟩ := h3
      simp only [Prod.mk.injEq] at h5
      obtain ⟨rfl, rfl⟩ := h5
      obtain ⟨e1, k1, k2, hL1⟩ := takeS_inv hL (by omega) h1
      obtain ⟨e2, v1, v2, hL2⟩ := takeS_inv hL1 (by omega) h2
      obtain ⟨e3, hlen, hall, hasc, hM⟩ := parseP_inv n hL2 h4
      have hp : PairOk (k, v) := ⟨by simp only; omega, by simp only; omega, by simp only; omega⟩
      refine ⟨?_, by simp [hlen], fun p hp' => ?_, List.pairwise_cons.2 ⟨fun q hq => (hall q hq).2, hasc⟩, hM⟩
      · rw [e1, e2, e3, List.flatMap_cons]
        simp [pairB]
      · rcases List.mem_cons.1 hp' with rfl | hp'
        · exact ⟨hp, hb⟩
        · have := hall p hp'
          exact ⟨this.1, by omega⟩
    · cases h3
theorem parseQ_inv : ∀ (n : Nat) {L M : List Int} {Q : List Sess}, IsB L → parseQ n L = some (Q, M) → L = Q.flatMap sessB ++ M ∧ Q.length = n ∧ (∀ s ∈ Q, SessOk s) ∧ IsB M
  | 0, L, M, Q, hL, h => by
    simp only [parseQ, Option.some.injEq, Prod.mk.injEq] at h
    obtain ⟨rfl, rfl⟩ := h
    exact ⟨rfl, rfl, fun p hp => (by cases hp), hL⟩
  | n + 1, L, M, Q, hL, h => by
    simp only [parseQ, Option.bind_eq_some_iff] at h
    obtain ⟨⟨q, L1⟩, h1, ⟨e, L2⟩, h2, ⟨v, L3⟩, h3, h4⟩ := h
    simp only at h2 h3 h4
    split at h4
    · rename_i hb
      rw [Option.map_eq_some_iff] at h4
      obtain ⟨⟨Q', M'⟩, h5, h6⟩ := h4
      simp only [Prod.mk.injEq] at h6
      obtain ⟨rfl, rfl⟩ := h6
      obtain ⟨e1, q1, q2, hL1⟩ := takeN_inv hL h1
      cases L1 with
      | nil => cases h2
      | cons y L1' =>
        simp only [takeB, Option.some.injEq, Prod.mk.injEq] at h2
        obtain ⟨rfl, rfl⟩ := h2
        have hy := hL1 y (List.mem_cons_self ..)
        obtain ⟨e3, v1, v2, hL3⟩ := takeS_inv (IsB.right (u := [y]) hL1) (by omega) h3
        obtain ⟨e4, hlen, hall, hM⟩ := parseQ_inv n hL3 h5
        refine ⟨?_, by simp [hlen], fun s hs => ?_, hM⟩
        · rw [e1, e3, e4, List.flatMap_cons]
          simp [sessB]
        · rcases List.mem_cons.1 hs with rfl | hs
          · exact ⟨q1, q2, hy.1, hb, by simp only; omega⟩
          · exact hall s hs
    · cases h4
theorem list3 {Q : List Sess} (h : Q.length = 3) : ∃ a b c, Q = [a, b, c] := by
  match Q, h with
  | [a, b, c], _ => exact ⟨a, b, c, rfl⟩
theorem parse_inv {L : List Int} {A : List Pair} {Q : List Sess} (hL : IsB L) (h : parse L = some (A, Q)) : L = snapB A (ssOf Q) ∧ KvOk A (ssOf Q) ∧ Q.length = 3 := by
  simp only [parse, Option.bind_eq_some_iff] at h
  obtain ⟨⟨n, L1⟩, h1, h2⟩ := h
  cases L with
  | nil => cases h1
  | cons y L' =>
    simp only [takeB, Option.some.injEq, Prod.mk.injEq] at h1
    obtain ⟨rfl, rfl⟩ := h1
    have hy := hL y (List.mem_cons_self ..)
    simp only at h2
    split at h2
    · rename_i h4
      rw [Option.bind_eq_some_iff] at h2
      obtain ⟨⟨A', L2⟩, h5, h6⟩ := h2
      simp only [parseC, Option.bind_eq_some_iff] at h6
      obtain ⟨⟨Q', L3⟩, h7, h8⟩ := h6
      simp only [parseE] at h8
      split at h8
      · rename_i hnil
        simp only [Option.some.injEq, Prod.mk.injEq] at h8
        obtain ⟨rfl, rfl⟩ := h8
        subst hnil
        obtain ⟨e1, hlen, hall, hasc, hB2⟩ := parseP_inv _ (IsB.right (u := [y]) hL) h5
        obtain ⟨e2, hq, hqa, _⟩ := parseQ_inv _ hB2 h7
        obtain ⟨a, b, c, rfl⟩ := list3 hq
        refine ⟨?_, ⟨⟨hasc, fun p hp => (hall p hp).1⟩, by omega, fun i hi => ?_⟩, rfl⟩
        · rw [e1, e2]
          unfold snapB
          have e : y = (A'.length : Int) := by omega
          rw [← e]
          simp [ssOf]
        · match i, hi with
          | 0, _ => exact hqa a (by simp)
          | 1, _ => exact hqa b (by simp)
          | 2, _ => exact hqa c (by simp)
      · cases h8
    · cases h2
theorem parseP_flat : ∀ {A : List Pair} {b : Nat} {L : List Int}, (∀ p ∈ A, PairOk p ∧ b < kB p) → Asc kB A → parseP A.length b (A.flatMap pairB ++ L) = some (A, L)
  | [], b, L, _, _ => rfl
  | p :: A, b, L, h, ha => by
    have hp := h p (List.mem_cons_self ..)
    have ha' := List.pairwise_cons.1 ha
    rw [List.flatMap_cons, List.length_cons]
    unfold parseP
    have e : pairB p ++ A.flatMap pairB ++ L = putS p.1 ++ (putS p.2 ++ (A.flatMap pairB ++ L)) := by simp [pairB]
    rw [e, takeS_put (by have := hp.1.1; omega) (by have := hp.1.2; omega)]
    simp only [Option.bind_some]
    rw [takeS_put (by omega) (by have := hp.1.2; omega)]
    simp only [Option.bind_some]
    rw [if_pos (show b < rk p.1 from hp.2), parseP_flat (b := rk p.1) (fun q hq => ⟨(h q (List.mem_cons_of_mem _ hq)).1, ha'.1 q hq⟩) ha'.2]
    rfl
theorem parseQ_flat : ∀ {Q : List Sess} {L : List Int}, (∀ s ∈ Q, SessOk s) → parseQ Q.length (Q.flatMap sessB ++ L) = some (Q, L)
  | [], L, _ => rfl
  | s :: Q, L, h => by
    have hs := h s (List.mem_cons_self ..)
    rw [List.flatMap_cons, List.length_cons]
    unfold parseQ
    have e : sessB s ++ Q.flatMap sessB ++ L = enc8 s.1 ++ (s.2.1 :: (putS s.2.2 ++ (Q.flatMap sessB ++ L))) := by simp [sessB]
    rw [e, takeN_put hs.1 hs.2.1]
    simp only [Option.bind_some, takeB]
    rw [takeS_put (by omega) (by have := hs.2.2.2.2; omega)]
    simp only [Option.bind_some]
    rw [if_pos hs.2.2.2.1, parseQ_flat fun q hq => h q (List.mem_cons_of_mem _ hq)]
    rfl
theorem parse_snap {A : List Pair} {S : Ss} (h : KvOk A S) : parse (snapB A S) = some (A, [S 0, S 1, S 2]) := by
  have e : snapB A S = (A.length : Int) :: (A.flatMap pairB ++ (([S 0, S 1, S 2].flatMap sessB) ++ [])) := by simp [snapB]
  rw [e]
  simp only [parse, takeB, Option.bind_some]
  rw [if_pos (by have := h.le; omega), Int.toNat_natCast, parseP_flat (fun p hp => ⟨h.a.2 p hp, rk_pos (h.a.2 p hp).1⟩) h.a.1]
  simp only [Option.bind_some, parseC]
  have := parseQ_flat (Q := [S 0, S 1, S 2]) (L := []) (fun s hs => by
    simp only [List.mem_cons, List.not_mem_nil, or_false] at hs
    rcases hs with rfl | rfl | rfl
    · exact h.s 0 (by omega)
    · exact h.s 1 (by omega)
    · exact h.s 2 (by omega))
  have e3 : [S 0, S 1, S 2].length = 3 := rfl
  rw [e3] at this
  rw [this]
  rfl
/-- What Restore does. -/
def restoreA (x : ByteArray) (s : KvS) : Int × KvS := match parse (strB x) with
  | none => (15, s)
  | some (A, Q) => (0, ⟨A, ssOf Q⟩)
theorem restoreA_ok {x : ByteArray} {s : KvS} (h : KvOk s.A s.S) : KvOk (restoreA x s).2.A (restoreA x s).2.S := by
  unfold restoreA
  split
  · exact h
  · rename_i A Q hp
    exact (parse_inv (strB_isB x) hp).2.1
/-! ### the reader -/
def Rdr (w : World) (r : Nat) (s : ByteArray) (o : Option (List Int)) : Prop := ∃ p : Nat, Own w r #[.string s, .int .i64 (p : Int), .bool o.isNone] T_kv_reader ∧ p ≤ s.size ∧ ∀ L, o = some L → L = (strB s).drop p
theorem Rdr.ext {w w' : World} {r : Nat} {s : ByteArray} {o : Option (List Int)} {X : List Nat} (h : Rdr w r s o) (he : Ext X w w') (hr : r ∉ X) : Rdr w' r s o := by
  obtain ⟨p, h, h2⟩ := h
  exact ⟨p, he.own h hr, h2⟩
theorem Rdr.lt {w : World} {r : Nat} {s : ByteArray} {o : Option (List Int)} (h : Rdr w r s o) : r < w.heap.size := by
  obtain ⟨p, h, h2⟩ := h
  exact h.lt
theorem Rdr.bad {w : World} {r : Nat} {s : ByteArray} {o : Option (List Int)} {K : Bool → Prop} (h : Rdr w r s o) (hk : K o.isNone) : LdB ⟨r, 2, none⟩ w K := by
  obtain ⟨p, h, h2⟩ := h
  exact LdB.mk h rfl hk
section
variable {w : World} {r : Nat} {s : ByteArray} {o : Option (List Int)}
theorem one_ok {R : Int → World → Prop} (hs : s.size ≤ 281474976710656) (h : Rdr w r s o) (hR : ∀ w', Rdr w' r s ((o.bind takeB).map (·.2)) → Ext [r] w w' → R (((o.bind takeB).map (·.1)).getD 0) w') : kv_reader_one.Call (some ⟨r, 0, none⟩) w R := by
  apply kv_reader_one.sound
  unfold kv_reader_one.B0
  obtain ⟨p, h, hp, hL⟩ := h
  have bad : o.bind takeB = none → kv_reader_one.B1 (some ⟨r, 0, none⟩) true w.drew R := fun hn => by
    unfold kv_reader_one.B1
    rw [hn] at hR
    refine Bm.pos rfl (Pn.mk ?_)
    rw [add_mk]
    exact Sts.mk h.drew (by simp) rfl fun w1 hs1 ho1 he1 => hR w1 ⟨p, ho1, hp, fun L e => by cases e⟩ ((Ext.drew _ _).trans he1)
  refine Pn.mk ?_
  rw [add_mk]
  refine LdB.mk h.drew rfl ?_
  cases o with
  | none => exact Bm.pos rfl (bad rfl)
  | some L =>
    have hl := hL L rfl
    subst hl
    refine Bm.neg rfl (Pn.mk ?_)
    rw [add_mk]
    refine LdI.mk h.drew rfl (Pn.mk (LdS.mk h.drew rfl ?_))
    by_cases hlt : s.size ≤ p
    · rw [decide_eq_true (by omega)]
      refine bad ?_
      rw [List.drop_eq_nil_of_le (by rw [strB_length]; exact hlt)]
      rfl
    · rw [decide_eq_false (by omega)]
      rw [drop_at (by omega)] at hR
      unfold kv_reader_one.B1
      refine Bm.neg rfl (Pn.mk ?_)
      rw [add_mk]
      refine LdI.mk h.drew rfl (Pn.mk ?_)
      rw [add_mk, w64 (x := (p : Int) + 1) (by omega) (by omega)]
      refine Sts.mk h.drew (by simp) rfl fun w1 hs1 ho1 he1 => Pn.mk ?_
      refine LdS.mk ho1.drew rfl (Pn.mk ?_)
      rw [add_mk]
      refine LdI.mk ho1.drew rfl ?_
      rw [w64 (x := (p : Int) + 1 - 1) (by omega) (by omega), show (p : Int) + 1 - 1 = p by omega, wi_byte]
      refine ⟨⟨by omega, by omega⟩, hR w1.drew ⟨p + 1, ?_, by omega, fun L e => ?_⟩ (((Ext.drew _ _).trans he1).trans (Ext.drew _ _))⟩
      · exact ho1.drew
      · simp only [Option.bind_some, takeB, Option.map_some, Option.some.injEq] at e
        exact e.symm
theorem str_ok {lo hi : Int} {R : ByteArray → World → Prop} (hs : s.size ≤ 281474976710656) (h : Rdr w r s o) (hR : ∀ w', Rdr w' r s ((o.bind (takeS lo hi)).map (·.2)) → Ext [r] w w' → R (((o.bind (takeS lo hi)).map (·.1)).getD estr) w') : kv_reader_str.Call (some ⟨r, 0, none⟩) lo hi w R := by
  apply kv_reader_str.sound
  unfold kv_reader_str.B0
  refine one_ok hs h fun w1 h1 he1 => Pn.mk ?_
  rw [add_mk]
  have bad : o.bind (takeS lo hi) = none → ∀ n, kv_reader_str.B1 (some ⟨r, 0, none⟩) n true w1.drew R := fun hn n => by
    unfold kv_reader_str.B1
    rw [hn] at hR
    obtain ⟨p, h1, hp, hL⟩ := h1
    refine Bm.pos rfl (Pn.mk ?_)
    rw [add_mk]
    exact Sts.mk h1.drew (by simp) rfl fun w2 hs2 ho2 he2 => hR w2 ⟨p, ho2, hp, fun L e => by cases e⟩ ((he1.trans (Ext.drew _ _)).trans he2)
  cases ho : o.bind takeB with
  | none =>
    rw [ho] at h1
    have hn : o.bind (takeS lo hi) = none := by
      cases o with
      | none => rfl
      | some L =>
        cases L with
        | nil => rfl
        | cons x L => simp [takeB] at ho
    exact Rdr.bad (h1.ext (Ext.drew [] _) (by simp)) (Bm.pos rfl (bad hn _))
  | some xL =>
    rw [ho] at h1
    obtain ⟨x, L⟩ := xL
    have hoL : o = some (x :: L) := by
      cases o with
      | none => cases ho
      | some M =>
        cases M with
        | nil => cases ho
        | cons y M =>
          simp only [Option.bind_some, takeB, Option.some.injEq, Prod.mk.injEq] at ho
          rw [ho.1, ho.2]
    have htk : o.bind (takeS lo hi) = if lo ≤ x ∧ x ≤ hi ∧ x ≤ (L.length : Int) then some (bStr (L.take x.toNat), L.drop x.toNat) else none := by rw [hoL]; rfl
    refine Rdr.bad (h1.ext (Ext.drew [] _) (by simp)) (Bm.neg rfl ?_)
    show Bm (decide (x < lo)) _ _
    refine Bm.ite (fun hx => bad (by rw [htk, if_neg (by omega)]) _) fun hx1 => Bm.ite (fun hx => bad (by rw [htk, if_neg]; have : x > hi := hx; omega) _) fun hx2 => ?_
    have hx2 : ¬ x > hi := hx2
    have hxb : 0 ≤ x ∧ x < 256 := by
      obtain ⟨p, h, hp, hL⟩ := h
      have := hL _ hoL
      have hB : IsB (x :: L) := by rw [this]; exact (strB_isB s).drop p
      exact hB x (List.mem_cons_self ..)
    obtain ⟨p, h1, hp, hL⟩ := h1
    have hLL := hL L rfl
    refine Pn.mk (LdS.mk h1.drew rfl (Pn.mk ?_))
    rw [add_mk]
    refine LdI.mk h1.drew rfl ?_
    show kv_reader_str.B1 (some ⟨r, 0, none⟩) x (decide (x > IntKind.i64.wrap ((s.size : Int) - (p : Int)))) w1.drew R
    rw [w64 (by omega) (by omega)]
    have hlen : L.length = s.size - p := by rw [hLL, List.length_drop, strB_length]
    by_cases hx3 : x > (s.size : Int) - (p : Int)
    · rw [decide_eq_true hx3]
      exact bad (by rw [htk, if_neg (by omega)]) _
    · rw [decide_eq_false hx3]
      rw [htk, if_pos ⟨by omega, by omega, by omega⟩] at hR
      unfold kv_reader_str.B1
      refine Bm.neg rfl (Pn.mk ?_)
      rw [add_mk]
      refine LdI.mk h1.drew rfl (Pn.mk ?_)
      rw [add_mk, w64 (x := (p : Int) + x) (by omega) (by omega)]
      refine Sts.mk h1.drew (by simp) rfl fun w2 hs2 ho2 he2 => Pn.mk (LdS.mk ho2.drew rfl (Pn.mk ?_))
      rw [add_mk]
      refine LdI.mk ho2.drew rfl (Pn.mk ?_)
      rw [add_mk]
      refine LdI.mk ho2.drew rfl ?_
      rw [w64 (x := (p : Int) + x - x) (by omega) (by omega), show (p : Int) + x - x = p by omega, Int.toNat_natCast]
      refine ⟨⟨by omega, by omega⟩, ⟨by omega, by omega⟩, ?_⟩
      have hcut : s.extract p ((p : Int) + x).toNat = bStr (L.take x.toNat) := by
        rw [show ((p : Int) + x).toNat = p + x.toNat by omega, cut_eq (by omega), ← hLL]
      rw [hcut]
      refine hR w2.drew ⟨p + x.toNat, ?_, by omega, fun M e => ?_⟩ (((he1.trans (Ext.drew _ _)).trans he2).trans (Ext.drew _ _))
      · rw [show ((p + x.toNat : Nat) : Int) = (p : Int) + x by omega]
        exact ho2.drew
      · simp only [Option.map_some, Option.some.injEq] at e
        rw [← e, hLL, List.drop_drop]
theorem gU_take {s : ByteArray} {p : Nat} (hp : p ≤ s.size) : (gU s (p : Int) < 0 ↔ takeN ((strB s).drop p) = none) ∧ (∀ v L, takeN ((strB s).drop p) = some (v, L) → gU s (p : Int) = v ∧ p + 8 ≤ s.size ∧ L = (strB s).drop (p + 8)) := by
  have hl : ((strB s).drop p).length = s.size - p := by rw [List.length_drop, strB_length]
  unfold gU takeN
  rw [hl, Int.toNat_natCast]
  by_cases h1 : 8 ≤ s.size - p
  · have hb := dec8_bd 8 (((strB_isB s).drop p).take 8) (by rw [List.length_take]; omega) (by omega)
    rw [if_neg (by omega)]
    by_cases h2 : dec8 (((strB s).drop p).take 8) ≤ 72057594037927936
    · rw [if_neg (by omega), if_pos ⟨h1, h2⟩]
      refine ⟨⟨fun h => by omega, fun h => by cases h⟩, fun v L h => ?_⟩
      simp only [Option.some.injEq, Prod.mk.injEq] at h
      obtain ⟨rfl, rfl⟩ := h
      exact ⟨rfl, by omega, by rw [List.drop_drop]⟩
    · rw [if_pos (by omega), if_neg (fun h => h2 h.2)]
      exact ⟨⟨fun h => rfl, fun h => by omega⟩, fun v L h => by cases h⟩
  · rw [if_pos (by omega), if_neg (fun h => h1 h.1)]
    exact ⟨⟨fun h => rfl, fun h => by omega⟩, fun v L h => by cases h⟩
theorem num_ok {R : Int → World → Prop} (hs : s.size ≤ 281474976710656) (h : Rdr w r s o) (hR : ∀ w', Rdr w' r s ((o.bind takeN).map (·.2)) → Ext [r] w w' → R (((o.bind takeN).map (·.1)).getD 0) w') : kv_reader_num.Call (some ⟨r, 0, none⟩) w R := by
  apply kv_reader_num.sound
  unfold kv_reader_num.B0
  obtain ⟨p, h, hp, hL⟩ := h
  refine Pn.mk (LdS.mk h.drew rfl (Pn.mk ?_))
  rw [add_mk]
  refine LdI.mk h.drew rfl (getU64_ok hs (Pn.mk ?_))
  rw [add_mk]
  refine LdB.mk h.drew rfl ?_
  have bad : o.bind takeN = none → kv_reader_num.B1 (some ⟨r, 0, none⟩) (gU s (p : Int)) true w.drew R := fun hn => by
    unfold kv_reader_num.B1
    rw [hn] at hR
    refine Bm.pos rfl (Pn.mk ?_)
    rw [add_mk]
    exact Sts.mk h.drew (by simp) rfl fun w1 hs1 ho1 he1 => hR w1 ⟨p, ho1, hp, fun L e => by cases e⟩ ((Ext.drew _ _).trans he1)
  cases o with
  | none => exact Bm.pos rfl (bad rfl)
  | some L =>
    have hl := hL L rfl
    subst hl
    refine Bm.neg rfl ?_
    have hg := gU_take hp
    by_cases hn : gU s (p : Int) < 0
    · rw [decide_eq_true hn]
      exact bad (hg.1.1 hn)
    · rw [decide_eq_false hn]
      cases ht : takeN ((strB s).drop p) with
      | none => exact absurd (hg.1.2 ht) hn
      | some vL =>
        obtain ⟨v, M⟩ := vL
        obtain ⟨h1, h2, h3⟩ := hg.2 v M ht
        simp only [Option.bind_some] at hR
        rw [ht] at hR
        unfold kv_reader_num.B1
        refine Bm.neg rfl (Pn.mk ?_)
        rw [add_mk]
        refine LdI.mk h.drew rfl (Pn.mk ?_)
        rw [add_mk, w64 (x := (p : Int) + 8) (by omega) (by omega), h1]
        refine Sts.mk h.drew (by simp) rfl fun w1 hs1 ho1 he1 => hR w1 ⟨p + 8, ho1, h2, fun L e => ?_⟩ ((Ext.drew _ _).trans he1)
        simp only [Option.map_some, Option.some.injEq] at e
        rw [← e, h3]
end
end Go.Proofs.Qxb6500430aGreat.Kv
