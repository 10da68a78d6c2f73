/-
  ip: the real layer's count, Pending, Peek.
-/
import Derived.Test.Qxb6500425aIpP
set_option linter.unusedVariables false
set_option linter.unusedSimpArgs false
open Go.Vc
namespace Go.Proofs.Qxb6500425a

/-- How many of the first n places are held. -/
def cntH (c : List Int) : Nat → Int
  | 0 => 0
  | n + 1 => cntH c n + (if 0 ≤ hd c n then 1 else 0)
theorem cntH_le (c : List Int) : ∀ n, 0 ≤ cntH c n ∧ cntH c n ≤ n
  | 0 => ⟨by simp [cntH], by simp [cntH]⟩
  | n + 1 => by
    have := cntH_le c n
    simp only [cntH]
    split <;> omega
theorem count_ok {w : World} {s : Slot} {R : Int → World → Prop} (hs : SlotWf s) (hR : R (cntH s.abs.cell 40) w) : ip_count.Call (s.held : Int) w R := by
  apply ip_count.sound
  unfold ip_count.B0 ip_count.L1
  refine ⟨fun m h' n k w' => (s.held : Int) = h' ∧ w = w' ∧ 0 ≤ k ∧ k ≤ 40 ∧ m = (40 - k).toNat ∧ n = cntH s.abs.cell k.toNat, 40, ⟨rfl, rfl, by omega, by omega, rfl, rfl⟩, ?_⟩
  rintro m h' n k w' ⟨rfl, rfl, k0, k4, rfl, rfl⟩
  unfold ip_count.L1b ip_count.B1
  refine Bm.ite (fun hk => ⟨by rw [w64u (by omega) (by omega)]; omega, ?_⟩) (fun hk => ?_)
  · obtain ⟨q, rfl⟩ : ∃ q : Nat, k = q := ⟨k.toNat, by omega⟩
    have hq : q < 40 := by omega
    have hc := cntH_le s.abs.cell q
    have ha := abs_held hs hq
    rw [bit_at hs.held (by omega), ← ha, Int.toNat_natCast]
    rw [w64 (x := (q : Int) + 1) (by omega) (by omega)]
    have e1 : ((q : Int) + 1).toNat = q + 1 := by omega
    refine Bm.ite (fun h0 => ?_) (fun h0 => ?_)
    · rw [w64 (by omega) (by omega)]
      refine ⟨(40 - ((q : Int) + 1)).toNat, by omega, rfl, rfl, by omega, by omega, rfl, ?_⟩
      rw [e1]
      simp only [cntH]
      rw [if_pos h0]
    · refine ⟨(40 - ((q : Int) + 1)).toNat, by omega, rfl, rfl, by omega, by omega, rfl, ?_⟩
      rw [e1]
      simp only [cntH]
      rw [if_neg h0]
      omega
  · rw [show k.toNat = 40 by omega]
    exact hR

/-- One row of Pending. -/
def pendV (r : AR) : List Value := [.int .i64 (r.key / 65536), .int .i64 (r.key / 256 % 256), .int .i64 (r.key % 256), .int .i64 r.left, .int .i64 r.total, .int .i64 (cntH r.cell 40)]
def pendL (A : List AR) : List Value := A.flatMap pendV
theorem pendL_length (A : List AR) : (pendL A).length = A.length * 6 := by
  unfold pendL
  induction A with
  | nil => rfl
  | cons a A ih => rw [List.flatMap_cons, List.length_append, ih, List.length_cons]; simp [pendV]; omega
theorem take_succ' {α : Type} {A : List α} {j : Nat} {r : α} (h : A[j]? = some r) : A.take (j + 1) = A.take j ++ [r] := by
  rw [List.take_add_one, h]
  rfl
theorem pendL_take {A : List AR} {j : Nat} {r : AR} (h : A[j]? = some r) : pendL (A.take (j + 1)) = pendL (A.take j) ++ pendV r := by
  rw [take_succ' h]
  unfold pendL
  rw [List.flatMap_append]
  simp
theorem and255 {x : Int} (h0 : 0 ≤ x) (h1 : x < 9223372036854775808) : IntKind.i64.wrap (BitVec.ofInt IntKind.i64.bits x &&& BitVec.ofInt IntKind.i64.bits (255 : Int)).toNat = x % 256 := by
  obtain ⟨n, rfl⟩ : ∃ n : Nat, x = n := ⟨x.toNat, by omega⟩
  have e1 : (BitVec.ofInt IntKind.i64.bits (n : Int)).toNat = n := by
    rw [BitVec.toNat_ofInt]
    have : (2 ^ IntKind.i64.bits : Nat) = 18446744073709551616 := by decide
    rw [this]
    omega
  have e2 : (BitVec.ofInt IntKind.i64.bits (255 : Int)).toNat = 255 := by decide
  rw [BitVec.toNat_and, e1, e2]
  have e3 : n &&& 255 = n % 256 := Nat.and_two_pow_sub_one_eq_mod n 8
  rw [e3, w64 (by omega) (by omega)]
  omega
theorem keyHi {x : Int} (h0 : 0 ≤ x) : x.fdiv (2 ^ (min (16 : Int).toNat IntKind.i64.bits)) = x / 65536 := by
  have : (2 : Int) ^ (min (16 : Int).toNat IntKind.i64.bits) = 65536 := by decide
  rw [this, Int.fdiv_eq_ediv_of_nonneg _ (by omega)]
theorem keyMid {x : Int} (h0 : 0 ≤ x) : x.fdiv (2 ^ (min (8 : Int).toNat IntKind.i64.bits)) = x / 256 := by
  have : (2 : Int) ^ (min (8 : Int).toNat IntKind.i64.bits) = 256 := by decide
  rw [this, Int.fdiv_eq_ediv_of_nonneg _ (by omega)]
theorem zero6 (n : Nat) : (madeCells (Value.agg #[.int .i64 0, .int .i64 0, .int .i64 0, .int .i64 0, .int .i64 0, .int .i64 0]).cells (n * 6)).size = n * 6 := by
  simp [madeCells]

theorem realPending_ok {w : World} {p : Nat} {S : IPS} {A : List AR} {R : Option Addr → Nat → Nat → World → Prop} (h : RealAt w p S) (hrel : Rel A S)
    (hR : ∀ b w', w.heap.size ≤ b → Own w' b (pendL A).toArray 70 → Ext [] w w' → R (some ⟨b, 0, none⟩) A.length A.length w') : ip_IP_Pending.Call (some ⟨p, 0, none⟩) w R := by
  apply ip_IP_Pending.sound
  unfold ip_IP_Pending.B0
  have hplt := Own.lt h
  refine sorted_ok h hrel.kne fun at_ o w1 hl ha he1 => New.mk fun r w2 hr hs2 ho2 he2 => Sts.full ho2 rfl rfl fun w3 hs3 ho3 he3 => LdI.mk ho3 rfl ?_
  have hA := hl.tab hrel
  have hlen : o.length = A.length := by rw [← hA]; simp
  have hl3 := hl.len
  have hz1 := he1.size
  refine Make.mk (by omega) (by omega) (by omega) (by omega) fun b w4 hb hs4 ho4 he4 => ?_
  have E4 : Ext [] w w4 := ((he1.trans he2).trans' he3 (fun x hx hlt => by simp at hx; omega)).trans he4
  have hr4 := he4.own ho3 (by simp)
  have hzc := zero6 o.length
  unfold ip_IP_Pending.L1
  simp only [Int.toNat_natCast]
  rw [Int.toNat_natCast] at ho4
  refine ⟨fun m p' r' b' l' c' j w' => some ⟨p, 0, none⟩ = p' ∧ r = r' ∧ some ⟨b, 0, none⟩ = b' ∧ o.length = l' ∧ o.length = c' ∧ 0 ≤ j ∧ j ≤ o.length ∧ m = (o.length - j).toNat ∧ Ext [] w w' ∧ Own w' r #[.int .i64 (at_ 0), .int .i64 (at_ 1), .int .i64 (at_ 2), .int .i64 (o.length : Int)] 89 ∧ ∃ cs, Own w' b cs 70 ∧ cs.size = o.length * 6 ∧ cs.toList.take (j.toNat * 6) = pendL (A.take j.toNat), o.length,
    ⟨rfl, rfl, rfl, rfl, rfl, by omega, by omega, by omega, E4, hr4, _, ho4, hzc, by simp [pendL]⟩, ?_⟩
  rintro m p' r' b' l' c' j w' ⟨rfl, rfl, rfl, rfl, rfl, j0, j1, rfl, hE, hr', cs, hb', hcs, htake⟩
  unfold ip_IP_Pending.L1b
  refine LdI.mk hr' rfl (Bm.ite (fun hj => ?_) (fun hj => ?_))
  · have hjl : j.toNat < o.length := by omega
    obtain ⟨a0, a1, a2, a3⟩ := ha.lt hl hjl
    have hld : w'.cell? ⟨r, j.toNat, none⟩ = some (.int .i64 (at_ j.toNat)) := by
      have : j.toNat = 0 ∨ j.toNat = 1 ∨ j.toNat = 2 := by omega
      rcases this with e | e | e <;> rw [e] <;> exact hr'.cell rfl
    refine ⟨⟨j0, by omega⟩, LdI.cell (by rw [add_mk, Nat.zero_add, Nat.mul_one]; exact hld) ?_⟩
    generalize hx : at_ j.toNat = x at a0 a1 a2 a3
    obtain ⟨i, rfl⟩ : ∃ i : Nat, x = i := ⟨x.toNat, by omega⟩
    rw [Int.toNat_natCast] at a2 a3
    simp only [Int.toNat_natCast]
    have hi : i < 3 := by omega
    have hp' : RealAt w' p S := hE.own h (by simp)
    have hpd : RealAt w'.drew p S := hp'.drew
    have hw := hrel.rwf _ (hrel.mem hi a2)
    have hkr : 0 ≤ (S.sl i).key ∧ (S.sl i).key < 16777216 := hw.key
    refine Pn.mk ⟨⟨by omega, by omega⟩, LdI.cell (by rw [add_mk, add_mk, add_mk, Nat.zero_add]; exact hp'.key hi) (Pn.mk ⟨⟨by omega, by omega⟩, LdI.cell (by rw [add_mk, add_mk, add_mk, Nat.zero_add]; exact hp'.held hi) (count_ok (hrel.swf i hi) ⟨by omega, by omega, Pn.mk ⟨⟨by omega, by omega⟩, LdI.cell (by rw [add_mk, add_mk, add_mk, Nat.zero_add]; exact hpd.left hi) (Pn.mk ⟨⟨by omega, by omega⟩, LdI.cell (by rw [add_mk, add_mk, add_mk, Nat.zero_add]; exact hpd.total hi) (Pn.mk ⟨⟨j0, by omega⟩, ?_⟩)⟩)⟩⟩)⟩)⟩
    rw [keyHi hkr.1, keyMid hkr.1, and255 (by omega) (by omega), and255 (by omega) (by omega), add_mk, Nat.zero_add]
    refine Sts.mk hb'.drew (by simp; omega) rfl fun w5 hs5 ho5 he5 => ?_
    rw [w64 (by omega) (by omega)]
    have hbl := hb'.lt
    have hE5 : Ext [] w w5 := (hE.trans (Ext.drew [] w')).trans' he5 (fun x hx hlt => by simp at hx; omega)
    refine ⟨(o.length - (j + 1)).toNat, by omega, by trivial, by trivial, by trivial, by trivial, by trivial, by omega, by omega, rfl, hE5, he5.own hr'.drew (by simp; omega), _, ho5, by rw [size_putArr]; exact hcs, ?_⟩
    have hAj : A[j.toNat]? = some (S.sl i).abs := by
      rw [← hA, List.getElem?_map, a3]
      rfl
    have e1 : (j + 1).toNat = j.toNat + 1 := by omega
    have ht := take_putArr cs (j.toNat * 6) (pendV (S.sl i).abs) (by simp [pendV]; omega)
    rw [e1, pendL_take hAj, ← htake]
    have e2 : (j.toNat + 1) * 6 = j.toNat * 6 + (pendV (S.sl i).abs).length := by simp [pendV]; omega
    rw [e2]
    exact ht
  · have e : j.toNat = o.length := by omega
    rw [e, ← hcs, List.take_of_length_le (by simp), hlen, List.take_length] at htake
    have : cs = (pendL A).toArray := by
      apply Array.ext'
      simpa using htake
    subst this
    rw [hlen]
    exact hR b w' (by omega) hb' hE

def i64L (c : List Int) : List Value := c.map (Value.int .i64)
theorem i64L_take {c : List Int} {k : Nat} {x : Int} (h : c[k]? = some x) : i64L (c.take (k + 1)) = i64L (c.take k) ++ [.int .i64 x] := by
  rw [take_succ' h]
  simp [i64L]
theorem take_put1 {cs : Array Value} {k : Nat} {v : Value} {vs : List Value} (hk : k < cs.size) (h : cs.toList.take k = vs) : (putArr cs k [v]).toList.take (k + 1) = vs ++ [v] ∧ (putArr cs k [v]).toList.take k = vs := by
  have h1 := take_putArr cs k [v] (by simp; omega)
  simp only [List.length_cons, List.length_nil, Nat.zero_add] at h1
  refine ⟨by rw [h1, h], ?_⟩
  have h2 : (putArr cs k [v]).toList.take k = ((putArr cs k [v]).toList.take (k + 1)).take k := by rw [List.take_take]; congr 1; omega
  rw [h2, h1, List.take_append_of_le_length (by simp; omega), List.take_take]
  rw [Nat.min_self, h]

theorem realPeek_ok {w : World} {p : Nat} {S : IPS} {A : List AR} {j : Int} {R : Option Addr → Nat → Nat → World → Prop} (h : RealAt w p S) (hrel : Rel A S)
    (hn : (j < 0 ∨ A.length ≤ j) → ∀ b w', w.heap.size ≤ b → Own w' b #[] 3 → Ext [] w w' → R (some ⟨b, 0, none⟩) 0 0 w')
    (hR : ∀ r b w', 0 ≤ j → A[j.toNat]? = some r → w.heap.size ≤ b → Own w' b (i64L r.cell).toArray 3 → Ext [] w w' → R (some ⟨b, 0, none⟩) 40 40 w') : ip_IP_Peek.Call (some ⟨p, 0, none⟩) j w R := by
  apply ip_IP_Peek.sound
  unfold ip_IP_Peek.B0
  have hplt := Own.lt h
  refine sorted_ok h hrel.kne fun at_ o w1 hl ha he1 => New.mk fun r w2 hr hs2 ho2 he2 => Sts.full ho2 rfl rfl fun w3 hs3 ho3 he3 => ?_
  have hA := hl.tab hrel
  have hlen : o.length = A.length := by rw [← hA]; simp
  have hl3 := hl.len
  have hz1 := he1.size
  have E3 : Ext [] w w3 := (he1.trans he2).trans' he3 (fun x hx hlt => by simp at hx; omega)
  have hz3 := E3.size
  have out : (j < 0 ∨ A.length ≤ j) → ip_IP_Peek.B1 (some ⟨p, 0, none⟩) j r true w3 R := fun q => by
    unfold ip_IP_Peek.B1
    exact Bm.pos rfl (New.mk fun b w4 hb hs4 ho4 he4 => hn q b w4 (by omega) ho4 (E3.trans he4))
  refine Bm.ite (fun hj => out (.inl hj)) (fun hj => LdI.mk ho3 rfl ?_)
  by_cases hj2 : j ≥ (o.length : Int)
  · rw [decide_eq_true hj2]
    exact out (.inr (by omega))
  rw [decide_eq_false hj2]
  unfold ip_IP_Peek.B1
  have hjl : j.toNat < o.length := by omega
  obtain ⟨a0, a1, a2, a3⟩ := ha.lt hl hjl
  have hld : w3.cell? ⟨r, j.toNat, none⟩ = some (.int .i64 (at_ j.toNat)) := by
    have : j.toNat = 0 ∨ j.toNat = 1 ∨ j.toNat = 2 := by omega
    rcases this with e | e | e <;> rw [e] <;> exact ho3.cell rfl
  refine Bm.neg rfl ⟨⟨by omega, by omega⟩, LdI.cell (by rw [add_mk, Nat.zero_add, Nat.mul_one]; exact hld) ?_⟩
  generalize hx : at_ j.toNat = x at a0 a1 a2 a3
  obtain ⟨i, rfl⟩ : ∃ i : Nat, x = i := ⟨x.toNat, by omega⟩
  rw [Int.toNat_natCast] at a2 a3
  have hi : i < 3 := by omega
  refine Make.mk (by omega) (by omega) (by omega) (by omega) fun b w4 hb hs4 ho4 he4 => ?_
  have hAj : A[j.toNat]? = some (S.sl i).abs := by
    rw [← hA, List.getElem?_map, a3]
    rfl
  have hswf := hrel.swf i hi
  have hcl : (S.sl i).abs.cell.length = 40 := by simp [Slot.abs]
  have hcg : ∀ k, k < 40 → (S.sl i).abs.cell[k]? = some (if (S.sl i).held.testBit k then (S.sl i).buf k else -1) := fun k hk => by simp [Slot.abs, hk]
  unfold ip_IP_Peek.L1
  refine ⟨fun m p' i' b' l' c' k w' => some ⟨p, 0, none⟩ = p' ∧ (i : Int) = i' ∧ some ⟨b, 0, none⟩ = b' ∧ 40 = l' ∧ 40 = c' ∧ 0 ≤ k ∧ k ≤ 40 ∧ m = (40 - k).toNat ∧ Ext [] w w' ∧ ∃ cs, Own w' b cs 3 ∧ cs.size = 40 ∧ cs.toList.take k.toNat = i64L ((S.sl i).abs.cell.take k.toNat), 40,
    ⟨rfl, rfl, rfl, rfl, rfl, by omega, by omega, rfl, E3.trans he4, _, ho4, by simp [madeCells], rfl⟩, ?_⟩
  rintro m p' i' b' l' c' k w' ⟨rfl, rfl, rfl, rfl, rfl, k0, k1, rfl, hE, cs, hb', hcs, htake⟩
  unfold ip_IP_Peek.L1b
  refine Bm.ite (fun hk => Pn.mk ⟨⟨k0, by omega⟩, ?_⟩) (fun hk => ?_)
  · obtain ⟨q, rfl⟩ : ∃ q : Nat, k = q := ⟨k.toNat, by omega⟩
    simp only [Int.toNat_natCast] at htake ⊢
    have hq : q < 40 := by omega
    have hbl := hb'.lt
    rw [add_mk, Nat.zero_add, Nat.mul_one]
    refine Sts.mk hb' (by simp; omega) rfl fun w5 hs5 ho5 he5 => ?_
    have E5 : Ext [] w w5 := hE.trans' he5 (fun x hx hlt => by simp at hx; omega)
    have hp5 : RealAt w5 p S := E5.own h (by simp)
    obtain ⟨t1, t2⟩ := take_put1 (v := .int .i64 (-1)) (by omega : q < cs.size) htake
    refine Pn.mk ⟨⟨by omega, by omega⟩, LdI.cell (by rw [add_mk, add_mk, add_mk, Nat.zero_add]; exact hp5.held hi) ⟨by rw [w64u (by omega) (by omega)]; omega, ?_⟩⟩
    rw [bit_at hswf.held (by omega)]
    unfold ip_IP_Peek.B2
    rw [w64 (x := (q : Int) + 1) (by omega) (by omega)]
    have e1 : ((q : Int) + 1).toNat = q + 1 := by omega
    refine Bm.mk (fun hb1 => ?_) (fun hb1 => ?_)
    · refine Pn.mk ⟨⟨by omega, by omega⟩, ⟨by omega, by omega⟩, LdI.cell (by rw [add_mk, add_mk, add_mk, add_mk, Nat.zero_add, Nat.add_assoc _ 5]; exact hp5.buf hi hq) (Pn.mk ⟨⟨by omega, by omega⟩, ?_⟩)⟩
      have hbb := hswf.buf q hq
      rw [add_mk, Nat.zero_add, w64 (by omega) (by omega)]
      refine Sts.mk ho5 (by rw [size_putArr]; simp; omega) rfl fun w6 hs6 ho6 he6 => ?_
      obtain ⟨t3, _⟩ := take_put1 (v := .int .i64 ((S.sl i).buf q)) (by rw [size_putArr]; omega : q < (putArr cs q [Value.int .i64 (-1)]).size) t2
      refine ⟨(40 - ((q : Int) + 1)).toNat, by omega, by trivial, by trivial, by trivial, by trivial, by trivial, by omega, by omega, rfl, E5.trans' he6 (fun x hx hlt => by simp at hx; omega), _, ho6, by rw [size_putArr, size_putArr]; exact hcs, ?_⟩
      rw [e1, i64L_take (hcg q hq), if_pos hb1]
      exact t3
    · refine ⟨(40 - ((q : Int) + 1)).toNat, by omega, by trivial, by trivial, by trivial, by trivial, by trivial, by omega, by omega, rfl, E5, _, ho5, by rw [size_putArr]; exact hcs, ?_⟩
      rw [e1, i64L_take (hcg q hq), if_neg (by simp [hb1])]
      exact t1
  · have e : k.toNat = 40 := by omega
    rw [e, ← hcs, List.take_of_length_le (by simp), hcs, List.take_of_length_le (by omega)] at htake
    have : cs = (i64L (S.sl i).abs.cell).toArray := by
      apply Array.ext'
      simpa using htake
    subst this
    exact hR _ b w' (by omega) hAj (by omega) hb' hE
end Go.Proofs.Qxb6500425a
