/-
  ip: the real layer's Output: the walk.
-/
import Derived.Test.Qxb6500424aGreatIpM
set_option linter.unusedVariables false
set_option linter.unusedSimpArgs false
open Go.Vc
namespace Go.Proofs.Qxb6500424aGreat.Ip

theorem realOutput_ok {w : World} {p : Nat} {S : IPS} {dst proto : Int} {b : Option Addr} {l c : Nat} {d : List Int} {R : Option Addr → Nat → Nat → Int → World → Prop}
    (h : RealAt w p S) (ha : 0 ≤ S.addr ∧ S.addr < 256) (hn : 0 ≤ S.next ∧ S.next < 256) (hc0 : 0 ≤ S.credit ∧ S.credit ≤ 24) (hv : Rd w b d) (hl : d.length = l) (hlc : l ≤ c) (hbig : l ≤ 281474976710656) (hbp : ∀ k o, b = some ⟨k, o, none⟩ → k ≠ p)
    (he : outErr dst proto l S.credit ≠ 0 → R none 0 0 (outErr dst proto l S.credit) w)
    (hR : outErr dst proto l S.credit = 0 → ∀ ob K w', w.heap.size ≤ ob → HalfAt w w' ob (cntF l) (cntF l) K (pktF proto S.addr dst S.next d) → RealAt w' p { S with next := (S.next + 1) % 256, credit := S.credit - 1 } → Ext [p] w w' → R (some ⟨ob, 0, none⟩) (cntF l) (cntF l) 0 w') :
    ip_IP_Output.Call (some ⟨p, 0, none⟩) dst proto b l c w R := by
  apply ip_IP_Output.sound
  unfold ip_IP_Output.B0
  have err5 : (dst < 0 ∨ 255 < dst) → R none 0 0 5 w := fun q => by
    have e : outErr dst proto l S.credit = 5 := by unfold outErr; rw [if_pos q]
    rw [e] at he
    exact he (by decide)
  refine Bm.ite (fun h1 => ?_) (fun h1 => ?_)
  · unfold ip_IP_Output.B1
    exact Bm.pos rfl (err5 (.inl h1))
  unfold ip_IP_Output.B1
  refine Bm.ite (fun h2 => err5 (.inr h2)) (fun h2 => ?_)
  have err6 : (proto < 0 ∨ 255 < proto) → R none 0 0 6 w := fun q => by
    have e : outErr dst proto l S.credit = 6 := by unfold outErr; rw [if_neg (by omega), if_pos q]
    rw [e] at he
    exact he (by decide)
  refine Bm.ite (fun h3 => ?_) (fun h3 => ?_)
  · unfold ip_IP_Output.B2
    exact Bm.pos rfl (err6 (.inl h3))
  unfold ip_IP_Output.B2
  refine Bm.ite (fun h4 => err6 (.inr h4)) (fun h4 => ?_)
  refine Bm.ite (fun h5 => ?_) (fun h5 => ?_)
  · have e : outErr dst proto l S.credit = 2 := by unfold outErr; rw [if_neg (by omega), if_neg (by omega), if_pos (by omega)]
    rw [e] at he
    exact he (by decide)
  refine Pn.mk ?_
  rw [add_mk, Nat.zero_add]
  refine LdI.cell h.credit (Bm.ite (fun h6 => ?_) (fun h6 => ⟨by decide, ?_⟩))
  · have e : outErr dst proto l S.credit = 12 := by unfold outErr; rw [if_neg (by omega), if_neg (by omega), if_neg (by omega), if_pos h6]
    rw [e] at he
    exact he (by decide)
  have e0 : outErr dst proto l S.credit = 0 := by unfold outErr; rw [if_neg (by omega), if_neg (by omega), if_neg (by omega), if_neg h6]
  replace hR := hR e0
  obtain ⟨c1, c3, c4, c5⟩ := cntF_le (n := l) (by omega)
  have eq1 : IntKind.i64.wrap ((IntKind.i64.wrap ((IntKind.i64.wrap (((l : Nat) : Int) + 16)) - 1)).tdiv 16) = (((l + 15) / 16 : Nat) : Int) := by
    rw [w64 (x := ((l : Nat) : Int) + 16) (by omega) (by omega), w64 (x := ((l : Nat) : Int) + 16 - 1) (by omega) (by omega), Int.tdiv_eq_ediv_of_nonneg (by omega), w64 (by omega) (by omega)]
    omega
  rw [eq1]
  have b3 : ip_IP_Output.B3 (some ⟨p, 0, none⟩) dst proto b l c (cntF l : Int) w R := by
    unfold ip_IP_Output.B3
    refine Make.mk (by omega) (by omega) (by omega) (by omega) fun ob w1 hob hs1 ho1 he1 => ?_
    rw [Int.toNat_natCast]
    have h1r : RealAt w1 p S := he1.own h (by simp)
    have hplt := Own.lt h
    have half0 : HalfAt w w1 ob (cntF l) 0 (fun _ => 0) (pktF proto S.addr dst S.next d) := by
      refine ⟨?_, fun j hj => by omega, fun i j hi => by omega⟩
      have e : madeCells (Value.slice none 0 0).cells ((cntF l : Int).toNat * 1) = fnArr (cntF l) fun j => if j < 0 then sv ((fun _ => 0) j) (pktF proto S.addr dst S.next d j).length else .slice none 0 0 := by
        rw [show (Value.slice none 0 0).cells = #[Value.slice none 0 0] from rfl, madeCells_one, Int.toNat_natCast, Nat.mul_one]
        apply fnArr_ext (by simp)
        intro j hj
        simp [hj]
      rw [e] at ho1
      exact ho1
    unfold ip_IP_Output.L1
    refine ⟨fun m p' dst' proto' b' l' c' cnt' ob' ol' oc' i w' => some ⟨p, 0, none⟩ = p' ∧ dst = dst' ∧ proto = proto' ∧ b = b' ∧ l = l' ∧ c = c' ∧ (cntF l : Int) = cnt' ∧ some ⟨ob, 0, none⟩ = ob' ∧ cntF l = ol' ∧ cntF l = oc' ∧ 0 ≤ i ∧ i ≤ (cntF l : Int) - 1 ∧ m = ((cntF l : Int) - i).toNat ∧ Ext [] w w' ∧ RealAt w' p S ∧ ∃ K, HalfAt w w' ob (cntF l) i.toNat K (pktF proto S.addr dst S.next d), cntF l,
      ⟨rfl, rfl, rfl, rfl, rfl, rfl, rfl, rfl, rfl, rfl, by omega, by omega, by omega, he1, h1r, _, half0⟩, ?_⟩
    rintro m p' dst' proto' b' l' c' cnt' ob' ol' oc' i w' ⟨rfl, rfl, rfl, rfl, rfl, rfl, rfl, rfl, rfl, rfl, i0, i1, rfl, hE, hr, K, hh⟩
    unfold ip_IP_Output.L1b
    have hz := hE.size
    have ed : Ext [] w w'.drew := hE.trans (Ext.drew [] w')
    have hrd := hr.drew
    have hvd := hv.ext0 ed
    have hhd : HalfAt w w'.drew ob (cntF l) i.toNat K (pktF proto S.addr dst S.next d) := hh
    rw [w64 (x := (cntF l : Int) - 1) (by omega) (by omega)]
    refine Bm.ite (fun hi => ?_) (fun hi => ?_)
    · obtain ⟨n, rfl⟩ : ∃ n : Nat, i = n := ⟨i.toNat, by omega⟩
      have hor := or128 ⟨n, by omega⟩
      simp only at hor
      have e16 : IntKind.i64.wrap ((n : Int) * 16) = ((n * 16 : Nat) : Int) := by rw [w64 (by omega) (by omega)]; omega
      have e32 : IntKind.i64.wrap (((n * 16 : Nat) : Int) + 16) = ((n * 16 + 16 : Nat) : Int) := by rw [w64 (by omega) (by omega)]; omega
      rw [hor, e16, e32]
      refine Pn.mk (LdI.cell hrd.addr (Pn.mk (LdI.cell (by rw [add_mk, Nat.zero_add]; exact hrd.next) ⟨⟨by omega, by omega⟩, ⟨by omega, by omega⟩, ?_⟩)))
      have hsub : Rd w'.drew (slBase b ((n * 16 : Nat) : Int) ((c : Nat) : Int) 1) ((d.drop (n * 16)).take 16) := (hvd.drop (n * 16) (by omega)).take 16
      have hlen : ((d.drop (n * 16)).take 16).length = 16 := by simp; omega
      have e17 : ((n * 16 + 16 : Nat) : Int).toNat - ((n * 16 : Nat) : Int).toNat = 16 := by rw [Int.toNat_natCast, Int.toNat_natCast]; omega
      rw [e17]
      refine packet_ok (by omega) ha (by omega) hn (by omega) hsub hlen (by omega) fun k w1' hk hs1' hf1' he1' => Pn.mk ⟨⟨by omega, by omega⟩, ?_⟩
      have ep : pktF proto S.addr dst S.next d n = pkt proto S.addr dst S.next ((n * 16 + 128 : Nat) : Int) ((d.drop (n * 16)).take 16) := by
        unfold pktF
        rw [if_pos (by rw [hl]; omega)]
      have epl : (pktF proto S.addr dst S.next d n).length = 8 + 16 := by rw [ep, pkt_length, hlen]
      rw [add_mk, Nat.mul_one, Nat.zero_add, Int.toNat_natCast]
      have hh' : HalfAt w w'.drew ob (cntF l) n K (pktF proto S.addr dst S.next d) := by simpa using hhd
      have hput : ∀ KK : World → Prop, (∀ w2, HalfAt w w2 ob (cntF l) (n + 1) (updK K n k) (pktF proto S.addr dst S.next d) → w2.heap.size = w1'.heap.size → Ext [ob] w1' w2 → KK w2) → Sts [sv k (8 + 16)] ⟨ob, n, none⟩ 0 w1' KK := fun KK hKK => by
        have := HalfAt.put (KK := KK) (w1 := w1') (w2 := w1') hh' (by omega) hk (by show w.heap.size ≤ w'.heap.size; omega) he1' (by rw [ep]; exact hf1') hs1' hKK
        rwa [epl] at this
      refine hput _ fun w2 hh2 hs2 he2 => ?_
      have en : IntKind.i64.wrap ((n : Int) + 1) = ((n + 1 : Nat) : Int) := by rw [w64 (by omega) (by omega)]; omega
      rw [en]
      have hobl := hh2.1.lt
      refine ⟨((cntF l : Int) - ((n + 1 : Nat) : Int)).toNat, by omega, rfl, rfl, rfl, rfl, rfl, rfl, rfl, rfl, rfl, rfl, by omega, by omega, rfl, (ed.trans he1').trans' he2 (fun x hx hlt => by simp at hx; omega), he2.own (he1'.own hrd (by simp)) (by simp; omega), _, by rw [Int.toNat_natCast]; exact hh2⟩
    · have hi' : i = (cntF l : Int) - 1 := by omega
      obtain ⟨n, hn'⟩ : ∃ n : Nat, cntF l = n + 1 := ⟨cntF l - 1, by omega⟩
      have ein : i.toNat = n := by omega
      rw [ein] at hhd
      have e16 : IntKind.i64.wrap (((cntF l : Int) - 1) * 16) = ((n * 16 : Nat) : Int) := by rw [w64 (by omega) (by omega)]; omega
      rw [e16]
      refine Pn.mk (LdI.cell hrd.addr (Pn.mk (LdI.cell (by rw [add_mk, Nat.zero_add]; exact hrd.next) ⟨⟨by omega, by omega⟩, ?_⟩)))
      have hsub : Rd w'.drew (slBase b ((n * 16 : Nat) : Int) ((c : Nat) : Int) 1) (d.drop (n * 16)) := hvd.drop (n * 16) (by omega)
      have hlen : (d.drop (n * 16)).length = l - n * 16 := by simp; omega
      have e17 : ((l : Nat) : Int).toNat - ((n * 16 : Nat) : Int).toNat = l - n * 16 := by rw [Int.toNat_natCast, Int.toNat_natCast]
      rw [e17]
      refine packet_ok (by omega) ha (by omega) hn (by omega) hsub hlen (by omega) fun k w1' hk hs1' hf1' he1' => Pn.mk ⟨⟨by omega, by omega⟩, ?_⟩
      have ep : pktF proto S.addr dst S.next d n = pkt proto S.addr dst S.next ((n * 16 : Nat) : Int) (d.drop (n * 16)) := by
        unfold pktF
        rw [if_neg (by rw [hl]; omega)]
      have epl : (pktF proto S.addr dst S.next d n).length = 8 + (l - n * 16) := by rw [ep, pkt_length, hlen]
      rw [add_mk, Nat.mul_one, Nat.zero_add, show ((cntF l : Int) - 1).toNat = n by omega]
      have hput : ∀ KK : World → Prop, (∀ w2, HalfAt w w2 ob (cntF l) (n + 1) (updK K n k) (pktF proto S.addr dst S.next d) → w2.heap.size = w1'.heap.size → Ext [ob] w1' w2 → KK w2) → Sts [sv k (8 + (l - n * 16))] ⟨ob, n, none⟩ 0 w1' KK := fun KK hKK => by
        have := HalfAt.put (KK := KK) (w1 := w1') (w2 := w1') hhd (by omega) hk (by show w.heap.size ≤ w'.heap.size; omega) he1' (by rw [ep]; exact hf1') hs1' hKK
        rwa [epl] at this
      refine hput _ fun w4 hh4 hs4 he4 => Pn.mk ?_
      have hobl := hh4.1.lt
      have E4 : Ext [] w w4 := (ed.trans he1').trans' he4 (fun x hx hlt => by simp at hx; omega)
      have hr4 : RealAt w4 p S := E4.own h (by simp)
      rw [add_mk, Nat.zero_add]
      refine LdI.cell hr4.next (Pn.mk ?_)
      rw [add_mk, Nat.zero_add, w64 (x := S.next + 1) (by omega) (by omega)]
      refine RealAt.st hr4 (by omega) rfl (put_next S _) fun w5 hs5 hr5 he5 => Pn.mk ?_
      rw [add_mk, Nat.zero_add]
      refine LdI.cell hr5.next ?_
      rw [hn'] at hR hh4
      have keepH : ∀ {wa wb : World}, HalfAt w wa ob (n + 1) (n + 1) (updK K n k) (pktF proto S.addr dst S.next d) → Ext [p] wa wb → HalfAt w wb ob (n + 1) (n + 1) (updK K n k) (pktF proto S.addr dst S.next d) := fun {wa wb} hx hab => ⟨hab.own hx.1 (by simp; omega), fun j hj => ⟨(hx.2.1 j hj).1.ext hab (by have := (hx.2.1 j hj).2; simp; omega), (hx.2.1 j hj).2⟩, hx.2.2⟩
      have b4 : ∀ w6 nx, RealAt w6 p { S with next := nx } → nx = (S.next + 1) % 256 → Ext [p] w4 w6 → ip_IP_Output.B4 (some ⟨p, 0, none⟩) (some ⟨ob, 0, none⟩) (cntF l) (cntF l) w6 R := fun w6 nx h6 e6 he6 => by
        unfold ip_IP_Output.B4
        refine Pn.mk ?_
        rw [add_mk, Nat.zero_add]
        refine LdI.cell h6.credit (Pn.mk ?_)
        have hcr : ({ S with next := nx } : IPS).credit = S.credit := rfl
        rw [add_mk, Nat.zero_add, hcr, w64 (x := S.credit - 1) (by omega) (by omega)]
        refine RealAt.st h6 (by omega) rfl (put_credit _ _) fun w7 hs7 hr7 he7 => ?_
        rw [hn']
        subst e6
        exact hR ob _ w7 (by omega) (keepH hh4 (he6.trans he7)) hr7 ((E4.nil.trans he6).trans he7)
      have hnx : ({ S with next := S.next + 1 } : IPS).next = S.next + 1 := rfl
      rw [hnx]
      refine Bm.mk (fun h256 => Pn.mk ?_) (fun h256 => ?_)
      · have h256' : S.next + 1 = 256 := by simpa using h256
        rw [add_mk, Nat.zero_add]
        refine RealAt.st hr5 (by omega) rfl (put_next _ 0) fun w6 hs6 hr6 he6 => b4 w6 0 hr6 (by omega) (he5.trans he6)
      · have h256' : S.next + 1 ≠ 256 := by simpa using h256
        exact b4 w5 (S.next + 1) hr5 (by omega) he5
  refine Bm.mk (fun hz => ?_) (fun hz => ?_)
  · have hz' : (((l + 15) / 16 : Nat) : Int) = 0 := by simpa using hz
    have : cntF l = 1 := by unfold cntF; rw [if_pos (by omega)]
    rw [this] at b3
    exact b3
  · have hz' : (((l + 15) / 16 : Nat) : Int) ≠ 0 := by simpa using hz
    have : cntF l = (l + 15) / 16 := by unfold cntF; rw [if_neg (by omega)]
    rw [this] at b3
    exact b3
end Go.Proofs.Qxb6500424aGreat.Ip
