/-
  ip: the model's Output.
-/
import Derived.Test.Qxb6500425aIpT
set_option linter.unusedVariables false
set_option linter.unusedSimpArgs false
open Go.Vc
namespace Go.Proofs.Qxb6500425a

theorem Row.rd {w : World} {b : Option Addr} {l c : Nat} {v : List Int} (h : Row w b l c 1 5 (U8 v)) (hb : IsB v) : Rd w b v := by
  refine ⟨hb, ?_⟩
  have hl := h.1
  rw [U8_length] at hl
  rcases h.2.2 with ⟨rfl, hc⟩ | ⟨k, cs, rfl, ho, hs, ht⟩
  · have := h.2.1
    exact .inl (List.eq_nil_of_length_eq_zero (by omega))
  · refine .inr ⟨k, 0, rfl, ho.lt, fun i x hx => ho.cell ?_⟩
    have h1 : (U8 v)[i]? = some (.int .u8 x) := by rw [U8_get, hx]; rfl
    rw [← ht, List.getElem?_take] at h1
    split at h1
    · simpa using h1
    · cases h1
theorem orM : ∀ j : Fin 3, IntKind.i64.wrap (BitVec.ofInt IntKind.i64.bits ((j.val * 16 : Nat) : Int) ||| BitVec.ofInt IntKind.i64.bits (128 : Int)).toNat = ((j.val * 16 + 128 : Nat) : Int) ∧
    IntKind.i64.wrap (BitVec.ofInt IntKind.i64.bits ((j.val * 16 : Nat) : Int) ||| BitVec.ofInt IntKind.i64.bits (0 : Int)).toNat = ((j.val * 16 : Nat) : Int) := by decide +kernel
theorem pkt_isB {proto src dst id om : Int} {d : List Int} (hp : 0 ≤ proto ∧ proto < 256) (hs : 0 ≤ src ∧ src < 256) (hd : 0 ≤ dst ∧ dst < 256) (hi : 0 ≤ id ∧ id < 256) (ho : 0 ≤ om ∧ om < 256) (hb : IsB d) (hl : d.length < 256) : IsB (pkt proto src dst id om d) := by
  refine IsB.append (fun x hx => ?_) hb
  simp only [List.mem_cons, List.not_mem_nil, or_false] at hx
  have := sum7_range [proto, 8, src, dst, id, om, (d.length : Int)]
  rcases hx with e | e | e | e | e | e | e | e <;> rw [e] <;> omega
/-- A packet of the model. -/
def MItem (n0 : Nat) (w : World) (v : Value) (P : List Int) : Prop := ∃ b c, v = .slice b P.length c ∧ Row w b P.length c 1 5 (U8 P) ∧ IsB P ∧ ∀ k ∈ rowBlk b, n0 ≤ k
theorem MItem.ext {n0 : Nat} {w w' : World} {v : Value} {P : List Int} {S : List Nat} (h : MItem n0 w v P) (he : Ext S w w') (hs : ∀ k ∈ S, k < w.heap.size → n0 ≤ k → ∀ cs, ¬ Own w k cs 5) : MItem n0 w' v P := by
  obtain ⟨b, c, e, hr, hb, hn⟩ := h
  refine ⟨b, c, e, hr.ext he (fun k hk hS => ?_), hb, hn⟩
  obtain ⟨cs, ho⟩ := rowTy hr hk
  exact hs k hS ho.lt (hn k hk) cs ho

theorem modOutput_ok {w : World} {q : Nat} {M : MS} {dst proto : Int} {b : Option Addr} {l c : Nat} {d : List Int} {R : Option Addr → Nat → Nat → Int → World → Prop}
    (h : ModAt w q M) (ha : 0 ≤ M.addr ∧ M.addr < 256) (hn : 0 ≤ M.next ∧ M.next < 256) (hc0 : 0 ≤ M.credit ∧ M.credit ≤ 24) (hv : Rd w b d) (hl : d.length = l) (hlc : l ≤ c) (hbig : l ≤ 281474976710656) (hbq : ∀ k o, b = some ⟨k, o, none⟩ → k ≠ q)
    (he : outErr dst proto l M.credit ≠ 0 → R none 0 0 (outErr dst proto l M.credit) w)
    (hR : outErr dst proto l M.credit = 0 → ∀ ob oc vs w', Row w' ob (cntF l) oc 1 68 vs → (∀ k ∈ rowBlk ob, w.heap.size ≤ k) → (∀ i, i < cntF l → ∃ v, vs[i]? = some v ∧ MItem w.heap.size w' v (pktF proto M.addr dst M.next d i)) → ModAt w' q { M with next := (M.next + 1) % 256, credit := M.credit - 1 } → Ext [q] w w' → R ob (cntF l) oc 0 w') :
    ipm_IP_Output.Call (some ⟨q, 0, none⟩) dst proto b l c w R := by
  apply ipm_IP_Output.sound
  unfold ipm_IP_Output.B0
  have err5 : (dst < 0 ∨ 255 < dst) → ipm_IP_Output.B1 (some ⟨q, 0, none⟩) dst proto b l c true w R := fun hq => by
    have e : outErr dst proto l M.credit = 5 := by unfold outErr; rw [if_pos hq]
    unfold ipm_IP_Output.B1
    rw [e] at he
    exact Bm.pos rfl (he (by omega))
  refine Bm.ite (fun h1 => err5 (.inl h1)) (fun h1 => ?_)
  by_cases h2 : dst > 255
  · rw [decide_eq_true h2]
    exact err5 (.inr h2)
  rw [decide_eq_false h2]
  unfold ipm_IP_Output.B1
  refine Bm.neg rfl ?_
  have err6 : (proto < 0 ∨ 255 < proto) → ipm_IP_Output.B2 (some ⟨q, 0, none⟩) dst proto b l c true w R := fun hq => by
    have e : outErr dst proto l M.credit = 6 := by unfold outErr; rw [if_neg (by omega), if_pos hq]
    unfold ipm_IP_Output.B2
    rw [e] at he
    exact Bm.pos rfl (he (by omega))
  refine Bm.ite (fun h3 => err6 (.inl h3)) (fun h3 => ?_)
  by_cases h4 : proto > 255
  · rw [decide_eq_true h4]
    exact err6 (.inr h4)
  rw [decide_eq_false h4]
  unfold ipm_IP_Output.B2
  refine Bm.neg rfl (Bm.ite (fun h5 => ?_) (fun h5 => ?_))
  · have e : outErr dst proto l M.credit = 2 := by unfold outErr; rw [if_neg (by omega), if_neg (by omega), if_pos (by omega)]
    rw [e] at he
    exact he (by omega)
  refine Pn.mk (LdI.cell (by rw [add_mk]; exact h.own.cell rfl) (Bm.mk (fun h6 => ?_) (fun h6 => ?_)))
  · have h6' : M.credit = 0 := by simpa using h6
    have e : outErr dst proto l M.credit = 12 := by unfold outErr; rw [if_neg (by omega), if_neg (by omega), if_neg (by omega), if_pos (by omega)]
    rw [e] at he
    exact he (by omega)
  have h6' : M.credit ≠ 0 := by simpa using h6
  have ok : outErr dst proto l M.credit = 0 := by unfold outErr; rw [if_neg (by omega), if_neg (by omega), if_neg (by omega), if_neg (by omega)]
  have hR' := hR ok
  have hl40 : l ≤ 40 := by omega
  have hcnt := cntF_le hl40
  refine Pn.mk (LdI.cell (by rw [add_mk]; exact h.own.cell rfl) (Pn.mk (LdI.cell (by rw [add_mk]; exact h.own.cell rfl) ⟨by decide, Pn.mk ?_⟩)))
  rw [add_mk, Nat.zero_add, w64 (by omega) (by omega), Int.tmod_eq_emod_of_nonneg (by omega)]
  refine h.stN (o := 1) (by omega) (M' := { M with next := (M.next + 1) % 256 }) rfl rfl rfl rfl fun w1 hs1 hm1 he1 => Pn.mk (LdI.cell (by rw [add_mk]; exact hm1.own.cell rfl) (Pn.mk ?_))
  have hcr : ({ M with next := (M.next + 1) % 256 } : MS).credit = M.credit := rfl
  rw [add_mk, Nat.zero_add, hcr, w64 (by omega) (by omega)]
  refine hm1.stN (o := 2) (by omega) (M' := { M with next := (M.next + 1) % 256, credit := M.credit - 1 }) rfl rfl rfl rfl fun w2 hs2 hm2 he2 => New.mk fun b56 w3 hb56 hs3 ho3 he3 => ?_
  have E2 : Ext [q] w w2 := he1.trans he2
  have hv2 : Rd w2 b d := hv.ext E2 (fun k o e hk => hbq k o e (by simpa using hk))
  generalize hMM : ({ M with next := (M.next + 1) % 256, credit := M.credit - 1 } : MS) = MM at hm2 hR'
  have hMa : MM.addr = M.addr := by rw [← hMM]
  unfold ipm_IP_Output.L1
  refine ⟨fun m q' dst' proto' b' l' c' id' ob ol oc off w' => some ⟨q, 0, none⟩ = q' ∧ dst = dst' ∧ proto = proto' ∧ b = b' ∧ l = l' ∧ c = c' ∧ M.next = id' ∧ (ol : Int) + m = cntF l ∧ 1 ≤ m ∧ off = ((ol * 16 : Nat) : Int) ∧ Ext [] w2 w' ∧ (∀ k ∈ rowBlk ob, w2.heap.size ≤ k) ∧ ∃ vs, Row w' ob ol oc 1 68 vs ∧ ∀ i, i < ol → ∃ v, vs[i]? = some v ∧ MItem w.heap.size w' v (pktF proto M.addr dst M.next d i), cntF l,
    ⟨rfl, rfl, rfl, rfl, rfl, rfl, rfl, by omega, by omega, rfl, he3, fun k hk => by simp [rowBlk] at hk; omega, [], ⟨rfl, by omega, .inr ⟨b56, _, rfl, ho3, by simp, by simp⟩⟩, fun i hi => by omega⟩, ?_⟩
  rintro m q' dst' proto' b' l' c' id' ob ol oc off w' ⟨rfl, rfl, rfl, rfl, rfl, rfl, rfl, hm, hm1, rfl, hE, hfr, vs, hrow, hit⟩
  have hoc : ol + 1 ≤ cntF l := by omega
  have hM' := hm2.ext0 hE
  have hz := hE.size
  -- the packet
  have b3 : ∀ (n : Nat) (om : Int), n = (pktF proto M.addr dst M.next d ol).length - 8 → (om = 0 ∨ om = 128) → pktF proto M.addr dst M.next d ol = pkt proto M.addr dst M.next ((ol * 16 : Nat) + om) ((d.drop (ol * 16)).take n) → ol * 16 + n ≤ l → n ≤ 40 → (om = 0 → ol + 1 = cntF l) → (om = 128 → ol + 1 < cntF l ∧ n = 16) → ipm_IP_Output.B3 (some ⟨q, 0, none⟩) dst proto b l c M.next ob ol oc ((ol * 16 : Nat) : Int) (n : Int) om w' (fun q' dst' proto' b' l' c' id' ob' ol' oc' off' w'' => ∃ m', m' < m ∧ some ⟨q, 0, none⟩ = q' ∧ dst = dst' ∧ proto = proto' ∧ b = b' ∧ l = l' ∧ c = c' ∧ M.next = id' ∧ (ol' : Int) + m' = cntF l ∧ 1 ≤ m' ∧ off' = ((ol' * 16 : Nat) : Int) ∧ Ext [] w2 w'' ∧ (∀ k ∈ rowBlk ob', w2.heap.size ≤ k) ∧ ∃ vs, Row w'' ob' ol' oc' 1 68 vs ∧ ∀ i, i < ol' → ∃ v, vs[i]? = some v ∧ MItem w.heap.size w'' v (pktF proto M.addr dst M.next d i)) R := by
    intro n om hnl hom hpk hfit hn40 hom0 hom1
    unfold ipm_IP_Output.B3
    have hol3 : ol < 3 := by omega
    have horE : IntKind.i64.wrap (BitVec.ofInt IntKind.i64.bits ((ol * 16 : Nat) : Int) ||| BitVec.ofInt IntKind.i64.bits om).toNat = ((ol * 16 : Nat) : Int) + om := by
      have := orM ⟨ol, hol3⟩
      rcases hom with e | e
      · rw [e]
        have h2 := this.2
        simp only at h2
        rw [h2]
        omega
      · rw [e]
        have h1 := this.1
        simp only at h1
        rw [h1]
        omega
    have eon : IntKind.i64.wrap (((ol * 16 : Nat) : Int) + (n : Int)) = ((ol * 16 + n : Nat) : Int) := by rw [w64 (by omega) (by omega)]; omega
    have hmr : 0 ≤ ((ol * 16 : Nat) : Int) + om ∧ ((ol * 16 : Nat) : Int) + om < 256 := by rcases hom with e | e <;> rw [e] <;> omega
    simp only [horE, eon, Int.toNat_natCast]
    refine Pn.mk (LdI.cell (by exact hM'.own.cell rfl) ?_)
    rw [hMa, wrap8_id (x := proto) (by omega) (by omega), wrap8_id ha.1 ha.2, wrap8_id (x := dst) (by omega) (by omega), wrap8_id hn.1 hn.2, wrap8_id hmr.1 hmr.2, wrap8_id (x := (n : Int)) (by omega) (by omega)]
    refine New.mk fun b80 w4 hb80 hs4 ho4 he4 => ?_
    generalize hom' : ((ol * 16 : Nat) : Int) + om = om' at hmr hpk ho4
    have hf4 : Bf w4 b80 [proto, 8, M.addr, dst, M.next, om', (n : Int), 0] := by
      refine ⟨ho4, fun x hx => ?_⟩
      simp only [List.mem_cons, List.not_mem_nil, or_false] at hx
      rcases hx with e | e | e | e | e | e | e | e <;> rw [e] <;> omega
    refine headSum_ok hf4.rd0 rfl (by omega) ⟨by omega, ?_⟩
    have esum : sum7 [proto, 8, M.addr, dst, M.next, om', (n : Int), 0] = sum7 [proto, 8, M.addr, dst, M.next, om', (n : Int)] := rfl
    rw [esum, wrap8_id (sum7_range _).1 (sum7_range _).2]
    refine hf4.set (by simp) (sum7_range _) fun w5 hs5 hf5 he5 => ⟨⟨by omega, by omega⟩, ⟨by omega, by omega⟩, ?_⟩
    have hf5' : Bf w5 b80 [proto, 8, M.addr, dst, M.next, om', (n : Int), sum7 [proto, 8, M.addr, dst, M.next, om', (n : Int)]] := hf5
    have E5 : Ext [] w' w5 := he4.trans' he5 (fun x hx hlt => by simp at hx; omega)
    have hv5 : Rd w5 b d := hv2.ext0 (hE.trans E5)
    have hsub : Rd w5 (slBase b ((ol * 16 : Nat) : Int) ((c : Nat) : Int) 1) ((d.drop (ol * 16)).take n) := (hv5.drop (ol * 16) (by omega)).take n
    have hdl : ((d.drop (ol * 16)).take n).length = n := by rw [List.length_take, List.length_drop]; omega
    have hrow5 : Row w5 (some ⟨b80, 0, none⟩) 8 8 1 5 (U8 [proto, 8, M.addr, dst, M.next, om', (n : Int), sum7 [proto, 8, M.addr, dst, M.next, om', (n : Int)]]) := ⟨rfl, by omega, .inr ⟨b80, _, rfl, hf5'.1, by simp [U8], by simp [U8]⟩⟩
    refine Vc.Append.mk hrow5 hsub.cells (by rw [U8_length, hdl]; omega) rfl (U8_all _) (by omega) (by omega) fun b94 c94 w6 hrow6 hE6 hb6 => ?_
    have ein : 8 + (ol * 16 + n - ol * 16) = 8 + n := by omega
    rw [ein] at hrow6 ⊢
    refine New.mk fun b95 w7 hb95 hs7 ho7 he7 => ?_
    have hz5 := E5.size
    have hz6 := hE6.size
    have E6 : Ext [] w' w6 := E5.trans' hE6 (fun x hx hlt => by simp [rowBlk] at hx; omega)
    have E7 : Ext [] w' w7 := E6.trans he7
    have hrow7 := hrow.ext E7 (fun k _ hk => by cases hk)
    have hpl : (pktF proto M.addr dst M.next d ol).length = 8 + n := by rw [hpk, pkt_length, hdl]
    have hitem : MItem w.heap.size w7 (.slice b94 (8 + n) c94) (pktF proto M.addr dst M.next d ol) := by
      have hzw : w2.heap.size = w.heap.size := by omega
      refine ⟨b94, c94, by rw [hpl], ?_, ?_⟩
      · rw [hpl]
        have e : U8 (pktF proto M.addr dst M.next d ol) = U8 [proto, 8, M.addr, dst, M.next, om', (n : Int), sum7 [proto, 8, M.addr, dst, M.next, om', (n : Int)]] ++ U8 ((d.drop (ol * 16)).take n) := by
          rw [hpk]
          unfold pkt
          rw [hdl]
          simp [U8]
        rw [e]
        exact hrow6.ext he7 (fun k _ hk => by cases hk)
      · rw [hpk]
        refine ⟨pkt_isB (by omega) ha (by omega) hn hmr (hsub.1) (by omega), fun k hk => ?_⟩
        rcases hb6 k hk with q1 | q1
        · simp [rowBlk] at q1
          omega
        · omega
    refine Vc.Append.mk (news := [.slice b94 (8 + n) c94]) hrow7 (CellsAt.own ho7 (fun j v hj => by simpa using hj)) rfl rfl rfl (by omega) (by omega) fun b96 c96 w8 hrow8 hE8 hb8 => ?_
    have E8 : Ext [] w2 w8 := (hE.trans E7).trans' hE8 (fun x hx hlt => by have := hfr x hx; omega)
    have hz7 := E7.size
    have hz8 := hE8.size
    have hno : ∀ k ∈ rowBlk ob, k < w7.heap.size → ∀ cs, ¬ Own w7 k cs 5 := fun k hk _ cs ho => by
      obtain ⟨cs', ho'⟩ := rowTy hrow7 hk
      exact Own.ne_type ho ho' (by decide) rfl
    have hvl : vs.length = ol := by have := hrow.1; omega
    have hit8 : ∀ i, i < ol + 1 → ∃ v, (vs ++ [Value.slice b94 (8 + n) c94])[i]? = some v ∧ MItem w.heap.size w8 v (pktF proto M.addr dst M.next d i) := fun i hi => by
      by_cases e : i = ol
      · subst e
        refine ⟨_, ?_, hitem.ext hE8 (fun k hk hlt _ => hno k hk hlt)⟩
        rw [List.getElem?_append_right (by omega), hvl]
        simp
      · obtain ⟨v, h1, h2⟩ := hit i (by omega)
        refine ⟨v, ?_, (h2.ext E7 (fun k hk => by cases hk)).ext hE8 (fun k hk hlt _ => hno k hk hlt)⟩
        rw [List.getElem?_append_left (by omega)]
        exact h1
    have hfr8 : ∀ k ∈ rowBlk b96, w2.heap.size ≤ k := fun k hk => by
      rcases hb8 k hk with q1 | q1
      · exact hfr k q1
      · omega
    refine Bm.mk (fun hz0 => ?_) (fun hz0 => ?_)
    · have ho0 : om = 0 := by simpa using hz0
      have hlast := hom0 ho0
      rw [← hlast] at hR'
      rw [hlast] at hit8
      exact hR' b96 c96 _ w8 hrow8 (fun k hk => by have := hfr8 k hk; omega) (by rw [hlast]; exact hit8) (hm2.ext0 E8) (E2.trans E8.nil)
    · have ho1 : om = 128 := by
        rcases hom with e | e
        · rw [e] at hz0; simp at hz0
        · exact e
      obtain ⟨q1, q2⟩ := hom1 ho1
      refine ⟨m - 1, by omega, by trivial, by trivial, by trivial, by trivial, by trivial, by trivial, by trivial, by omega, by omega, by omega, E8, hfr8, _, hrow8, hit8⟩
  unfold ipm_IP_Output.L1b
  have ew : IntKind.i64.wrap ((l : Int) - ((ol * 16 : Nat) : Int)) = (l : Int) - ((ol * 16 : Nat) : Int) := w64 (by omega) (by omega)
  rw [ew]
  have hcl : ol * 16 ≤ l := by
    obtain ⟨c1, c2, c3, c4⟩ := hcnt
    have : ol * 16 ≤ (cntF l - 1) * 16 := Nat.mul_le_mul_right _ (by omega)
    omega
  have hcd : cntF l = if l = 0 then 1 else (l + 15) / 16 := rfl
  have hpd : pktF proto M.addr dst M.next d ol = if ol + 1 < cntF d.length then pkt proto M.addr dst M.next (((ol * 16 + 128 : Nat)) : Int) ((d.drop (ol * 16)).take 16) else pkt proto M.addr dst M.next ((ol * 16 : Nat) : Int) (d.drop (ol * 16)) := rfl
  rw [hl] at hpd
  refine Bm.ite (fun hgt => ?_) (fun hgt => ?_)
  · have hlt : ol + 1 < cntF l := by rw [hcd]; split <;> omega
    rw [if_pos hlt] at hpd
    have hd16 : ((d.drop (ol * 16)).take 16).length = 16 := by rw [List.length_take, List.length_drop]; omega
    refine b3 16 128 (by rw [hpd, pkt_length, hd16]) (.inr rfl) (by rw [hpd]; congr 1) (by omega) (by omega) (by omega) (fun _ => ⟨hlt, rfl⟩)
  · have hge : ¬ ol + 1 < cntF l := by rw [hcd]; split <;> omega
    rw [if_neg hge] at hpd
    have hdl : (d.drop (ol * 16)).length = l - ol * 16 := by rw [List.length_drop, hl]
    have := b3 (l - ol * 16) 0 (by rw [hpd, pkt_length, hdl]; omega) (.inl rfl) (by
      rw [hpd, List.take_of_length_le (by omega)]
      congr 1) (by omega) (by omega) (by omega) (by omega)
    rwa [show ((l - ol * 16 : Nat) : Int) = (l : Int) - ((ol * 16 : Nat) : Int) by omega] at this
end Go.Proofs.Qxb6500425a
