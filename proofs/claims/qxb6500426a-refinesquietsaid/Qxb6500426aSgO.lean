/-
  seglaw: Play whole, Step, the walk and the two theorems.
-/
import Derived.Test.Qxb6500426aSgN
set_option linter.unusedVariables false
set_option linter.unusedSimpArgs false
open Go.Vc
namespace Go.Proofs.Qxb6500426a

section
variable {w0 w : World} {a : Nat} {σ : LawS} {qu : Bool} {N : Nat}
theorem flip_eq (x : Int) (c : Nat) : IntKind.u8.wrap ((BitVec.ofInt IntKind.u8.bits x ^^^ BitVec.ofInt IntKind.u8.bits (IntKind.u8.wrap ((1 : Int) * 2 ^ (min (IntKind.u64.wrap ((c : Int).tmod 8)).toNat IntKind.u8.bits)))).toNat : Int) = flipV x (c % 8) := by
  have e : (IntKind.u64.wrap ((c : Int).tmod 8)).toNat = c % 8 := by
    rw [tmod_pos _ (by omega), show (c : Int) % 8 = ((c % 8 : Nat) : Int) by omega, wu64 (by omega) (by omega), Int.toNat_natCast]
  rw [e]
  rfl
/-- A turned bit of the kept segment. -/
theorem playFlip_ok {o : OpV} {ob : Nat} {R : Bool → World → Prop} (h : LX w0 w a σ qu N) (hN : N ≤ 999999999) (oo : Own w ob (opArr o) T_api_Op) {c : Nat} (hc : o.c = (c : Int)) (hcw : o.c ≤ 9223372036854775807) (hlt : c / 8 < σ.LV.length)
    (hR : ∀ σ' w', LX w0 w' a σ' qu (N + 1) → R true w') : seglaw_World_Play.B3 (some ⟨a, 0, none⟩) ob false w R := by
  unfold seglaw_World_Play.B3
  have hlen : σ.LV.length = σ.ll := by have := h.at'.last.1.1; rw [U8_length] at this; omega
  have hok : EncOk σ.src σ.dst σ.sd σ.PV.length ∧ σ.LV = encSeg σ.src σ.dst σ.sd σ.PV := by
    rcases h.at'.good with e | e
    · rw [e] at hlt; simp at hlt
    · exact e
  have hLl : σ.LV.length ≤ 20 := by rw [hok.2, encSeg_len]; have := hok.1.n; omega
  refine Bm.neg rfl (Pn.mk (h.at'.ldLast (copyBytes_ok (row_rd h.at'.last.1 h.at'.last.2) hlen (by omega) fun k w1 hk hs1 hf1 he1 => ?_)))
  have ex1 : Ext [] w w1.drew := he1.trans (Ext.drew _ _)
  have h1 := h.ext0 ex1
  have oo1 := ex1.own oo (by simp)
  have hf1d := hf1.ext0 (Ext.drew [] w1)
  refine LdI.mk oo1 rfl ⟨by decide, ?_⟩
  have ed : IntKind.i64.wrap (o.c.tdiv 8) = ((c / 8 : Nat) : Int) := by
    rw [hc]
    show IntKind.i64.wrap (((c : Nat) : Int).tdiv ((8 : Nat) : Int)) = _
    rw [tdiv_nat, w64 (by omega) (by omega)]
  obtain ⟨x, hx⟩ := get_lt (L := σ.LV) (n := c / 8) hlt
  have hxb := h.at'.last.2.get hx
  show Pn (some ⟨k, 0, none⟩) fun a_1 => (0 ≤ IntKind.i64.wrap (o.c.tdiv 8) ∧ _) ∧ _
  rw [ed]
  refine Pn.mk ⟨⟨by omega, by omega⟩, LdI.cell (n := x) ?_ (LdI.mk oo1 rfl ⟨by decide, ?_, Pn.mk ⟨⟨by omega, by omega⟩, ?_⟩⟩)⟩
  · obtain ⟨kk, o', e, hcc⟩ := (hf1d.rd0).at hx
    simp only [Option.some.injEq, Addr.mk.injEq, and_true] at e
    obtain ⟨rfl, rfl⟩ := e
    rw [addr_k]
    exact hcc
  · show 0 ≤ IntKind.u64.wrap (o.c.tmod 8)
    rw [hc, tmod_pos _ (by omega), show (c : Int) % 8 = ((c % 8 : Nat) : Int) by omega, wu64 (by omega) (by omega)]
    omega
  · show Sts [.int .u8 (IntKind.u8.wrap ((BitVec.ofInt IntKind.u8.bits x ^^^ BitVec.ofInt IntKind.u8.bits (IntKind.u8.wrap ((1 : Int) * 2 ^ (min (IntKind.u64.wrap (o.c.tmod 8)).toNat IntKind.u8.bits)))).toNat : Int))] _ 0 w1.drew _
    rw [hc, flip_eq, addr_i]
    refine hf1d.set hlt (flipV_isB _ _) fun w2 hs2 hf2 he2 => ?_
    have ex2 : Ext [] w w2.drew := (ex1.trans' he2 (fun y hy hl => by simp at hy; omega)).trans (Ext.drew _ _)
    have h2 := h.ext0 ex2
    have oo2 := ex2.own oo (by simp)
    have rd2 : Rd w2.drew (some ⟨k, 0, none⟩) (σ.LV.set (c / 8) (flipV x (c % 8))) := (hf2.ext0 (Ext.drew [] w2)).rd0
    have herr : decErr σ.src σ.dst (σ.LV.set (c / 8) (flipV x (c % 8))) = 4 := by
      rw [hok.2]
      exact flip_err hok.1 (by rw [← hok.2]; exact hx) hxb (flipV_isB _ _) (flipV_ne hxb (by omega))
    have sl : (σ.LV.set (c / 8) (flipV x (c % 8))).length = σ.ll := by rw [List.length_set]; exact hlen
    have b7 : ∀ σ' w', LX w0 w' a σ' qu (N + 1) → seglaw_World_Play.B7 4 true w' R := fun σ' w' h' => by
      unfold seglaw_World_Play.B7
      exact Bm.pos rfl (hR σ' w' h')
    refine Pn.mk (h2.at'.ldSrc (Pn.mk (h2.at'.ldDst ⟨?_, ?_⟩)))
    · refine decode_ok h2 hN rd2 sl (by omega) fun σ' pb pl pc w3 h3 hkin _ _ _ _ _ => newSeg fun s w4 hs4 os he4 => ?_
      rw [herr]
      exact b7 σ' w4 (h3.ext0 he4)
    · refine New.mk fun s w3 e3 s3 o3 he3 => ⟨?_, ?_, ?_⟩
      · rw [add_mk]; exact (he3.own h2.at'.own (by simp)).cell rfl
      · rw [add_mk]; exact (he3.own h2.at'.own (by simp)).cell rfl
      · refine decode_ok (h2.ext0 he3) hN (rd2.ext0 he3) sl (by omega) fun σ' pb pl pc w4 h4 hkin _ _ _ hxt _ => ?_
        have o4 := hxt.own o3 (by decide)
        refine Sts.full (vs := ((decV σ.src σ.dst (σ.LV.set (c / 8) (flipV x (c % 8)))).1.cells pb pl pc).toList) o4 rfl rfl fun w5 hs5 o5 he5 => ?_
        rw [herr]
        refine b7 σ' w5 ⟨h4.at'.keep he5 (Tys.one o4) (fun q hq => by simp at hq; subst hq; decide), h4.kn, h4.jn, h4.ge, h4.ext.trans' he5 (fun y hy hl => ?_)⟩
        simp at hy
        have := h.ext.size
        have := ex2.size
        omega
theorem play_ok {o : OpV} {R : Bool → World → Prop} (h : LX w0 w a σ qu N) (hN : N ≤ 999999999) (hwf : o.Wf) (hR : ∀ σ' w', LX w0 w' a σ' qu (N + 1) → R true w') : seglaw_World_Play.Call (some ⟨a, 0, none⟩) o.k o.a o.b o.c o.s o.t w R := by
  apply seglaw_World_Play.sound
  unfold seglaw_World_Play.B0
  refine New.mk fun ob w1 e1 s1 o1 he1 => ?_
  have oo : Own w1 ob (opArr o) T_api_Op := o1
  have h1 := h.ext0 he1
  have hd := h1.ext0 (Ext.drew [] w1)
  have ood : Own w1.drew ob (opArr o) T_api_Op := oo
  have hs := h.at'.sok
  have hr := h.at'.rok
  have hsz := hwf.s
  have hls := strB_length o.s
  have hBs := strB_isB o.s
  have up : ∀ σ' w', LX w0 w' a σ' qu N → R true w' := fun σ' w' h' => hR σ' w' (h'.mono (by omega))
  have zz := h.ext.size
  have z1 := he1.size
  refine LdI.mk oo rfl ?_
  refine Bm.mk (fun _ => (playDraft_ok hd ood up).1) fun _ => ?_
  refine Bm.mk (fun _ => (playDraft_ok hd ood up).2.1) fun _ => ?_
  refine Bm.mk (fun _ => (playDraft_ok h1 oo up).2.2) fun _ => ?_
  -- Encode
  refine Bm.mk (fun _ => Pn.mk (h1.at'.ldDraft (newSeg fun sa w2 hsa oa he2 => ?_))) fun _ => ?_
  · refine LdS.mk (he2.own oo (by simp)) rfl (toBytes_ok fun k1 c1 w3 z1' hc1 hk1 hs3 hf1 he3 => ?_)
    have oa3 := he3.own oa (by simp)
    refine Sts.mk oa3 (by simp [Hd.cells]) rfl fun w4 hs4 oa4' he4 => ?_
    have oa4 : Own w4 sa (σ.dr.cells (some ⟨k1, 0, none⟩) o.s.size c1) T_api_Segment := oa4'
    have ex4 : Ext [] w1 w4 := (he2.trans he3).trans' he4 (fun y hy hl => by simp at hy; omega)
    have tsa : Tys w3 [sa] [T_api_Segment] := Tys.one oa3
    have hf14 : Bf w4 k1 (strB o.s ++ z1') := ⟨ownT he4 tsa hf1.1 (by decide), hf1.2⟩
    have h4 := h1.ext0 ex4
    refine Pn.mk (h4.at'.ldDraft (newSeg fun sb w5 hsb ob5 he5 => LdS.mk ((ex4.trans he5).own oo (by simp)) rfl (toBytes_ok fun k2 c2 w6 z2' hc2 hk2 hs6 hf2 he6 => ?_)))
    have ob6 := he6.own ob5 (by simp)
    refine Sts.mk ob6 (by simp [Hd.cells]) rfl fun w7 hs7 ob7' he7 => ?_
    have ob7 : Own w7 sb (σ.dr.cells (some ⟨k2, 0, none⟩) o.s.size c2) T_api_Segment := ob7'
    have tsb : Tys w6 [sb] [T_api_Segment] := Tys.one ob6
    have z4 := ex4.size
    have z5 := he5.size
    have ex47 : Ext [] w4 w7 := (he5.trans he6).trans' he7 (fun y hy hl => by simp at hy; omega)
    have ex7 : Ext [] w1 w7 := ex4.trans ex47
    have hf17 := hf14.ext0 ex47
    have hf27 : Bf w7 k2 (strB o.s ++ z2') := ⟨ownT he7 tsb hf2.1 (by decide), hf2.2⟩
    have oa7 := ex47.own oa4 (by simp)
    have oo7 := ex7.own oo (by simp)
    have h7 := h1.ext0 ex7
    have k1lt := hf14.lt
    refine LdI.mk oo7 rfl (LdI.mk oo7 rfl (ldSeg oa7 ?_))
    have rest : ∀ (e : Int) (ab bb : Option Addr) (al ac bl bc : Nat) (w9 : World), e = encErr o.a o.b σ.dr o.s.size → Ext [] w7 w9 → (∀ y, y = k1 → y ∉ rowBlk bb) →
        ((e ≠ 0 ∧ ab = none ∧ al = 0 ∧ ac = 0 ∧ bb = none ∧ bl = 0) ∨ (e = 0 ∧ EncOk o.a o.b σ.dr o.s.size ∧ ∃ k, ab = some ⟨k, 0, none⟩ ∧ al = 8 + o.s.size ∧ ac = 8 + o.s.size ∧ w7.heap.size ≤ k ∧ k ∉ rowBlk bb ∧ Bf w9 k (encSeg o.a o.b σ.dr (strB o.s)) ∧ bl = 8 + o.s.size ∧ Row w9 bb bl bc 1 T_uint8 (U8 (encSeg o.a o.b σ.dr (strB o.s))))) →
        LdL ⟨sa, 6, none⟩ w9 fun xb xl xc => seglaw_Scribble.Call xb xl xc w9 fun w18 => Bm (e != e) (seglaw_World_Play.B1 (some ⟨a, 0, none⟩) ob sb ab al ac e bb bl bc true w18 R) (api_SameBytes.Call ab al ac bb bl bc w18 fun r127 w19 => seglaw_World_Play.B1 (some ⟨a, 0, none⟩) ob sb ab al ac e bb bl bc (!r127) w19 R) := by
      intro e ab bb al ac bl bc w9 he hx9 hkb hcase
      have oa9 := hx9.own oa7 (by simp)
      have hf19 := hf17.ext0 hx9
      have h9 := h7.ext0 hx9
      refine LdL.mk oa9 rfl (scribble_ok hf19 (by rw [List.length_append]; omega) (by omega) fun w10 hs10 _ he10 => Bm.neg (by simp) ?_)
      have tk : Tys w9 [k1] [T_uint8] := Tys.one hf19.1
      have kn1 : KNot k1 σ := h1.at'.fresh (by have := he2.size; omega)
      have h10 := h9.u8 hf19.1 kn1 (by have := he2.size; omega) he10
      have oo10 := ownT he10 tk (hx9.own oo7 (by simp)) (by decide)
      have ob10 := ownT he10 tk (hx9.own ob7 (by simp)) (by decide)
      have k12 : k2 ≠ k1 := by have := hf14.lt; omega
      have hf210 := (hf27.ext0 hx9).ext he10 (by simpa using k12)
      rcases hcase with ⟨hne, rfl, rfl, rfl, rfl, rfl⟩ | ⟨hz, hok, k, rfl, rfl, rfl, hk7, hkbb, hfk, rfl, hrow⟩
      · refine sameBytes_ok (u := []) (v := []) (Rd.nil _ _) (Rd.nil _ _) rfl rfl (by omega) fun w11 he11 _ => ?_
        rw [decide_eq_true rfl]
        exact playEnc_ok (k1 := k1) (z1 := z1') (h10.ext0 he11) hN (he11.own oo10 (by simp)) (he11.own ob10 (by simp)) hc2 (hf210.ext0 he11) he (.inl ⟨hne, rfl, rfl, rfl⟩) hR
      · have hokD : EncOk o.a o.b σ.dr (strB o.s).length := by rw [hls]; exact hok
        have kk1 : k ≠ k1 := by have := hf17.lt; omega
        have hfk10 := hfk.ext he10 (by simpa using kk1)
        have hrow10 := hrow.ext he10 (fun y hy hx => by simp at hx; exact hkb y hx hy)
        have hn12 := hok.n
        refine sameBytes_ok hfk10.rd0 (row_rd hrow10 (hokD.isB hBs)) (by rw [encSeg_len, hls]) (by rw [encSeg_len, hls]) (by omega) fun w11 he11 _ => ?_
        rw [decide_eq_true rfl]
        have kk2 : k ≠ k2 := by have := hf27.lt; omega
        exact playEnc_ok (k1 := k1) (z1 := z1') (h10.ext0 he11) hN (he11.own oo10 (by simp)) (he11.own ob10 (by simp)) hc2 (hf210.ext0 he11) he (.inr ⟨hz, hok, k, rfl, rfl, rfl, by have := ex7.size; omega, h7.at'.fresh hk7, hkbb, kk2, hfk10.ext0 he11, rfl, hrow10.ext he11 (fun _ _ h => by cases h)⟩) hR
    refine realEncode_ok (D := strB o.s) hf17.rd hls (fun hne w8 he8 => ?_) fun hok hz k w8 hk hfk he8 => ?_
    · refine LdI.mk (he8.own oo7 (by simp)) rfl (LdI.mk (he8.own oo7 (by simp)) rfl (ldSeg (he8.own ob7 (by simp)) ?_))
      refine modEncode_ok (D := strB o.s) (hf27.ext0 he8).rd hls (fun _ w9 he9 => ?_) fun _ hc => absurd hc hne
      exact rest _ none none 0 0 0 0 w9 rfl (he8.trans he9) (fun y _ => by simp [rowBlk]) (.inl ⟨hne, rfl, rfl, rfl, rfl, rfl⟩)
    · refine LdI.mk (he8.own oo7 (by simp)) rfl (LdI.mk (he8.own oo7 (by simp)) rfl (ldSeg (he8.own ob7 (by simp)) ?_))
      refine modEncode_ok (D := strB o.s) (hf27.ext0 he8).rd hls (fun hne => absurd hz hne) fun _ _ bb bc w9 hrow hfr he9 => ?_
      have := rest (encErr o.a o.b σ.dr o.s.size) (some ⟨k, 0, none⟩) bb (8 + o.s.size) (8 + o.s.size) (8 + o.s.size) bc w9 rfl (he8.trans he9) (fun y hy hx => by have := hfr y hx; have := he8.size; have := hf17.lt; omega) (.inr ⟨hz, hok, k, rfl, rfl, rfl, hk, fun hx => by have := hfr k hx; have := hfk.lt; omega, hfk.ext0 he9, rfl, hrow⟩)
      rw [hz] at this
      exact this
  -- Decode
  refine Bm.mk (fun _ => LdI.mk oo rfl (LdI.mk oo rfl (LdS.mk oo rfl (toBytes_ok fun k c w2 z hc hk hs2 hf he2 => ?_)))) fun _ => ?_
  · refine decode_ok (h1.ext0 he2) hN hf.rd hls (by omega) fun σ' pb pl pc w3 h3 hkin _ _ _ _ _ => newSeg fun s w4 hs4 os he4 => hR σ' w4 (h3.ext0 he4)
  -- DecodeLast
  refine Bm.mk (fun _ => LdI.mk ood rfl (LdI.mk ood rfl (Pn.mk (hd.at'.ldLast ⟨?_, ?_⟩)))) fun _ => ?_
  · have hlen : σ.LV.length = σ.ll := by have := h.at'.last.1.1; rw [U8_length] at this; omega
    have hb : σ.ll ≤ 281474976710656 := by
      rcases h.at'.good with e | e
      · rw [e] at hlen; simp at hlen; omega
      · have := encSeg_len σ.src σ.dst σ.sd σ.PV
        rw [← e.2] at this
        have := e.1.n
        omega
    refine decode_ok hd hN (row_rd hd.at'.last.1 hd.at'.last.2) hlen hb fun σ' pb pl pc w3 h3 hkin hrd hpl hpl2 hxt _ => newSeg fun s w4 hs4 os he4 => ?_
    exact playLast_ok (h3.ext0 he4) hkin (he4.own (hxt.own ood (by decide)) (by simp)) os (hrd.ext0 he4) hpl hpl2 fun w5 he5 => hR σ' w5 ((h3.ext0 he4).ext0 he5)
  · have hlen : σ.LV.length = σ.ll := by have := h.at'.last.1.1; rw [U8_length] at this; omega
    have hb : σ.ll ≤ 281474976710656 := by
      rcases h.at'.good with e | e
      · rw [e] at hlen; simp at hlen; omega
      · have := encSeg_len σ.src σ.dst σ.sd σ.PV
        rw [← e.2] at this
        have := e.1.n
        omega
    refine New.mk fun s w3 e3 s3 o3 he3 => ⟨?_, (he3.own ood (by simp)).cell rfl, (he3.own ood (by simp)).cell rfl, ?_⟩
    · rw [add_mk]; exact (he3.own hd.at'.own (by simp)).cell rfl
    · have h3 := hd.ext0 he3
      refine decode_ok h3 hN (row_rd h3.at'.last.1 h3.at'.last.2) hlen hb fun σ' pb pl pc w4 h4 hkin hrd hpl hpl2 hxt hpf => ?_
      have o4 := hxt.own o3 (by decide)
      refine Sts.full (vs := ((decV o.a o.b σ.LV).1.cells pb pl pc).toList) o4 rfl rfl fun w5 hs5 o5 he5 => ?_
      have t4 : Tys w4 [s] [T_api_Segment] := Tys.one o4
      have h5 : LX w0 w5 a σ' qu (N + 1) := ⟨h4.at'.keep he5 t4 (fun q hq => by simp at hq; subst hq; decide), h4.kn, h4.jn, h4.ge, h4.ext.trans' he5 (fun y hy hl => by simp at hy; have : w1.drew.heap.size = w1.heap.size := rfl; omega)⟩
      refine playLast_ok h5 hkin (ownT he5 t4 (hxt.own (he3.own ood (by simp)) (by decide)) (by decide)) o5 (hrd.ext he5 (fun q o' e hx => ?_)) hpl hpl2 fun w6 he6 => hR σ' w6 (h5.ext0 he6)
      simp at hx
      have := hpf q o' e
      have := o3.lt
      omega
  -- FlipLast
  refine Bm.mk (fun _ => LdI.mk ood rfl ?_) fun _ => ?_
  · have no : seglaw_World_Play.B3 (some ⟨a, 0, none⟩) ob true w1.drew R := by
      unfold seglaw_World_Play.B3
      exact Bm.pos rfl (up σ _ hd)
    have hcw := hwf.c
    refine Bm.ite (fun _ => no) fun hneg => LdI.mk ood rfl ⟨by decide, Pn.mk (hd.at'.ldLast ?_)⟩
    obtain ⟨c, hc⟩ : ∃ c : Nat, o.c = (c : Int) := ⟨o.c.toNat, by have : ¬ o.c < 0 := hneg; omega⟩
    have ed : IntKind.i64.wrap (o.c.tdiv 8) = ((c / 8 : Nat) : Int) := by
      rw [hc]
      show IntKind.i64.wrap (((c : Nat) : Int).tdiv ((8 : Nat) : Int)) = _
      rw [tdiv_nat, w64 (by omega) (by omega)]
    show seglaw_World_Play.B3 (some ⟨a, 0, none⟩) ob (decide (IntKind.i64.wrap (o.c.tdiv 8) ≥ ((σ.ll : Nat) : Int))) w1.drew R
    rw [ed]
    have hlen : σ.LV.length = σ.ll := by have := h.at'.last.1.1; rw [U8_length] at this; omega
    by_cases hge : ((c / 8 : Nat) : Int) ≥ ((σ.ll : Nat) : Int)
    · rw [decide_eq_true hge]; exact no
    · rw [decide_eq_false hge]
      exact playFlip_ok hd hN ood hc hcw.2 (by omega) hR
  have own1 : ∀ {w' : World}, Ext [σ.x] w1.drew w' → Own w' a (σ.cells qu) T_seglaw_World ∧ Own w' ob (opArr o) T_api_Op ∧ SM w' σ.s σ.db σ.dl σ.dc σ.Sb := fun {w'} he => by
    obtain ⟨X, x1, _⟩ := hd.at'.sx
    have t1 : Tys w1.drew [σ.x] [T_seg_SendBuf] := Tys.one x1
    exact ⟨ownT he t1 hd.at'.own (by decide), ownT he t1 ood (by decide), ⟨ownT he t1 hd.at'.sm.own (by decide), rowT hd.at'.sm.row he t1 (by decide)⟩⟩
  have own2 : ∀ {w' : World}, Ext [σ.r] w1.drew w' → Own w' a (σ.cells qu) T_seglaw_World ∧ Own w' ob (opArr o) T_api_Op ∧ RM w' σ.m σ.eb σ.el σ.ec σ.Rb := fun {w'} he => by
    obtain ⟨X, x1, _⟩ := hd.at'.rx
    obtain ⟨hff, vf, r1, r2⟩ := hd.at'.rm.own
    have t1 : Tys w1.drew [σ.r] [T_seg_RecvBuf] := Tys.one x1
    exact ⟨ownT he t1 hd.at'.own (by decide), ownT he t1 ood (by decide), ⟨⟨hff, vf, ownT he t1 r1 (by decide), r2⟩, rowT hd.at'.rm.row he t1 (by decide)⟩⟩
  -- SReset
  refine Bm.mk (fun _ => Pn.mk (hd.at'.ldX (LdI.mk ood rfl (sReset_ok hd.at'.sx fun w2 h2 he2 => Pn.mk ?_)))) fun _ => ?_
  · have he2d := he2.trans (Ext.drew [σ.x] w2)
    obtain ⟨q1, q2, q3⟩ := own1 he2d
    rw [add_mk]
    refine LdP.mk q1 rfl (LdI.mk q2 rfl (mReset_ok q3 fun db' dl' dc' w3 h3 he3 _ => ?_))
    exact up _ w3 (hd.send (resetS_ok _) (h2.ext0 (Ext.drew [] _)) he2d h3 he3)
  -- Put
  refine Bm.mk (fun _ => LdS.mk oo rfl (toBytes_ok fun k1 c1 w2 z1' hc1 hk1 hs2 hf1 he2 => LdS.mk (he2.own oo (by simp)) rfl (toBytes_ok fun k2 c2 w3 z2' hc2 hk2 hs3 hf2 he3 => Pn.mk ?_))) fun _ => ?_
  · have ex3 := he2.trans he3
    have h3 := h1.ext0 ex3
    have f13 := hf1.ext0 he3
    obtain ⟨X, x1, _⟩ := h3.at'.sx
    have t1 : Tys w3 [σ.x] [T_seg_SendBuf] := Tys.one x1
    refine h3.at'.ldX (sPut_ok (P := strB o.s) h3.at'.sx hs (fun w' he => Bf.rd ⟨ownT he t1 f13.1 (by decide), f13.2⟩) hls (by omega) (by omega) fun w4 h4 he4 => Pn.mk ?_)
    have q1 := ownT he4 t1 h3.at'.own (by decide)
    have q3 : SM w4 σ.s σ.db σ.dl σ.dc σ.Sb := ⟨ownT he4 t1 h3.at'.sm.own (by decide), rowT h3.at'.sm.row he4 t1 (by decide)⟩
    have f24 : Bf w4 k2 (strB o.s ++ z2') := ⟨ownT he4 t1 hf2.1 (by decide), hf2.2⟩
    rw [add_mk]
    refine LdP.mk q1 rfl (mPut_ok q3 hs f24.rd hls (by omega) fun db' dl' dc' w5 h5 he5 hb5 => ?_)
    have hL := h3.send (putA_ok hs hBs) h4 he4 h5 he5
    have t4 : Tys w4 [σ.s] [T_segm_SendBuf] := Tys.one q3.own
    have f15 : Bf w5 k1 (strB o.s ++ z1') := ⟨ownT he5 t4 (ownT he4 t1 f13.1 (by decide)) (by decide), f13.2⟩
    have kn := h1.at'.fresh (k := k1) (by omega)
    refine scribble_ok f15 (by rw [List.length_append]; omega) (by omega) fun w6 hs6 _ he6 => ?_
    rw [beq_self_eq_true]
    refine up _ w6 (hL.u8 f15.1 ⟨fun hx => ?_, kn.e, kn.l, kn.p, kn.v⟩ (by omega) he6)
    rcases hb5 k1 hx with q | q
    · exact kn.d q
    · have := he4.size
      have := f13.lt
      omega
  -- Next
  refine Bm.mk (fun _ => Pn.mk (hd.at'.ldX (LdI.mk ood rfl (sNext_ok hd.at'.sx hs fun k1 w2 hk1 hf1 h2 he2 => Pn.mk ?_)))) fun _ => ?_
  · have he2d := he2.trans (Ext.drew [σ.x] w2)
    obtain ⟨q1, q2, q3⟩ := own1 he2d
    have hn := leastN_le o.a (σ.Sb.D.length - σ.Sb.sent)
    have hl := hs.len
    rw [add_mk]
    refine LdP.mk q1 rfl (LdI.mk q2 rfl (mNext_ok q3 hs fun k2 w3 hk2 hf2 h3 he3 => Bm.neg (by simp) ?_))
    have hL := hd.send (nextA_ok hs o.a) (h2.ext0 (Ext.drew [] _)) he2d h3 he3
    have t3 : Tys w2.drew [σ.s] [T_segm_SendBuf] := Tys.one q3.own
    have f13 : Bf w3 k1 _ := ⟨ownT he3 t3 (hf1.ext0 (Ext.drew [] w2)).1 (by decide), hf1.2⟩
    have kn := hd.at'.fresh hk1
    have dz : w1.drew.heap.size = w1.heap.size := rfl
    refine sameBytes_ok f13.rd0 hf2.rd0 (by simp; omega) (by simp; omega) (by omega) fun w4 he4 _ => ?_
    rw [decide_eq_true rfl]
    unfold seglaw_World_Play.B4
    refine Bm.neg rfl (lawOwn_ok (hL.ext0 he4) hN (f13.ext0 he4) ⟨kn.d, kn.e, kn.l, kn.p, kn.v⟩ (by omega) (by simp; omega) (by omega) fun σ' w5 h5 _ _ => hR σ' w5 h5)
  -- Again
  refine Bm.mk (fun _ => LdI.mk oo rfl (likeAgain_ok h1 hN fun σ' w2 h2 _ _ => hR σ' w2 h2)) fun _ => ?_
  -- Ack
  refine Bm.mk (fun _ => LdI.mk oo rfl (ack_ok h1 up)) fun _ => ?_
  -- RReset
  refine Bm.mk (fun _ => Pn.mk (hd.at'.ldR (LdI.mk ood rfl (rReset_ok hd.at'.rx fun w2 h2 he2 => Pn.mk ?_)))) fun _ => ?_
  · have he2d := he2.trans (Ext.drew [σ.r] w2)
    obtain ⟨q1, q2, q3⟩ := own2 he2d
    rw [add_mk]
    refine LdP.mk q1 rfl (LdI.mk q2 rfl (mrReset_ok q3 fun db' dl' dc' w3 h3 he3 _ => ?_))
    exact up _ w3 (hd.recv (resetR_ok _) (h2.ext0 (Ext.drew [] _)) he2d h3 he3)
  -- Insert
  refine Bm.mk (fun _ => LdI.mk oo rfl (LdS.mk oo rfl (toBytes_ok fun k c w2 z hc hk hs2 hf he2 => insert_ok (h1.ext0 he2) hf.rd hls (by omega) fun σ' w3 h3 _ => up σ' w3 h3))) fun _ => ?_
  -- Read
  refine Bm.mk (fun _ => Pn.mk (hd.at'.ldR (LdI.mk ood rfl (rRead_ok hd.at'.rx hr.toRbW fun k1 w2 hk1 hf1 h2 he2 => Pn.mk ?_)))) fun _ => ?_
  · have he2d := he2.trans (Ext.drew [σ.r] w2)
    obtain ⟨q1, q2, q3⟩ := own2 he2d
    have hn := leastN_le o.a σ.Rb.A.length
    have hl := hr.len
    rw [add_mk]
    refine LdP.mk q1 rfl (LdI.mk q2 rfl (mrRead_ok q3 hr.toRbW fun k2 hk2 db' dl' dc' w3 h3 he3 hb3 hf2 => ?_))
    have hL := hd.recv (readA_ok hr o.a) (h2.ext0 (Ext.drew [] _)) he2d h3 he3
    obtain ⟨hff, vf, r1, r2⟩ := q3.own
    have t3 : Tys w2.drew [σ.m] [T_segm_RecvBuf] := Tys.one r1
    have f13 : Bf w3 k1 _ := ⟨ownT he3 t3 (hf1.ext0 (Ext.drew [] w2)).1 (by decide), hf1.2⟩
    have kn := hd.at'.fresh hk1
    have dz : w1.drew.heap.size = w1.heap.size := rfl
    have dz2 : w2.drew.heap.size = w2.heap.size := rfl
    refine sameBytes_ok f13.rd0 hf2.rd0 (by simp; omega) (by simp; omega) (by omega) fun w4 he4 _ => ?_
    rw [decide_eq_true rfl]
    refine Bm.neg rfl (lawOwn_ok (hL.ext0 he4) hN (f13.ext0 he4) ⟨kn.d, fun hx => ?_, kn.l, kn.p, kn.v⟩ (by omega) (by simp; omega) (by omega) fun σ' w5 h5 _ _ => hR σ' w5 h5)
    rcases hb3 k1 hx with q | q
    · exact kn.e q
    · have := hf1.lt
      omega
  -- Shuttle
  refine Bm.mk (fun _ => LdI.mk oo rfl (likeAgain_ok h1 hN fun σ1 w2 h2 hkin hxt => Bm.neg rfl (Pn.mk ?_))) fun _ => ?_
  · have h2d := h2.ext0 (Ext.drew [] w2)
    have oo2 : Own w2.drew ob (opArr o) T_api_Op := hxt.own oo (by decide)
    have hsl := h2.at'.sok.len
    have hss := h2.at'.sok.sent
    have hn := leastN_le o.a σ1.Sb.sent
    refine h2d.at'.ldS (LdI.mk oo2 rfl (mAgain_ok h2d.at'.sm h2d.at'.sok fun k w3 hk hf he3 => insert_ok (h2d.ext0 he3) hf.rd0 (by simp; omega) (by omega) fun σ3 w4 h4 _ => Bm.neg rfl (Pn.mk (h4.at'.ldM (mrNxt_ok h4.at'.rm (ack_ok h4 fun σ5 w5 h5 => hR σ5 w5 h5))))))
  exact LdI.mk oo rfl (see_ok h1 hN fun σ' w2 h2 _ => hR σ' w2 h2)
theorem step_ok {o : OpV} {R : Bool → World → Prop} (h : LX w0 w a σ qu N) (hN : N ≤ 800000000) (hwf : o.Wf) (hR : ∀ σ' w', LX w0 w' a σ' qu (N + 15) → R true w') : seglaw_World_Step.Call (some ⟨a, 0, none⟩) o.k o.a o.b o.c o.s o.t w R := by
  apply seglaw_World_Step.sound
  unfold seglaw_World_Step.B0
  refine New.mk fun ob w1 e1 s1 o1 he1 => ?_
  have oo : Own w1 ob (opArr o) T_api_Op := o1
  refine LdI.mk oo rfl (LdI.mk oo rfl (LdI.mk oo rfl (LdI.mk oo rfl (LdS.mk oo rfl (LdS.mk oo rfl (play_ok (h.ext0 he1) (Nat.le_trans hN (by decide)) hwf fun σ2 w2 h2 => Bm.neg rfl (keeps_ok h2 fun w3 he3 => Bm.neg rfl (Pn.mk ?_))))))))
  have h3 := h2.ext0 he3
  rw [add_mk]
  refine LdB.mk h3.at'.own rfl (Bm.mk (fun _ => hR σ2 w3 (h3.mono (by omega))) fun _ => alike_ok h3 (by omega) fun σ4 w4 h4 _ => hR σ4 w4 (h4.mono (by omega)))
end
def H0 : Hd := ⟨0, 0, 0, 0, 0, 0⟩
def σ0 (x s r m : Nat) : LawS := ⟨x, s, r, m, H0, none, 0, 0, [], H0, none, 0, 0, [], 0, 0, none, 0, 0, [], none, 0, 0, [], none, 0, 0, none, 0, 0, S0s, R0s⟩
theorem newWorld_ok {w : World} {qu : Bool} {R : Option Addr → World → Prop} (hR : ∀ a σ w', LX w w' a σ qu 0 → R (some ⟨a, 0, none⟩) w') : seglaw_NewWorld.Call qu w R := by
  apply seglaw_NewWorld.sound
  unfold seglaw_NewWorld.B0
  refine New.mk fun a w1 e1 s1 o1 he1 => sNew_ok fun x w2 hx h2 he2 => Sts.mk (he2.own o1 (by simp)) (by simp) rfl fun w3 hs3 o3 he3 => mNew_ok fun s w4 hs h4 he4 => Sts.mk (he4.own o3 (by simp)) (by rw [size_putArr]; simp) rfl fun w5 hs5 o5 he5 => rNew_ok fun r w6 hr h6 he6 => Sts.mk (he6.own o5 (by simp)) (by rw [size_putArr, size_putArr]; simp) rfl fun w7 hs7 o7 he7 => mrNew_ok fun m w8 hm h8 he8 => Sts.mk (he8.own o7 (by simp)) (by rw [size_putArr, size_putArr, size_putArr]; simp) rfl fun w9 hs9 o9 he9 => ?_
  have z1 := he1.size
  have z2 := he2.size
  have z4 := he4.size
  have z6 := he6.size
  have z8 := he8.size
  have e39 : Ext [a] w2 w9 := (((he3.trans (he4.nil.trans he5)).trans (he6.nil.trans he7)).trans (he8.nil.trans he9))
  have e59 : Ext [a] w4 w9 := ((he5.trans (he6.nil.trans he7)).trans (he8.nil.trans he9))
  have e79 : Ext [a] w6 w9 := he7.trans (he8.nil.trans he9)
  have al := o1.lt
  refine hR a (σ0 x s r m) w9 ⟨⟨o9, h2.ext e39 (by simp; omega), h4.ext e59 (fun k hk hx => by simp [rowBlk] at hk hx; omega), S0s_ok, h6.ext e79 (by simp; omega), h8.ext he9 (fun k hk hx => by simp [rowBlk] at hk hx; omega), R0s_ok, ⟨Row.nil _ _ _, IsB.nil⟩, ⟨Row.nil _ _ _, IsB.nil⟩, .inl rfl, Row.nil _ _ _, fun j v hv => (by simp [σ0] at hv), Row.nil _ _ _, fun j v hv => (by simp [σ0] at hv)⟩, Nat.le_refl _, Nat.le_refl _, fun k hk => ?_, ?_⟩
  · unfold foot σ0 at hk
    simp [rowBlk] at hk
    omega
  · exact (he1.trans he2).trans' e39 (fun y hy hl => by simp at hy; omega)
theorem walk_ok {w : World} {sb : Option Addr} {n c : Nat} {ops : Nat → OpV} {quiet : Bool} {R : Int → Int → World → Prop} (hs : ScriptIs w sb n ops) (hR : ∀ k w', Ext [] w w' → R (-1) k w') : seglaw_walk.Call sb n c quiet w R := by
  apply seglaw_walk.sound
  unfold seglaw_walk.B0
  have hnn := hs.1
  refine newWorld_ok fun a τ w3 hD => ?_
  have main : ∀ τ w4, LX w w4 a τ quiet 15 → seglaw_walk.B1 sb n c (some ⟨a, 0, none⟩) w4 R := by
    intro τ w4 hd4
    unfold seglaw_walk.B1 seglaw_walk.L1
    refine ⟨fun mm sb' n' c' a' i w' => ∃ (j : Nat) (σ : LawS), sb = sb' ∧ n = n' ∧ c = c' ∧ some ⟨a, 0, none⟩ = a' ∧ i = (j : Int) ∧ j ≤ n ∧ j ≤ 1048576 ∧ mm = n - j ∧ LX w w' a σ quiet (15 * j + 15), _,
      ⟨0, τ, rfl, rfl, rfl, rfl, rfl, by omega, by omega, rfl, hd4⟩, ?_⟩
    rintro mm sb' n' c' a' i w' ⟨j, σ, rfl, rfl, rfl, rfl, hij, j1, j2, rfl, hd⟩
    unfold seglaw_walk.L1b
    have stop : ∀ tt : Bool, tt = false → ∀ N1, seglaw_walk.B2 sb n c (some ⟨a, 0, none⟩) i tt w' N1 R := by
      intro tt htt N1
      unfold seglaw_walk.B2
      have b4 : ∀ q : Int, seglaw_walk.B3 (some ⟨a, 0, none⟩) q w' R := fun q => by
        unfold seglaw_walk.B3
        exact untouched_ok hd (by omega) fun w5 he5 => Bm.neg rfl (hR _ w5 (hd.ext.trans he5))
      generalize (decide (((n : Nat) : Int) > 1048576)) = bb
      generalize (1048576 : Int) = big
      exact Bm.neg htt (Bm.mk (fun _ => b4 _) fun _ => b4 _)
    by_cases hi : i < (n : Int)
    rotate_left
    · generalize hf : false = ff
      exact Bm.neg (decide_eq_false hi) (stop ff hf.symm _)
    refine Bm.pos (decide_eq_true hi) ?_
    by_cases hi2 : i < 1048576
    rotate_left
    · exact stop _ (decide_eq_false hi2) _
    rw [decide_eq_true hi2]
    unfold seglaw_walk.B2
    subst hij
    obtain ⟨y, hy, hop⟩ := hs.2 j (by omega)
    subst hy
    have he : Ext [] w w' := hd.ext
    have ldI : ∀ {w' : World} {a : Addr} {v : Int} {K : Int → Prop}, Ext [] w w' → a.block < w.heap.size → w.cell? a = some (.int .i64 v) → K v → LdI .i64 a w' K := fun he hb hc hk => LdI.cell (by rw [he.cell hb (by simp)]; exact hc) hk
    have ldS : ∀ {w' : World} {a : Addr} {v : ByteArray} {K : ByteArray → Prop}, Ext [] w w' → a.block < w.heap.size → w.cell? a = some (.string v) → K v → LdS a w' K := fun he hb hc hk => LdS.cell (by rw [he.cell hb (by simp)]; exact hc) hk
    have hblk := hop.blk
    have hbk : ∀ k, ((y.add (j * 6)).add k).block < w.heap.size := fun k => by
      have : ((y.add (j * 6)).add k).block = (y.add (j * 6)).block := by
        unfold Addr.add
        split <;> (split <;> rfl)
      omega
    refine Bm.pos rfl (Pn.mk ⟨⟨by omega, by omega⟩, ?_⟩)
    rw [Int.toNat_natCast]
    refine ldI he hblk hop.k (ldI he (hbk 1) hop.a (ldI he (hbk 2) hop.b (ldI he (hbk 3) hop.c (ldS he (hbk 4) hop.s (ldS he (hbk 5) hop.t (step_ok hd (by omega) hop.wf fun σ' w5 h5 => Bm.neg rfl ?_))))))
    exact ⟨n - (j + 1), by omega, j + 1, σ', rfl, rfl, rfl, rfl, by rw [w64 (by omega) (by omega)]; omega, by omega, by omega, rfl, h5.mono (by omega)⟩
  exact Bm.mk (fun _ => alike_ok hD (by omega) fun σ4 w4 h4 _ => Bm.neg rfl (main σ4 w4 (h4.mono (by omega)))) fun _ => main τ w3 (hD.mono (by omega))
theorem refines_law {w : World} {sb : Option Addr} {n c : Nat} {ops : Nat → OpV} (hs : ScriptIs w sb n ops) {R : Bool → World → Prop} (hR : ∀ w', Ext [] w w' → R true w') : seglaw_Refines.Call sb n c w R := by
  apply seglaw_Refines.sound
  unfold seglaw_Refines.B0
  apply seglaw_RefinesUpTo.sound
  unfold seglaw_RefinesUpTo.B0
  exact walk_ok hs fun m w' he => hR w' he
theorem refinesQuiet_law {w : World} {sb : Option Addr} {n c : Nat} {ops : Nat → OpV} (hs : ScriptIs w sb n ops) {R : Bool → World → Prop} (hR : ∀ w', Ext [] w w' → R true w') : seglaw_RefinesQuiet.Call sb n c w R := by
  apply seglaw_RefinesQuiet.sound
  unfold seglaw_RefinesQuiet.B0
  apply seglaw_RefinesQuietUpTo.sound
  unfold seglaw_RefinesQuietUpTo.B0
  exact walk_ok hs fun m w' he => hR w' he
end Go.Proofs.Qxb6500426a
