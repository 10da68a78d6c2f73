/-
  node: the format's paper: api.EncodeMsg, api.DecodeMsg.
-/
import Derived.Test.Qxb6500430aGreatNdC
set_option linter.unusedVariables false
set_option linter.unusedSimpArgs false
open Go.Vc
namespace Go.Proofs.Qxb6500430aGreat
open Kv
section
variable {w0 w w' : World} {v : List Int} {m : MsgV} {b : Option Addr} {l ll c : Nat} {s : ByteArray}
theorem sum16_ok {R : Int → World → Prop} (h : Rd w b v) (hl : v.length = l) (hb : l ≤ 1000000) (hR : R (sumL v) w) : api_Sum16.Call b l c w R := by
  apply api_Sum16.sound
  unfold api_Sum16.B0 api_Sum16.L1
  refine ⟨fun m b' l' c' sum i w' => ∃ n : Nat, n ≤ l ∧ m = l - n ∧ b = b' ∧ l = l' ∧ c = c' ∧ sum = sumL (v.take n) ∧ i = (n : Int) ∧ w = w', _, ⟨0, by omega, rfl, rfl, rfl, rfl, by rw [List.take_zero]; rfl, rfl, rfl⟩, ?_⟩
  rintro m b' l' c' sum i w' ⟨n, hn, rfl, rfl, rfl, rfl, rfl, rfl, rfl⟩
  unfold api_Sum16.L1b
  refine Bm.ite (fun hlt => ?_) fun hge => ?_
  · obtain ⟨x, hx⟩ : ∃ x, v[n]? = some x := ⟨_, List.getElem?_eq_getElem (by omega)⟩
    obtain ⟨k, o, rfl, hc⟩ := h.at hx
    refine Pn.mk ⟨⟨by omega, by omega⟩, ?_⟩
    rw [Int.toNat_natCast, Nat.mul_one, add_mk]
    have hxb := h.1.get hx
    refine ⟨x, hc, l - (n + 1), by omega, n + 1, by omega, rfl, rfl, rfl, rfl, ?_, by rw [w64 (by omega) (by omega)]; omega, rfl⟩
    show mixW _ _ = _
    rw [mixW_eq (sumL_bd _) hxb, List.take_add_one, hx]
    show _ = sumL (v.take n ++ [x])
    rw [sumL_snoc]
  · have : n = v.length := by omega
    subst this
    rw [List.take_length] 
    exact hR
/-! ### a fresh buffer -/
structure BufF (w0 w : World) (b : Option Addr) (l c : Nat) (v : List Int) : Prop where
  buf : Buf w b l c v
  ge : ∀ k ∈ rowBlk b, w0.heap.size ≤ k
  ext : Ext [] w0 w
theorem BufF.next {b' : Option Addr} {l' c' : Nat} {v' : List Int} (h : BufF w0 w b l c v) (hb : Buf w' b' l' c' v') (he : Ext (rowBlk b) w w') (hg : Grew w (rowBlk b) (rowBlk b')) : BufF w0 w' b' l' c' v' :=
  ⟨hb, fun k hk => by
    rcases hg k hk with z | z
    · exact h.ge k z
    · have := h.ext.size; omega, h.ext.trans' he (fun y hy hl => by have := h.ge y hy; omega)⟩
theorem BufF.app (xs : List Int) {K : Option Addr → Nat → World → Prop} (h : BufF w0 w b l c v) (hx : IsB xs) (hl : v.length + xs.length ≤ 1000000) (hK : ∀ b' c' w', BufF w0 w' b' (l + xs.length) c' (v ++ xs) → K b' c' w') :
    New (.cells (U8 xs).toArray T_uint8) w fun r w1 => Append T_uint8 (.int .u8 0) 1 1 b l c (some ⟨r, 0, none⟩) xs.length w1 K :=
  Buf.app xs h.buf hx hl fun b' c' w' hb he hg => hK b' c' w' (h.next hb he hg)
theorem BufF.u64 {x : Int} {R : Option Addr → Nat → Nat → World → Prop} (h : BufF w0 w b l c v) (hx : 0 ≤ x ∧ x ≤ 72057594037927936) (hl : v.length ≤ 900000) (hR : ∀ b' l' c' w', BufF w0 w' b' l' c' (v ++ enc8 x) → R b' l' c' w') : api_PutU64.Call b l c x w R :=
  putU64_ok h.buf (by omega) hl fun b' l' c' w' hb he hg => hR b' l' c' w' (h.next hb he hg)
theorem BufF.str {x : ByteArray} {R : Option Addr → Nat → Nat → World → Prop} (h : BufF w0 w b l c v) (hx : x.size ≤ 255) (hl : v.length ≤ 900000) (hR : ∀ b' l' c' w', BufF w0 w' b' l' c' (v ++ putS x) → R b' l' c' w') : api_putStr.Call b l c x w R :=
  putStr_ok h.buf hx hl fun b' l' c' w' hb he hg => hR b' l' c' w' (h.next hb he hg)
theorem encodeMsg_ok {R : ByteArray → World → Prop} (hE : EA w b ll c m.ents) (hll : ll ≤ 1000) (hR : ∀ w', Ext [] w w' → R (encM m) w') : api_EncodeMsg.Call m.kind m.fr m.to m.term m.idx m.lt m.cm m.ok b ll c m.data w R := by
  apply api_EncodeMsg.sound
  unfold api_EncodeMsg.B0
  have hl := EA.len hE
  refine New.mk fun m0 w1 e1 s1 o1 he1 => ?_
  have om1 : Own w1 m0 (msgC m b ll c).toArray T_api_Msg := o1
  have hE1 := hE.ext0 he1
  refine ldMsg om1 (msgOK_ok hE1 hll fun w2 he2 => ?_)
  have om2 := he2.own om1 (by simp)
  have hE2 := hE1.ext0 he2
  have E2 := he1.trans he2
  cases hb : msgB m with
  | false =>
    refine Bm.pos rfl ?_
    have := hR w2 E2
    unfold encM at this
    rw [hb] at this
    exact this
  | true =>
    have hm := (msgB_iff m).1 hb
    have bl := bodyL_le hm
    unfold encM at hR
    rw [hb] at hR
    have a1 := hm.kind
    have a2 := hm.fr
    have a3 := hm.to
    have a4 := hm.len
    have a5 := hm.data
    refine Bm.neg rfl (Buf.make (by omega) (by omega) fun r w3 hr hs3 hb3 he3 => ?_)
    have f3 : BufF w2 w3 (some ⟨r, 0, none⟩) 0 64 [] := ⟨hb3, fun k hk => by simp [rowBlk] at hk; omega, he3⟩
    have keepM : ∀ {wx : World} {bx : Option Addr} {lx cx : Nat} {vx : List Int}, BufF w2 wx bx lx cx vx → Own wx m0 (msgC m b ll c).toArray T_api_Msg := fun {wx bx lx cx vx} h => h.ext.own om2 (by simp)
    have keepE : ∀ {wx : World} {bx : Option Addr} {lx cx : Nat} {vx : List Int}, BufF w2 wx bx lx cx vx → EA wx b ll c m.ents := fun {wx bx lx cx vx} h => hE2.ext0 h.ext
    have b1 : ∀ ok : Int, ok = (if m.ok then 1 else 0) → api_EncodeMsg.B1 m0 (some ⟨r, 0, none⟩) 0 64 ok w3 R := fun ok hok => by
      unfold api_EncodeMsg.B1
      have hokb : 0 ≤ ok ∧ ok < 256 := by rw [hok]; split <;> omega
      refine LdI.mk (keepM f3) rfl (LdI.mk (keepM f3) rfl (LdI.mk (keepM f3) rfl ?_))
      rw [wrap8_id (x := m.kind) (by omega) (by omega), wrap8_id (x := m.fr) (by omega) (by omega), wrap8_id (x := m.to) (by omega) (by omega), wrap8_id (x := ok) (by omega) (by omega)]
      refine BufF.app [m.kind, m.fr, m.to, ok] f3 (fun x hx => by
        simp only [List.mem_cons, List.not_mem_nil, or_false] at hx
        rcases hx with z | z | z | z <;> omega) (by simp) fun b4 c4 w4 f4 => ?_
      refine LdI.mk (keepM f4) rfl (BufF.u64 f4 hm.term (by simp) fun b5 l5 c5 w5 f5 => ?_)
      refine LdI.mk (keepM f5) rfl (BufF.u64 f5 hm.idx (by simp [enc8_length]) fun b6 l6 c6 w6 f6 => ?_)
      refine LdI.mk (keepM f6) rfl (BufF.u64 f6 hm.lt (by simp [enc8_length]) fun b7 l7 c7 w7 f7 => ?_)
      refine LdI.mk (keepM f7) rfl (BufF.u64 f7 hm.cm (by simp [enc8_length]) fun b8 l8 c8 w8 f8 => ?_)
      refine LdL.mk (keepM f8) rfl ?_
      rw [wrap8_id (by omega) (by omega)]
      refine BufF.app [(ll : Int)] f8 (IsB.one (by omega)) (by simp [enc8_length]) fun b9 c9 w9 f9 => ?_
      let H : List Int := [m.kind, m.fr, m.to, if m.ok then 1 else 0] ++ enc8 m.term ++ enc8 m.idx ++ enc8 m.lt ++ enc8 m.cm ++ [(m.ents.length : Int)]
      have hH : H.length = 37 := by simp [H, enc8_length]
      have f9' : BufF w2 w9 b9 (l8 + 1) c9 H := by
        have q : (ll : Int) = (m.ents.length : Int) := by omega
        rw [q, hok] at f9
        exact f9
      unfold api_EncodeMsg.L1
      refine ⟨fun mm m' bx lx cx i w' => ∃ n : Nat, n ≤ ll ∧ mm = ll - n ∧ m0 = m' ∧ i = (n : Int) ∧ BufF w2 w' bx lx cx (H ++ (m.ents.take n).flatMap entB), _, ⟨0, by omega, rfl, rfl, rfl, by simpa using f9'⟩, ?_⟩
      rintro mm m' bx lx cx i wa ⟨n, hn, rfl, rfl, rfl, fa⟩
      unfold api_EncodeMsg.L1b
      have flen : ((m.ents.take n).flatMap entB).length ≤ 33 * n := by
        have := ents_length (m.ents.take n) (fun x hx => (hm.ent x (List.mem_of_mem_take hx)).2.2)
        rw [List.length_take] at this
        omega
      refine LdL.mk (keepM fa) rfl (Bm.ite (fun hlt => ?_) fun hge => ?_)
      · obtain ⟨x, hx⟩ := get_lt' (L := m.ents) (n := n) (by omega)
        have hxm := hm.ent x (List.mem_of_getElem? hx)
        refine LdL.mk (keepM fa) rfl ((keepE fa).ldT hx (BufF.u64 fa ⟨hxm.1, hxm.2.1⟩ (by rw [List.length_append]; omega) fun bb lb cb wb fb => ?_))
        refine LdL.mk (keepM fb) rfl ((keepE fb).ldD hx (BufF.str fb (by omega) (by rw [List.length_append, List.length_append, enc8_length]; omega) fun bc lc cc wc fc => ?_))
        refine ⟨ll - (n + 1), by omega, n + 1, by omega, rfl, rfl, by rw [w64 (by omega) (by omega)]; omega, ?_⟩
        rw [flat_take hx]
        show BufF w2 wc bc lc cc (H ++ ((m.ents.take n).flatMap entB ++ (enc8 x.1 ++ putS x.2)))
        simpa [List.append_assoc] using fc
      · have hnl : n = ll := by omega
        subst hnl
        have ht : m.ents.take n = m.ents := List.take_of_length_le (by omega)
        rw [ht] at fa flen
        refine LdS.mk (keepM fa) rfl (BufF.str fa (by omega) (by rw [List.length_append]; omega) fun bb lb cb wb fb => ?_)
        have fb' : BufF w2 wb bb lb cb (bodyL m) := fb
        have hlb := fb'.buf.len
        refine sum16_ok fb'.buf.rd hlb.symm (by omega) ⟨by omega, ?_⟩
        have sb := sumL_bd (bodyL m)
        have e3 : (2 : Int) ^ (min (8 : Int).toNat IntKind.i64.bits) = 256 := by decide
        rw [e3, Int.fdiv_eq_ediv_of_nonneg _ (by omega), wrap8_id (x := sumL (bodyL m) / 256) (by omega) (by omega), wrap8_eq]
        refine BufF.app (sumB (bodyL m)) fb' (fun x hx => by
          simp only [sumB, List.mem_cons, List.not_mem_nil, or_false] at hx
          rcases hx with z | z <;> omega) (by simp [sumB]; omega) fun bc cc wc fc => ?_
        exact fc.buf.str (hR wc (E2.trans fc.ext))
    refine LdB.mk (keepM f3) rfl (Bm.mk (fun hk => b1 1 (by rw [hk]; rfl)) fun hk => b1 0 (by rw [hk]; rfl))
abbrev RDm := Int → Int → Int → Int → Int → Int → Int → Bool → Option Addr → Nat → Nat → ByteArray → Int → World → Prop
theorem gU_gw {e n : Nat} (he : e ≤ s.size) (hn : n + 8 ≤ e) : gU s (n : Int) = gw (((strB s).take e).drop n) := by
  unfold gU gw
  rw [if_neg (by omega), Int.toNat_natCast, take8_eq hn]
theorem byte_getD {e n : Nat} (he : e ≤ s.size) (hn : n < e) : byteAt s (n : Int) = ((strB s).take e).getD n 0 := by
  rw [List.getD_eq_getElem?_getD, List.getElem?_take, if_pos hn, strB_get (by omega)]
  rfl
theorem decodeMsg_ok {R : RDm} (hR : ∀ (m : MsgV) rb rc w', decM s = some m → EA w' rb m.ents.length rc m.ents → Ext [] w w' → R m.kind m.fr m.to m.term m.idx m.lt m.cm m.ok rb m.ents.length rc m.data 0 w')
    (hN : ∀ w', decM s = none → Ext [] w w' → R 0 0 0 0 0 0 0 false none 0 0 estr 12 w') : api_DecodeMsg.Call s w R := by
  apply api_DecodeMsg.sound
  unfold api_DecodeMsg.B0
  refine New.mk fun t2 w1 ht2 hs1 ot1 he1 => New.mk fun m0 w2 hm0 hs2 om he2 => ?_
  have z1 := he1.size
  have z2 := he2.size
  have E2 := he1.trans he2
  have ot2 := he2.own ot1 (by simp)
  have om2 : Own w2 m0 (msgC z0 none 0 0).toArray T_api_Msg := om
  have htm : t2 ≠ m0 := by omega
  have retZ : ∀ {wx : World} {cs : Array Value}, decM s = none → Own wx t2 cs T_api_Msg → cs.size = 10 → Ext [] w wx →
      Sts (msgC z0 none 0 0) ⟨t2, 0, none⟩ 0 wx fun w1 => LdI .i64 ⟨t2, 0, none⟩ w1 fun r_0 => LdI .i64 ⟨t2, 1, none⟩ w1 fun r_1 => LdI .i64 ⟨t2, 2, none⟩ w1 fun r_2 => LdI .i64 ⟨t2, 3, none⟩ w1 fun r_3 => LdI .i64 ⟨t2, 4, none⟩ w1 fun r_4 => LdI .i64 ⟨t2, 5, none⟩ w1 fun r_5 => LdI .i64 ⟨t2, 6, none⟩ w1 fun r_6 => LdB ⟨t2, 7, none⟩ w1 fun r_7 => LdL ⟨t2, 8, none⟩ w1 fun r_8_b r_8_l r_8_c => LdS ⟨t2, 9, none⟩ w1 fun r_9 => R r_0 r_1 r_2 r_3 r_4 r_5 r_6 r_7 r_8_b r_8_l r_8_c r_9 12 w1 := fun {wx cs} hd ot hsz he => by
    refine Sts.full (vs := msgC z0 none 0 0) ot (by rw [hsz]; rfl) rfl fun w7 hs7 o7 he7 => ldMsg o7 (hN w7 hd (he.trans' he7 (fun y hy hl => by simp at hy; omega)))
  by_cases h40 : ((s.size : Nat) : Int) < 40
  · refine Bm.pos (decide_eq_true h40) ?_
    unfold api_DecodeMsg.B1
    exact Bm.pos rfl (retZ (by unfold decM; rw [if_pos (by omega)]) ot2 rfl E2)
  refine Bm.neg (decide_eq_false h40) ?_
  by_cases h234 : ((s.size : Nat) : Int) > 234
  · rw [decide_eq_true h234]
    unfold api_DecodeMsg.B1
    exact Bm.pos rfl (retZ (by unfold decM; rw [if_pos (by omega)]) ot2 rfl E2)
  rw [decide_eq_false h234]
  unfold api_DecodeMsg.B1
  refine Bm.neg rfl ?_
  obtain ⟨e, he⟩ : ∃ e : Nat, s.size = e + 2 := ⟨s.size - 2, by omega⟩
  have ew : IntKind.i64.wrap (((s.size : Nat) : Int) - 2) = (e : Int) := by rw [w64 (by omega) (by omega)]; omega
  have ew1 : IntKind.i64.wrap (((s.size : Nat) : Int) - 1) = ((s.size : Nat) : Int) - 1 := w64 (by omega) (by omega)
  rw [ew, ew1]
  have hse : e ≤ s.size := by omega
  let B := (strB s).take e
  have hBi : IsB B := (strB_isB s).take e
  have hBl : B.length = e := by show ((strB s).take e).length = e; rw [List.length_take, strB_length]; omega
  have hsum : decM s = if sumL B ≠ byteAt s (e : Int) * 256 + byteAt s (((s.size : Nat) : Int) - 1) then none else decW B := by
    unfold decM
    rw [if_neg (by omega)]
    have q1 : s.size - 2 = e := by omega
    have q2 : ((s.size : Nat) : Int) - 2 = (e : Int) := by omega
    rw [q1, q2, decD_eq hBi (by omega)]
  have hcut : strB (s.extract ((0 : Nat) : Int).toNat (e : Int).toNat) = B := by
    rw [strB_extract, Int.toNat_natCast, Int.toNat_natCast, List.drop_zero]
  have hcs : (s.extract ((0 : Nat) : Int).toNat (e : Int).toNat).size = e := by
    rw [← strB_length, hcut, hBl]
  refine ⟨⟨by omega, by omega⟩, ⟨by omega, by omega⟩, by omega, ⟨by omega, by omega⟩, ?_⟩
  refine toBytes_ok2 (by rw [hcs]; omega) fun b26 c26 w3 z hz hz2 hb26 hs3 hbf he3 => ?_
  rw [hcut] at hbf
  have E3 : Ext [] w w3 := (E2.trans (Ext.drew [] w2)).trans he3
  have e23 : Ext [] w2 w3 := (Ext.drew [] w2).trans he3
  have ot3 := e23.own ot2 (by simp)
  have om3 := e23.own om2 (by simp)
  refine sum16_ok (v := B) (Bf.rd hbf) (by rw [hcs]; exact hBl) (by rw [hcs]; omega) ?_
  have ob1 := Kv.byteAt_bd s (e : Int)
  have ob2 := Kv.byteAt_bd s (((s.size : Nat) : Int) - 1)
  have ow8 := orW8_eq ob1 ob2
  show Bm (sumL B != orW8 (byteAt s (e : Int)) (byteAt s (((s.size : Nat) : Int) - 1))) _ _
  rw [ow8]
  refine Bm.mk (fun hne => ?_) fun heq => ?_
  · refine retZ ?_ ot3 rfl E3
    rw [hsum, if_pos]
    intro hq
    rw [hq] at hne
    simp at hne
  have heq' : sumL B = byteAt s (e : Int) * 256 + byteAt s (((s.size : Nat) : Int) - 1) := by simpa using heq
  rw [if_neg (by simp [heq'])] at hsum
  have g : ∀ n : Nat, n < e → byteAt s (n : Int) = B.getD n 0 := fun n hn => byte_getD hse hn
  have g0 : byteAt s 0 = B.getD 0 0 := g 0 (by omega)
  have g1 : byteAt s 1 = B.getD 1 0 := g 1 (by omega)
  have g2 : byteAt s 2 = B.getD 2 0 := g 2 (by omega)
  have g3 : byteAt s 3 = B.getD 3 0 := g 3 (by omega)
  have g36 : byteAt s 36 = B.getD 36 0 := g 36 (by omega)
  refine ⟨⟨by omega, by omega⟩, Bm.ite (fun h3 => ?_) fun h3 => ?_⟩
  · refine retZ ?_ ot3 rfl E3
    rw [hsum]
    unfold decW
    rw [if_pos (by omega)]
  refine ⟨⟨by omega, by omega⟩, ⟨by omega, by omega⟩, ⟨by omega, by omega⟩, ⟨by omega, by omega⟩, ?_⟩
  rw [wi_byte, wi_byte, wi_byte]
  have om3d : Own w3.drew m0 (msgC z0 none 0 0).toArray T_api_Msg := Own.drew om3
  refine Sts.mk om3d (by simp [msgC]) rfl fun w4 _ o4 e4 => Sts.mk o4 (by rw [size_putArr]; simp [msgC]) rfl fun w5 _ o5 e5 => Sts.mk o5 (by rw [size_putArr, size_putArr]; simp [msgC]) rfl fun w6 _ o6 e6 => ?_
  have o6' : Own w6 m0 (msgC { z0 with kind := byteAt s 0, fr := byteAt s 1, to := byteAt s 2 } none 0 0).toArray T_api_Msg := o6
  refine Sts.mk o6' (by simp [msgC]) rfl fun w7 _ o7 e7 => ?_
  have o7' : Own w7 m0 (msgC { z0 with kind := byteAt s 0, fr := byteAt s 1, to := byteAt s 2, ok := byteAt s 3 == 1 } none 0 0).toArray T_api_Msg := o7
  have u4 : gU s 4 = gw (B.drop 4) := gU_gw (n := 4) hse (by omega)
  have u12 : gU s 12 = gw (B.drop 12) := gU_gw (n := 12) hse (by omega)
  have u20 : gU s 20 = gw (B.drop 20) := gU_gw (n := 20) hse (by omega)
  have u28 : gU s 28 = gw (B.drop 28) := gU_gw (n := 28) hse (by omega)
  have hs48 : s.size ≤ 281474976710656 := by omega
  refine getU64_ok hs48 (Sts.mk o7' (by simp [msgC]) rfl fun w8 _ o8 e8 => getU64_ok hs48 (Sts.mk o8 (by rw [size_putArr]; simp [msgC]) rfl fun w9 _ o9 e9 => getU64_ok hs48 (Sts.mk o9 (by rw [size_putArr, size_putArr]; simp [msgC]) rfl fun w10 _ o10 e10 => getU64_ok hs48 (Sts.mk o10 (by rw [size_putArr, size_putArr, size_putArr]; simp [msgC]) rfl fun w11 _ o11 e11 => ⟨⟨by omega, by omega⟩, ?_⟩))))
  let M : MsgV := ⟨B.getD 0 0, B.getD 1 0, B.getD 2 0, gw (B.drop 4), gw (B.drop 12), gw (B.drop 20), gw (B.drop 28), B.getD 3 0 == 1, [], estr⟩
  have o11' : Own w11 m0 (msgC M none 0 0).toArray T_api_Msg := by
    have q : M = ⟨byteAt s 0, byteAt s 1, byteAt s 2, gU s 4, gU s 12, gU s 20, gU s 28, byteAt s 3 == 1, [], estr⟩ := by
      show MsgV.mk _ _ _ _ _ _ _ _ _ _ = _
      rw [g0, g1, g2, g3, u4, u12, u20, u28]
    rw [q]
    exact o11
  have e311 : Ext [m0] w3 w11 := (Ext.drew [m0] w3).trans ((((e4.trans e5).trans (e6.trans e7)).trans (e8.trans e9)).trans (e10.trans e11))
  have ot11 := e311.own ot3 (by simpa using htm)
  have E11 : Ext [] w w11 := E3.trans' e311 (fun y hy hl => by simp at hy; omega)
  rw [wi_byte, g36]
  have b36 := getD_bd hBi 36
  refine Bm.ite (fun h2 => ?_) fun h2 => ?_
  · refine retZ ?_ ot11 rfl E11
    rw [hsum]
    unfold decW
    rw [if_pos (by omega)]
  have hdw : decW B = match eWide (B.getD 36 0).toNat (B.drop 37) with | none => none | some (E, M) => match takeS 0 255 M with | some (x, []) => if msgB (wMsg B E x) then some (wMsg B E x) else none | _ => none := by
    unfold decW
    rw [if_neg (by omega)]
    rfl
  rw [hdw] at hsum
  obtain ⟨cnt, hcnt⟩ : ∃ cnt : Nat, B.getD 36 0 = cnt := ⟨(B.getD 36 0).toNat, by omega⟩
  rw [hcnt, Int.toNat_natCast] at hsum
  rw [hcnt] at h2 ⊢
  unfold api_DecodeMsg.L1
  refine ⟨fun mm s' t2' m0' e' n' p' i' w' => ∃ (j p : Nat) (E : List EntV) (rb : Option Addr) (rc : Nat), j ≤ cnt ∧ mm = cnt - j ∧ s = s' ∧ t2 = t2' ∧ m0 = m0' ∧ (e : Int) = e' ∧ (cnt : Int) = n' ∧ p' = (p : Int) ∧ i' = (j : Int) ∧ p ≤ e ∧ E.length = j ∧ (eWide cnt (B.drop 37) = match eWide (cnt - j) (B.drop p) with | none => none | some (E', K) => some (E ++ E', K)) ∧ Own w' m0 (msgC { M with ents := E } rb j rc).toArray T_api_Msg ∧ EA w' rb j rc E ∧ (∀ k ∈ rowBlk rb, w11.heap.size ≤ k) ∧ Ext [m0] w11 w', _,
    ⟨0, 37, [], none, 0, by omega, rfl, rfl, rfl, rfl, rfl, rfl, rfl, rfl, by omega, rfl, ?_, o11', EA.nil _, fun k hk => (by cases hk), Ext.refl _ _⟩, ?_⟩
  · rw [Nat.sub_zero]
    cases eWide cnt (B.drop 37) with
    | none => rfl
    | some x => rfl
  rintro mm s' t2' m0' e' n' p' i' wa ⟨j, p, E, rb, rc, hj, rfl, rfl, rfl, rfl, rfl, rfl, rfl, rfl, hp, hEl, hew, oa, hea, hrb, ea⟩
  unfold api_DecodeMsg.L1b
  have ota := ea.own ot11 (by simpa using htm)
  have z11 := E11.size
  have EA' : Ext [] w wa := E11.trans' ea (fun y hy hl => by simp at hy; omega)
  have hdl : ∀ n : Nat, (B.drop n).length = e - n := fun n => by rw [List.length_drop, hBl]
  have hta : ∀ n : Nat, n < e → B.drop n = byteAt s (n : Int) :: B.drop (n + 1) := fun n hn => take_at hn hse
  by_cases hlt : (j : Int) < (cnt : Int)
  · refine Bm.pos (decide_eq_true hlt) ?_
    have w9 : IntKind.i64.wrap ((p : Int) + 9) = ((p + 9 : Nat) : Int) := by rw [w64 (by omega) (by omega)]; omega
    have w8 : IntKind.i64.wrap ((p : Int) + 8) = ((p + 8 : Nat) : Int) := by rw [w64 (by omega) (by omega)]; omega
    rw [w9, w8]
    obtain ⟨q, hq⟩ : ∃ q, cnt - j = q + 1 := ⟨cnt - j - 1, by omega⟩
    rw [hq] at hew
    by_cases h9 : ((p + 9 : Nat) : Int) > (e : Int)
    · refine Bm.pos (decide_eq_true h9) (retZ ?_ ota rfl EA')
      have : eWide (q + 1) (B.drop p) = none := by show (if (B.drop p).length < 9 then none else _) = none; rw [if_pos (by rw [hdl]; omega)]
      rw [this] at hew
      rw [hsum, hew]
    refine Bm.neg (decide_eq_false h9) ⟨⟨by omega, by omega⟩, getU64_ok hs48 ?_⟩
    have ew2 : eWide (q + 1) (B.drop p) = match takeS 0 255 ((B.drop p).drop 8) with | none => none | some (x, M) => match eWide q M with | none => none | some (E, K) => some ((gw (B.drop p), x) :: E, K) := by
      show (if (B.drop p).length < 9 then none else _) = _
      rw [if_neg (by rw [hdl]; omega)]
      rfl
    rw [ew2, List.drop_drop, hta (p + 8) (by omega), takeS_cons, hdl] at hew
    have bb := Kv.byteAt_bd s ((p + 8 : Nat) : Int)
    obtain ⟨y, hy⟩ : ∃ y : Nat, byteAt s ((p + 8 : Nat) : Int) = y := ⟨(byteAt s ((p + 8 : Nat) : Int)).toNat, by omega⟩
    have wy : IntKind.i64.wrap (((p + 9 : Nat) : Int) + IntKind.i64.wrap (byteAt s ((p + 8 : Nat) : Int))) = ((p + 9 + y : Nat) : Int) := by rw [wi_byte, hy, w64 (by omega) (by omega)]; omega
    have wy2 : IntKind.i64.wrap ((p : Int) + IntKind.i64.wrap (9 + IntKind.i64.wrap (byteAt s ((p + 8 : Nat) : Int)))) = ((p + 9 + y : Nat) : Int) := by rw [wi_byte, hy, w64 (x := 9 + (y : Int)) (by omega) (by omega), w64 (by omega) (by omega)]; omega
    rw [wy, wy2]
    rw [hy] at hew
    have otd : Own wa.drew t2 _ T_api_Msg := Own.drew ota
    have EAd : Ext [] w wa.drew := EA'.trans (Ext.drew [] wa)
    by_cases hov : ((p + 9 + y : Nat) : Int) > (e : Int)
    · refine Bm.pos (decide_eq_true hov) (retZ ?_ otd rfl EAd)
      rw [if_neg (by omega)] at hew
      rw [hsum, hew]
    refine Bm.neg (decide_eq_false hov) ?_
    rw [if_pos (by omega)] at hew
    have odd : Own wa.drew.drew m0 (msgC { M with ents := E } rb j rc).toArray T_api_Msg := Own.drew (Own.drew oa)
    refine LdL.mk odd rfl ⟨⟨by omega, by omega⟩, ⟨by omega, by omega⟩, New.mk fun nb w2' hnb hs2' on he2' => ⟨(he2'.own odd (by simp)).cell rfl, ?_⟩⟩
    have e0 : Ext [] wa w2' := ((Ext.drew [] wa).trans (Ext.drew [] _)).trans he2'
    have hxt : s.extract ((p + 9 : Nat) : Int).toNat ((p + 9 + y : Nat) : Int).toNat = bStr ((B.drop (p + 9)).take y) := by
      rw [Int.toNat_natCast, Int.toNat_natCast, cut_eq (by omega)]
      show _ = bStr ((((strB s).take e).drop (p + 9)).take y)
      rw [List.drop_take, List.take_take]
      congr 2
      omega
    have hgp : gU s (p : Int) = gw (B.drop p) := gU_gw hse (by omega)
    let x : EntV := (gw (B.drop p), bStr ((B.drop (p + 9)).take y))
    have on' : Own w2' nb (entC x).toArray T_api_Entry := by
      rw [hxt, hgp] at on
      exact on
    have heac : EA w2' rb j rc E := hea.ext0 e0
    refine Vc.Append.mk (e := T_api_Entry) (news := entC x) heac (CellsAt.own on' (fun j v hj => by simpa [entC] using hj)) rfl rfl rfl (by omega) (by omega) fun rb' rc' w3' hr he3' hb3 => ?_
    have t3 := Tys.row heac
    have o3 := ownT he3' t3 (he2'.own odd (by simp)) (by decide)
    refine Sts.mk o3 (by simp [msgC]) rfl fun w4' _ o4' e4' => ?_
    have za := ea.size
    have z0' := e0.size
    have E3' : Ext [m0] w11 w3' := (ea.trans e0.nil).trans' he3' (fun y hy hl => by have := hrb y hy; omega)
    refine ⟨cnt - (j + 1), by omega, j + 1, p + 9 + y, E ++ [x], rb', rc', by omega, rfl, rfl, rfl, rfl, rfl, rfl, rfl, by rw [w64 (by omega) (by omega)]; omega, by omega, by simp [hEl], ?_, o4', ?_, fun k hk => ?_, E3'.trans e4'⟩
    · have hq2 : cnt - (j + 1) = q := by omega
      rw [hq2, hew]
      simp only [Int.toNat_natCast, List.drop_drop]
      have hq3 : p + 8 + 1 = p + 9 := by omega
      rw [hq3]
      cases eWide q (B.drop (p + 9 + y)) with
      | none => rfl
      | some ek =>
        obtain ⟨E', K⟩ := ek
        simp only [List.append_assoc, List.singleton_append]
        rfl
    · show Row w4' rb' (j + 1) rc' 2 T_api_Entry ((E ++ [x]).flatMap entC)
      rw [List.flatMap_append]
      refine rowT (by simpa using hr) e4' (Tys.one o3) (by decide)
    · rcases hb3 k hk with z | z
      · exact hrb k z
      · omega
  · refine Bm.neg (decide_eq_false hlt) ?_
    have hjc : cnt - j = 0 := by omega
    rw [hjc] at hew
    have hew2 : eWide cnt (B.drop 37) = some (E, B.drop p) := by
      rw [hew]
      show some (E ++ [], B.drop p) = _
      rw [List.append_nil]
    rw [hew2] at hsum
    dsimp only at hsum
    by_cases hpe : (p : Int) ≥ (e : Int)
    · refine Bm.pos (decide_eq_true hpe) (retZ ?_ ota rfl EA')
      have : B.drop p = [] := take_end (by omega)
      rw [hsum, this]
      rfl
    refine Bm.neg (decide_eq_false hpe) ⟨⟨by omega, by omega⟩, ?_⟩
    have bb := Kv.byteAt_bd s (p : Int)
    obtain ⟨y, hy⟩ : ∃ y : Nat, byteAt s (p : Int) = y := ⟨(byteAt s (p : Int)).toNat, by omega⟩
    have wp : IntKind.i64.wrap ((p : Int) + 1) = ((p + 1 : Nat) : Int) := by rw [w64 (by omega) (by omega)]; omega
    have wy : IntKind.i64.wrap (((p + 1 : Nat) : Int) + IntKind.i64.wrap (byteAt s (p : Int))) = ((p + 1 + y : Nat) : Int) := by rw [wi_byte, hy, w64 (by omega) (by omega)]; omega
    rw [wp, wy]
    rw [hta p (by omega), takeS_cons, hdl, hy] at hsum
    by_cases hne : p + 1 + y = e
    rotate_left
    · refine Bm.pos (by simp; omega) (retZ ?_ ota rfl EA')
      rw [hsum]
      by_cases hc : (0 : Int) ≤ (y : Int) ∧ (y : Int) ≤ 255 ∧ (y : Int) ≤ ((e - (p + 1) : Nat) : Int)
      · rw [if_pos hc]
        have hnn : (B.drop (p + 1)).drop (y : Int).toNat ≠ [] := fun hz => by
          have := congrArg List.length hz
          rw [List.length_drop, hdl, Int.toNat_natCast] at this
          simp at this
          omega
        cases hcs2 : (B.drop (p + 1)).drop (y : Int).toNat with
        | nil => exact absurd hcs2 hnn
        | cons a K => rfl
      · rw [if_neg hc]
    refine Bm.neg (by simp; omega) ⟨⟨by omega, by omega⟩, ⟨by omega, by omega⟩, ?_⟩
    rw [if_pos (by omega)] at hsum
    have hnil : (B.drop (p + 1)).drop (y : Int).toNat = [] := List.drop_of_length_le (by rw [hdl, Int.toNat_natCast]; omega)
    rw [hnil] at hsum
    dsimp only at hsum
    rw [Int.toNat_natCast] at hsum
    have hxt : s.extract ((p + 1 : Nat) : Int).toNat (e : Int).toNat = bStr ((B.drop (p + 1)).take y) := by
      have q1 : (e : Int).toNat = (p + 1) + y := by omega
      rw [q1, Int.toNat_natCast, cut_eq (by omega)]
      show _ = bStr ((((strB s).take e).drop (p + 1)).take y)
      rw [List.drop_take, List.take_take]
      congr 2
      omega
    rw [hxt]
    let x := bStr ((B.drop (p + 1)).take y)
    refine Sts.mk oa (by simp [msgC]) rfl fun wb _ ob eb => ?_
    have ob' : Own wb m0 (msgC (wMsg B E x) rb j rc).toArray T_api_Msg := ob
    have heab : EA wb rb j rc (wMsg B E x).ents := rowT hea eb (Tys.one oa) (by decide)
    refine ldMsg ob' (msgOK_ok (m := wMsg B E x) heab (by omega) fun wc hec => ?_)
    have obc := hec.own ob' (by simp)
    have otc := hec.own (eb.own ota (by simpa using htm)) (by simp)
    have Ec : Ext [] w wc := (EA'.trans' eb (fun y hy hl => by simp at hy; omega)).trans hec
    change decM s = if msgB (wMsg B E x) = true then some (wMsg B E x) else none at hsum
    cases hmb : msgB (wMsg B E x) with
    | false =>
      refine Bm.pos rfl (retZ ?_ otc rfl Ec)
      rw [hsum, hmb]
      rfl
    | true =>
      rw [hmb, if_pos rfl] at hsum
      have hlj : (wMsg B E x).ents.length = j := hEl
      refine Bm.neg rfl (retMsg (R := fun a b c d e f g h i j k l w => R a b c d e f g h i j k l 0 w) obc otc rfl fun wz ez => ?_)
      have := hR (wMsg B E x) rb rc wz hsum (by rw [hlj]; exact rowT (EA.ext0 heab hec) ez (Tys.one otc) (by decide)) (Ec.trans' ez (fun y hy hl => by simp at hy; omega))
      rw [hlj] at this
      exact this
end
end Go.Proofs.Qxb6500430aGreat
