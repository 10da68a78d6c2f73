/-
  node: the real encoder.
-/
import Derived.Test.Qxb6500430aGreatNdA
set_option linter.unusedVariables false
set_option linter.unusedSimpArgs false
open Go.Vc
namespace Go.Proofs.Qxb6500430aGreat
open Kv
section
variable {w w' : World} {k : Nat} {v : List Int} {m : MsgV} {b : Option Addr} {ll c : Nat}
theorem mix_ok {s x : Int} {R : Int → World → Prop} (hs : 0 ≤ s ∧ s < 65536) (hb : 0 ≤ x ∧ x < 256) (hR : R (mixI s x) w) : node_mix.Call s x w R := by
  apply node_mix.sound
  unfold node_mix.B0
  show R (mixW s x) w
  rw [mixW_eq hs hb]
  exact hR
theorem narrow_ok {x : Int} {R : Bool → World → Prop} (hR : R (decide (0 ≤ x ∧ x ≤ 72057594037927936)) w) : node_narrow.Call x w R := by
  apply node_narrow.sound
  unfold node_narrow.B0
  by_cases h0 : x ≥ 0
  · refine Bm.pos (decide_eq_true h0) ?_
    by_cases h1 : x ≤ 72057594037927936
    · rw [decide_eq_true h1]
      rw [decide_eq_true (show 0 ≤ x ∧ x ≤ 72057594037927936 from ⟨h0, h1⟩)] at hR
      exact hR
    · rw [decide_eq_false h1]
      rw [decide_eq_false (fun h => h1 h.2)] at hR
      exact hR
  · refine Bm.neg (decide_eq_false h0) ?_
    rw [decide_eq_false (fun h => h0 h.1)] at hR
    exact hR
theorem fits_ok {R : Bool → World → Prop} (hE : EA w b ll c m.ents) (hll : ll ≤ 1000) (hR : ∀ w', Ext [] w w' → R (msgB m) w') : node_fits.Call m.kind m.fr m.to m.term m.idx m.lt m.cm m.ok b ll c m.data w R := by
  apply node_fits.sound
  unfold node_fits.B0
  have hl := EA.len hE
  refine New.mk fun m0 w1 e1 s1 o1 he1 => ?_
  have om : Own w1 m0 (msgC m b ll c).toArray T_api_Msg := o1
  have hE1 := hE.ext0 he1
  have no : ¬ MB m → R false w1 := fun hn => by
    have : msgB m = false := by
      cases hb : msgB m with
      | false => rfl
      | true => exact absurd ((msgB_iff m).1 hb) hn
    have h9 := hR w1 he1
    rw [this] at h9
    exact h9
  have b1 : ¬ MB m → node_fits.B1 m0 true w1 R := fun hn => by unfold node_fits.B1; exact Bm.pos rfl (no hn)
  have b2 : ¬ MB m → node_fits.B2 m0 true w1 R := fun hn => by unfold node_fits.B2; exact Bm.pos rfl (no hn)
  have b3 : ¬ MB m → node_fits.B3 m0 true w1 R := fun hn => by unfold node_fits.B3; exact Bm.pos rfl (no hn)
  refine LdI.mk om rfl (Bm.ite (fun q => b1 fun h => by have := h.kind; omega) fun a1 => LdI.mk om rfl ?_)
  by_cases a2 : m.kind > 5
  · rw [decide_eq_true a2]; exact b1 fun h => by have := h.kind; omega
  rw [decide_eq_false a2]
  unfold node_fits.B1
  refine Bm.neg rfl (LdI.mk om rfl (Bm.ite (fun q => b2 fun h => by have := h.fr; omega) fun a3 => LdI.mk om rfl (Bm.ite (fun q => b2 fun h => by have := h.fr; omega) fun a4 => LdI.mk om rfl (Bm.ite (fun q => b2 fun h => by have := h.to; omega) fun a5 => LdI.mk om rfl ?_))))
  by_cases a6 : m.to ≥ 3
  · rw [decide_eq_true a6]; exact b2 fun h => by have := h.to; omega
  rw [decide_eq_false a6]
  unfold node_fits.B2
  refine Bm.neg rfl (LdI.mk om rfl (narrow_ok (Bm.mk (fun q => no fun h => by have := h.term; simp at q; omega) fun a7 => LdI.mk om rfl (narrow_ok (Bm.mk (fun q => no fun h => by have := h.idx; simp at q; omega) fun a8 => LdI.mk om rfl (narrow_ok (Bm.mk (fun q => no fun h => by have := h.lt; simp at q; omega) fun a9 => LdI.mk om rfl (narrow_ok (Bm.mk (fun q => no fun h => by have := h.cm; simp at q; omega) fun a10 => LdL.mk om rfl (Bm.ite (fun q => b3 fun h => by have := h.len; omega) fun a15 => LdS.mk om rfl ?_))))))))))
  by_cases a16 : ((m.data.size : Nat) : Int) > 128
  · rw [decide_eq_true a16]; exact b3 fun h => by have := h.data; omega
  rw [decide_eq_false a16]
  simp at a7 a8 a9 a10
  unfold node_fits.B3
  refine Bm.neg rfl ?_
  unfold node_fits.L1
  refine ⟨fun mm m' i w' => ∃ n : Nat, n ≤ ll ∧ mm = ll - n ∧ m0 = m' ∧ i = (n : Int) ∧ w1 = w' ∧ ∀ x ∈ m.ents.take n, 0 ≤ x.1 ∧ x.1 ≤ 72057594037927936 ∧ x.2.size ≤ 24, _, ⟨0, by omega, rfl, rfl, rfl, rfl, fun x hx => by simp at hx⟩, ?_⟩
  rintro mm m' i w' ⟨n, hn, rfl, rfl, rfl, rfl, ha⟩
  unfold node_fits.L1b
  refine LdL.mk om rfl (Bm.ite (fun hlt => ?_) fun hge => ?_)
  · obtain ⟨x, hx⟩ := get_lt' (L := m.ents) (n := n) (by omega)
    have hxm := List.mem_of_getElem? hx
    refine LdL.mk om rfl (hE1.ldT hx (narrow_ok (Bm.mk (fun q => no fun h => by have := h.ent x hxm; simp at q; omega) fun c1 => LdL.mk om rfl (hE1.ldD hx (Bm.ite (fun q => no fun h => by have := h.ent x hxm; omega) fun c2 => ?_)))))
    simp at c1
    refine ⟨ll - (n + 1), by omega, n + 1, by omega, rfl, rfl, by rw [w64 (by omega) (by omega)]; omega, rfl, fun y hy => ?_⟩
    rw [take_succ' hx] at hy
    rcases List.mem_append.1 hy with z | z
    · exact ha y z
    · simp at z
      subst z
      exact ⟨c1.1, c1.2, by omega⟩
  · have hall : ∀ x ∈ m.ents, 0 ≤ x.1 ∧ x.1 ≤ 72057594037927936 ∧ x.2.size ≤ 24 := by
      rw [List.take_of_length_le (by omega)] at ha
      exact ha
    have ok : msgB m = true := (msgB_iff m).2 ⟨by omega, by omega, by omega, a7, a8, a9, a10, by omega, by omega, hall⟩
    have h9 := hR w1 he1
    rw [ok] at h9
    exact h9
/-! ### the buffer -/
structure EncX (w : World) (k : Nat) (v : List Int) (f : Nat → Value) : Prop where
  own : Own w k (fnArr 236 f) T_node_enc
  buf : ∀ j, j < v.length → f j = .int .u8 (v.getD j 0)
  n : f 234 = .int .i64 (v.length : Int)
  sum : f 235 = .int .i64 (sumL v)
  isB : IsB v
  le : v.length ≤ 234
def EncAt (w : World) (k : Nat) (v : List Int) : Prop := ∃ f, EncX w k v f
/-- The encoder at rest. -/
def EncS (w : World) (k : Nat) : Prop := ∃ (f : Nat → Value) (n s : Int), Own w k (fnArr 236 f) T_node_enc ∧ f 234 = .int .i64 n ∧ f 235 = .int .i64 s ∧ 0 ≤ n ∧ n ≤ 234 ∧ 0 ≤ s ∧ s ≤ 65535
theorem EncAt.rest (h : EncAt w k v) : EncS w k := by
  obtain ⟨f, h⟩ := h
  have := sumL_bd v
  exact ⟨f, _, _, h.own, h.n, h.sum, by omega, by have := h.le; omega, by omega, by omega⟩
theorem EncS.ext {X : List Nat} (h : EncS w k) (he : Ext X w w') (hk : k ∉ X) : EncS w' k := by
  obtain ⟨f, n, s, o, a⟩ := h
  exact ⟨f, n, s, he.own o hk, a⟩
theorem EncS.own (h : EncS w k) : ∃ cs, Own w k cs T_node_enc := by
  obtain ⟨f, n, s, o, _⟩ := h
  exact ⟨_, o⟩
theorem EncAt.ext {X : List Nat} (h : EncAt w k v) (he : Ext X w w') (hk : k ∉ X) : EncAt w' k v := by
  obtain ⟨f, h⟩ := h
  exact ⟨f, he.own h.own hk, h.buf, h.n, h.sum, h.isB, h.le⟩
theorem getD_snoc {v : List Int} {x : Int} {j : Nat} (h : j < v.length + 1) : (v ++ [x]).getD j 0 = if j = v.length then x else v.getD j 0 := by
  rw [List.getD_eq_getElem?_getD, List.getD_eq_getElem?_getD]
  by_cases hj : j = v.length
  · subst hj
    rw [if_pos rfl, List.getElem?_append_right (Nat.le_refl _), Nat.sub_self]
    rfl
  · rw [if_neg hj, List.getElem?_append_left (by omega)]
theorem encPut_ok {x : Int} {R : World → Prop} (h : EncAt w k v) (hx : 0 ≤ x ∧ x < 256) (hl : v.length < 234) (hR : ∀ w', EncAt w' k (v ++ [x]) → Ext [k] w w' → R w') : node_enc_put.Call (some ⟨k, 0, none⟩) x w R := by
  apply node_enc_put.sound
  unfold node_enc_put.B0
  obtain ⟨f, h⟩ := h
  have hl' : ((v.length : Nat) : Int) < 234 := by omega
  refine Pn.mk ?_
  simp only [add_mk, Nat.zero_add]
  refine (LdI.fn (o := 234) (Own.drew h.own) (by omega) h.n (Pn.mk ⟨⟨by omega, hl'⟩, ?_⟩))
  simp only [add_mk, Int.toNat_natCast, Nat.mul_one, Nat.zero_add]
  refine Sts.fn (g := fun j => if j = v.length then .int .u8 x else f j) (Own.drew h.own) (by simp; omega) rfl (fun j hj => ?_) fun w1 hs1 o1 he1 => ?_
  · unfold fnPut
    by_cases hj' : j = v.length
    · subst hj'
      simp
    · rw [if_neg (by simp; omega), if_neg hj']
  refine Pn.mk (LdI.fn (o := 234) o1 (by omega) (by rw [if_neg (by omega)]; exact h.n) (Pn.mk ?_))
  refine Sts.fn (g := fun j => if j = 234 then .int .i64 ((v.length + 1 : Nat) : Int) else if j = v.length then .int .u8 x else f j) o1 (by simp) rfl (fun j hj => ?_) fun w2 hs2 o2 he2 => ?_
  · unfold fnPut
    by_cases hj' : j = 234
    · subst hj'
      rw [w64 (by omega) (by omega)]
      simp
    · rw [if_neg (by simp; omega), if_neg hj']
  refine Pn.mk (LdI.fn (o := 235) o2 (by omega) (by rw [if_neg (by omega), if_neg (by omega)]; exact h.sum) (mix_ok (sumL_bd v) hx (Pn.mk ?_)))
  refine Sts.fn (g := fun j => if j = 235 then .int .i64 (mixI (sumL v) x) else if j = 234 then .int .i64 ((v.length + 1 : Nat) : Int) else if j = v.length then .int .u8 x else f j) o2 (by simp) rfl (fun j hj => ?_) fun w3 hs3 o3 he3 => ?_
  · unfold fnPut
    by_cases hj' : j = 235
    · subst hj'
      simp
    · rw [if_neg (by simp; omega), if_neg hj']
  have hlen : (v ++ [x]).length = v.length + 1 := by simp
  refine hR w3 ⟨_, o3, fun j hj => ?_, ?_, ?_, h.isB.append (IsB.one hx), by omega⟩ (((Ext.drew [k] w).trans he1).trans (he2.trans he3))
  · rw [hlen] at hj
    rw [if_neg (by omega), if_neg (by omega), getD_snoc hj]
    split
    · rfl
    · exact h.buf j (by omega)
  · rw [if_neg (by omega), if_pos rfl, hlen]
  · rw [if_pos rfl, sumL_snoc]
theorem encNum_ok {x : Int} {R : World → Prop} (h : EncAt w k v) (hx : 0 ≤ x ∧ x ≤ 72057594037927936) (hl : v.length + 8 ≤ 234) (hR : ∀ w', EncAt w' k (v ++ enc8 x) → Ext [k] w w' → R w') : node_enc_num.Call (some ⟨k, 0, none⟩) x w R := by
  apply node_enc_num.sound
  unfold node_enc_num.B0
  rw [wu64 hx.1 (by omega)]
  have p : ∀ (n : Int) (m : Int), 0 < m → (2 : Int) ^ (min n.toNat IntKind.u64.bits) = m → IntKind.u8.wrap (x.fdiv (2 ^ (min n.toNat IntKind.u64.bits))) = x / m % 256 := fun n m hm he => by
    rw [he, wrap8_eq, Int.fdiv_eq_ediv_of_nonneg _ (Int.le_of_lt hm)]
  rw [p 56 72057594037927936 (by omega) (by decide), p 48 281474976710656 (by omega) (by decide), p 40 1099511627776 (by omega) (by decide), p 32 4294967296 (by omega) (by decide), p 24 16777216 (by omega) (by decide), p 16 65536 (by omega) (by decide), p 8 256 (by omega) (by decide), wrap8_eq]
  refine ⟨by omega, encPut_ok h (by omega) (by omega) fun w1 h1 e1 => ⟨by omega, encPut_ok h1 (by omega) (by simp; omega) fun w2 h2 e2 => ⟨by omega, encPut_ok h2 (by omega) (by simp; omega) fun w3 h3 e3 => ⟨by omega, encPut_ok h3 (by omega) (by simp; omega) fun w4 h4 e4 => ⟨by omega, encPut_ok h4 (by omega) (by simp; omega) fun w5 h5 e5 => ⟨by omega, encPut_ok h5 (by omega) (by simp; omega) fun w6 h6 e6 => ⟨by omega, encPut_ok h6 (by omega) (by simp; omega) fun w7 h7 e7 => encPut_ok h7 (by omega) (by simp; omega) fun w8 h8 e8 => hR w8 ?_ (((((((e1.trans e2).trans e3).trans e4).trans e5).trans e6).trans e7).trans e8)⟩⟩⟩⟩⟩⟩⟩
  simpa [enc8] using h8
theorem encText_ok {s : ByteArray} {R : World → Prop} (h : EncAt w k v) (hs : s.size ≤ 255) (hl : v.length + 1 + s.size ≤ 234) (hR : ∀ w', EncAt w' k (v ++ putS s) → Ext [k] w w' → R w') : node_enc_text.Call (some ⟨k, 0, none⟩) s w R := by
  apply node_enc_text.sound
  unfold node_enc_text.B0
  rw [wrap8_id (by omega) (by omega)]
  refine encPut_ok h (by omega) (by omega) fun w1 h1 e1 => ?_
  unfold node_enc_text.L1
  refine ⟨fun m k' s' i w2 => ∃ n : Nat, n ≤ s.size ∧ m = s.size - n ∧ some ⟨k, 0, none⟩ = k' ∧ s = s' ∧ i = (n : Int) ∧ EncAt w2 k (v ++ [(s.size : Int)] ++ (strB s).take n) ∧ Ext [k] w w2, _,
    ⟨0, Nat.zero_le _, rfl, rfl, rfl, rfl, by rw [List.take_zero, List.append_nil]; exact h1, e1⟩, ?_⟩
  rintro m k' s' i w2 ⟨n, hn, rfl, rfl, rfl, rfl, h2, e2⟩
  unfold node_enc_text.L1b
  refine Bm.ite (fun hlt => ⟨⟨by omega, hlt⟩, ?_⟩) fun hge => ?_
  · have hbd := Kv.byteAt_bd s (n : Int)
    refine encPut_ok (x := byteAt s (n : Int)) h2 hbd (by
      simp only [List.length_append, List.length_take, List.length_cons, List.length_nil]
      omega) fun w3 h3 e3 => ?_
    rw [List.append_assoc, take_strB_succ (by omega)] at h3
    exact ⟨_, by omega, n + 1, by omega, rfl, rfl, rfl, by rw [w64 (by omega) (by omega)]; omega, h3, e2.trans e3⟩
  · have e : n = s.size := by omega
    subst e
    rw [List.take_of_length_le (by rw [strB_length]; omega), List.append_assoc] at h2
    exact hR w2 h2 e2
theorem EncAt.rd (h : EncAt w k v) : Rd w (some ⟨k, 0, none⟩) v := by
  obtain ⟨f, h⟩ := h
  refine ⟨h.isB, .inr ⟨k, 0, rfl, h.own.lt, fun i x hx => ?_⟩⟩
  have hi := (List.getElem?_eq_some_iff.1 hx).1
  have hle := h.le
  rw [Nat.zero_add, h.own.cell_eq, fnArr_get f (by omega), h.buf i hi, List.getD_eq_getElem?_getD, hx]
  rfl
theorem flat_take {E : List EntV} {n : Nat} {x : EntV} (h : E[n]? = some x) : (E.take (n + 1)).flatMap entB = (E.take n).flatMap entB ++ entB x := by
  rw [take_succ' h, List.flatMap_append]
  simp
theorem encode_ok {R : ByteArray → World → Prop} (h : EncS w k) (hE : EA w b ll c m.ents) (hll : ll ≤ 1000) (hR : ∀ w', EncS w' k → Ext [k] w w' → R (encM m) w') : node_enc_encode.Call (some ⟨k, 0, none⟩) m.kind m.fr m.to m.term m.idx m.lt m.cm m.ok b ll c m.data w R := by
  apply node_enc_encode.sound
  unfold node_enc_encode.B0
  have hl := EA.len hE
  refine New.mk fun m0 w1 e1 s1 o1 he1 => ?_
  have om1 : Own w1 m0 (msgC m b ll c).toArray T_api_Msg := o1
  have hE1 := hE.ext0 he1
  refine ldMsg om1 (fits_ok hE1 hll fun w2 he2 => ?_)
  have om2 := he2.own om1 (by simp)
  have hE2 := hE1.ext0 he2
  have E2 := he1.trans he2
  have h2 := h.ext E2 (by simp)
  cases hb : msgB m with
  | false =>
    refine Bm.pos rfl ?_
    have := hR w2 h2 E2.nil
    unfold encM at this
    rw [hb] at this
    exact this
  | true =>
    refine Bm.neg rfl ?_
    have hm := (msgB_iff m).1 hb
    have bl := bodyL_le hm
    have bi := bodyL_isB hm
    unfold encM at hR
    rw [hb] at hR
    have a1 := hm.kind
    have a2 := hm.fr
    have a3 := hm.to
    have a4 := hm.len
    have a5 := hm.data
    obtain ⟨f, n0, s0, of, _⟩ := h2
    obtain ⟨cs, okk⟩ : ∃ cs, Own w2 k cs T_node_enc := ⟨_, of⟩
    -- other blocks stay
    have keepM : ∀ {wx : World}, Ext [k] w2 wx → Own wx m0 (msgC m b ll c).toArray T_api_Msg := fun {wx} he => ownT he (Tys.one okk) om2 (by decide)
    have keepE : ∀ {wx : World}, Ext [k] w2 wx → EA wx b ll c m.ents := fun {wx} he => rowT hE2 he (Tys.one okk) (by decide)
    refine Pn.mk ?_
    simp only [add_mk, Nat.zero_add]
    refine Sts.fn (g := fun j => if j = 234 then .int .i64 0 else f j) of (by simp) rfl (fun j hj => ?_) fun w3 hs3 o3 he3 => ?_
    · unfold fnPut
      by_cases hj' : j = 234
      · subst hj'; simp
      · rw [if_neg (by simp; omega), if_neg hj']
    refine Pn.mk ?_
    simp only [add_mk, Nat.zero_add]
    refine Sts.fn (g := fun j => if j = 235 then .int .i64 7439 else if j = 234 then .int .i64 0 else f j) o3 (by simp) rfl (fun j hj => ?_) fun w4 hs4 o4 he4 => ?_
    · unfold fnPut
      by_cases hj' : j = 235
      · subst hj'; simp
      · rw [if_neg (by simp; omega), if_neg hj']
    have E4 := he3.trans he4
    have h4 : EncAt w4 k [] := ⟨_, o4, fun j hj => by simp at hj, by simp, by simp [sumL], IsB.nil, by simp⟩
    -- behind the head's four bytes
    have b1 : ∀ {wx : World}, EncAt wx k [m.kind, m.fr, m.to, if m.ok then 1 else 0] → Ext [k] w2 wx → node_enc_encode.B1 (some ⟨k, 0, none⟩) m0 wx R := fun {wx} hx ex => by
      unfold node_enc_encode.B1
      refine LdI.mk (keepM ex) rfl (encNum_ok hx hm.term (by simp) fun w5 h5 e5 => ?_)
      have E5 := ex.trans e5
      refine LdI.mk (keepM E5) rfl (encNum_ok h5 hm.idx (by simp [enc8_length]) fun w6 h6 e6 => ?_)
      have E6 := E5.trans e6
      refine LdI.mk (keepM E6) rfl (encNum_ok h6 hm.lt (by simp [enc8_length]) fun w7 h7 e7 => ?_)
      have E7 := E6.trans e7
      refine LdI.mk (keepM E7) rfl (encNum_ok h7 hm.cm (by simp [enc8_length]) fun w8 h8 e8 => ?_)
      have E8 := E7.trans e8
      refine LdL.mk (keepM E8) rfl ?_
      rw [wrap8_id (by omega) (by omega)]
      refine encPut_ok h8 (by omega) (by simp [enc8_length]) fun w9 h9 e9 => ?_
      have E9 := E8.trans e9
      let H : List Int := [m.kind, m.fr, m.to, if m.ok then 1 else 0] ++ enc8 m.term ++ enc8 m.idx ++ enc8 m.lt ++ enc8 m.cm ++ [(m.ents.length : Int)]
      have hH : H.length = 37 := by simp [H, enc8_length]
      have h9' : EncAt w9 k H := by
        have : (ll : Int) = (m.ents.length : Int) := by omega
        rw [this] at h9
        exact h9
      unfold node_enc_encode.L1
      refine ⟨fun mm k' m' i w' => ∃ n : Nat, n ≤ ll ∧ mm = ll - n ∧ some ⟨k, 0, none⟩ = k' ∧ m0 = m' ∧ i = (n : Int) ∧ EncAt w' k (H ++ (m.ents.take n).flatMap entB) ∧ Ext [k] w2 w', _, ⟨0, by omega, rfl, rfl, rfl, rfl, by simpa using h9', E9⟩, ?_⟩
      rintro mm k' m' i wa ⟨n, hn, rfl, rfl, rfl, rfl, ha, ea⟩
      unfold node_enc_encode.L1b
      have flen : ((m.ents.take n).flatMap entB).length ≤ 33 * n := by
        have := ents_length (m.ents.take n) (fun x hx => (hm.ent x (List.mem_of_mem_take hx)).2.2)
        rw [List.length_take] at this
        omega
      refine LdL.mk (keepM ea) rfl (Bm.ite (fun hlt => ?_) fun hge => ?_)
      · obtain ⟨x, hx⟩ := get_lt' (L := m.ents) (n := n) (by omega)
        have hxm := hm.ent x (List.mem_of_getElem? hx)
        refine LdL.mk (keepM ea) rfl ((keepE ea).ldT hx (encNum_ok ha ⟨hxm.1, hxm.2.1⟩ (by rw [List.length_append]; omega) fun wb hb' eb => ?_))
        have Eb := ea.trans eb
        refine LdL.mk (keepM Eb) rfl ((keepE Eb).ldD hx (encText_ok hb' (by omega) (by rw [List.length_append, List.length_append, enc8_length]; omega) fun wc hc ec => ?_))
        refine ⟨ll - (n + 1), by omega, n + 1, by omega, rfl, rfl, rfl, by rw [w64 (by omega) (by omega)]; omega, ?_, Eb.trans ec⟩
        rw [flat_take hx]
        show EncAt wc k (H ++ ((m.ents.take n).flatMap entB ++ (enc8 x.1 ++ putS x.2)))
        simpa [List.append_assoc] using hc
      · have hnl : n = ll := by omega
        subst hnl
        have ht : m.ents.take n = m.ents := List.take_of_length_le (by omega)
        rw [ht] at ha flen
        refine LdS.mk (keepM ea) rfl (encText_ok ha (by omega) (by rw [List.length_append]; omega) fun wb hb' eb => ?_)
        have hbody : EncAt wb k (bodyL m) := hb'
        obtain ⟨fb, xb⟩ := hbody
        refine Pn.mk ?_
        simp only [add_mk, Nat.zero_add]
        refine LdI.fn (o := 235) xb.own (by omega) xb.sum ⟨by omega, ?_⟩
        have sb := sumL_bd (bodyL m)
        have e3 : (2 : Int) ^ (min (8 : Int).toNat IntKind.i64.bits) = 256 := by decide
        rw [e3, Int.fdiv_eq_ediv_of_nonneg _ (by omega), wrap8_id (x := sumL (bodyL m) / 256) (by omega) (by omega)]
        refine encPut_ok ⟨fb, xb⟩ (by omega) (by omega) fun wc hc ec => ?_
        rw [wrap8_eq]
        refine encPut_ok hc (by omega) (by simp; omega) fun wd hd ed => ?_
        have Ed := ((ea.trans eb).trans ec).trans ed
        have hfull : EncAt wd k (bodyL m ++ sumB (bodyL m)) := by
          unfold sumB
          simpa [List.append_assoc] using hd
        have hdr := hfull.rd
        have hrest := hfull.rest
        obtain ⟨fd, xd⟩ := hfull
        have hlen : (bodyL m ++ sumB (bodyL m)).length = (bodyL m).length + 2 := by simp [sumB]
        refine Pn.mk (Pn.mk ?_)
        simp only [add_mk, Nat.zero_add]
        refine LdI.fn (o := 234) (Own.drew xd.own) (by omega) xd.n ⟨⟨by omega, by omega⟩, ?_⟩
        have e4 : slBaseA (⟨k, 0, none⟩ : Addr) ((0 : Nat) : Int) ((234 : Nat) : Int) 1 = ⟨k, 0, none⟩ := by
          have e0 : ((234 : Nat) : Int).toNat ≠ ((0 : Nat) : Int).toNat := by decide
          unfold slBaseA
          rw [if_neg e0]
          exact add_mk k 0 0
        have e5 : (((bodyL m ++ sumB (bodyL m)).length : Nat) : Int).toNat - ((0 : Nat) : Int).toNat = (bodyL m ++ sumB (bodyL m)).length := by rw [Int.toNat_natCast, Int.toNat_natCast, Nat.sub_zero]
        rw [e5]
        show ToStr (some (slBaseA (⟨k, 0, none⟩ : Addr) ((0 : Nat) : Int) ((234 : Nat) : Int) 1)) _ _ _
        rw [e4]
        refine toStr_rd (hdr.ext0 (Ext.drew [] wd)) rfl ?_
        exact hR wd.drew (hrest.ext (Ext.drew [] wd) (by simp)) (((E2.nil).trans Ed).trans (Ext.drew _ wd))
    refine LdI.mk (keepM E4) rfl ?_
    rw [wrap8_id (by omega) (by omega)]
    refine encPut_ok h4 (by omega) (by simp) fun w5 h5 e5 => ?_
    have E5 := E4.trans e5
    refine LdI.mk (keepM E5) rfl ?_
    rw [wrap8_id (by omega) (by omega)]
    refine encPut_ok h5 (by omega) (by simp) fun w6 h6 e6 => ?_
    have E6 := E5.trans e6
    refine LdI.mk (keepM E6) rfl ?_
    rw [wrap8_id (by omega) (by omega)]
    refine encPut_ok h6 (by omega) (by simp) fun w7 h7 e7 => ?_
    have E7 := E6.trans e7
    refine LdB.mk (keepM E7) rfl (Bm.mk (fun hk => encPut_ok h7 (by omega) (by simp) fun w8 h8 e8 => b1 ?_ (E7.trans e8)) fun hk => encPut_ok h7 (by omega) (by simp) fun w8 h8 e8 => b1 ?_ (E7.trans e8))
    · rw [hk]
      simpa using h8
    · rw [hk]
      simpa using h8
set_option maxRecDepth 20000 in
theorem Encode_ok {R : ByteArray → World → Prop} (hE : EA w b ll c m.ents) (hll : ll ≤ 1000) (hR : ∀ w', Ext [] w w' → R (encM m) w') : node_Encode.Call m.kind m.fr m.to m.term m.idx m.lt m.cm m.ok b ll c m.data w R := by
  apply node_Encode.sound
  unfold node_Encode.B0
  refine New.mk fun m0 w1 e1 s1 o1 he1 => New.mk fun k w2 ek s2 ok he2 => ?_
  have om2 : Own w2 m0 (msgC m b ll c).toArray T_api_Msg := he2.own o1 (by simp)
  have E2 := he1.trans he2
  have z1 := he1.size
  refine ldMsg om2 (encode_ok ⟨fun j => if j < 234 then .int .u8 0 else .int .i64 0, 0, 0, ok, rfl, rfl, by omega, by omega, by omega, by omega⟩ (hE.ext0 E2) hll fun w3 _ e3 => hR w3 (E2.trans' e3 (fun y hy hl => by simp at hy; omega)))
end
end Go.Proofs.Qxb6500430aGreat
