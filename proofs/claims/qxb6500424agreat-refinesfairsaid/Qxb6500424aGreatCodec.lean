/-
  Encode and Decode of both sides.
-/
import Derived.Test.Qxb6500424aGreatLinks
set_option linter.unusedVariables false
open Go.Vc
namespace Go.Proofs.Qxb6500424aGreat.Fm

def encErr (dst typ : Int) (n : Nat) : Int := if dst < 0 ∨ 255 < dst then 5 else if typ < 0 ∨ 255 < typ then 6 else if 24 < n then 2 else 0
def encBody (dst addr typ : Int) (v : List Int) : List Int := [dst, addr, typ, (v.length : Int)] ++ v
def encFrame (dst addr typ : Int) (v : List Int) : List Int := encBody dst addr typ v ++ [sumS (encBody dst addr typ v) % 256, sumW (encBody dst addr typ v) % 256]
theorem encFrame_length (dst addr typ : Int) (v : List Int) : (encFrame dst addr typ v).length = v.length + 6 := by simp [encFrame, encBody]
theorem encErr_zero {dst typ : Int} {n : Nat} (h : encErr dst typ n = 0) : (0 ≤ dst ∧ dst ≤ 255) ∧ (0 ≤ typ ∧ typ ≤ 255) ∧ n ≤ 24 := by
  unfold encErr at h
  split at h
  · simp at h
  split at h
  · simp at h
  split at h
  · simp at h
  omega
theorem set_mid (pre : List Int) (y x : Int) (rest : List Int) : (pre ++ y :: rest).set pre.length x = pre ++ x :: rest := by
  induction pre with
  | nil => rfl
  | cons a r ih => simp [ih]

theorem realEncode_ok {w : World} {p : Nat} {s : LinkS} {n : Int} {dst typ : Int} {b : Option Addr} {l c : Nat} {v : List Int} {R : Option Addr → Nat → Nat → Int → World → Prop}
    (h : RealAt w p s) (hw : s.Wf n) (hn : n ≤ 1152921504606846976) (hv : Rd w b v) (hl : v.length = l) (hb : l ≤ 281474976710656) (hbp : ∀ k o, b = some ⟨k, o, none⟩ → k ≠ p)
    (he : encErr dst typ l ≠ 0 → R none 0 0 (encErr dst typ l) w)
    (hR : encErr dst typ l = 0 → ∀ k w', w.heap.size ≤ k → Bf w' k (encFrame dst s.addr typ v) → RealAt w' p (s.bump 0) → Ext [p] w w' → R (some ⟨k, 0, none⟩) (l + 6) (l + 6) 0 w') :
    frame_Link_Encode.Call (some ⟨p, 0, none⟩) dst typ b l c w R := by
  apply frame_Link_Encode.sound
  unfold frame_Link_Encode.B0
  have err5 : (dst < 0 ∨ 255 < dst) → R none 0 0 5 w := fun hd => by
    have e : encErr dst typ l = 5 := by unfold encErr; rw [if_pos hd]
    rw [e] at he
    exact he (by decide)
  refine Bm.ite (fun h1 => ?_) (fun h1 => ?_)
  · unfold frame_Link_Encode.B1
    exact Bm.pos rfl (err5 (.inl h1))
  unfold frame_Link_Encode.B1
  refine Bm.ite (fun h2 => err5 (.inr h2)) (fun h2 => ?_)
  have err6 : (typ < 0 ∨ 255 < typ) → R none 0 0 6 w := fun hd => by
    have e : encErr dst typ l = 6 := by unfold encErr; rw [if_neg (by omega), if_pos hd]
    rw [e] at he
    exact he (by decide)
  refine Bm.ite (fun h3 => ?_) (fun h3 => ?_)
  · unfold frame_Link_Encode.B2
    exact Bm.pos rfl (err6 (.inl h3))
  unfold frame_Link_Encode.B2
  refine Bm.ite (fun h4 => err6 (.inr h4)) (fun h4 => ?_)
  refine Bm.ite (fun h5 => ?_) (fun h5 => ?_)
  · have e : encErr dst typ l = 2 := by unfold encErr; rw [if_neg (by omega), if_neg (by omega), if_pos (by omega)]
    rw [e] at he
    exact he (by decide)
  have e0 : encErr dst typ l = 0 := by unfold encErr; rw [if_neg (by omega), if_neg (by omega), if_neg (by omega)]
  replace hR := hR e0
  have q1 : IntKind.i64.wrap ((4 : Int) + (l : Nat)) = 4 + (l : Nat) := w64 (by omega) (by omega)
  have q2 : IntKind.i64.wrap ((4 : Int) + (l : Nat) + 2) = ((l + 6 : Nat) : Int) := by rw [w64 (by omega) (by omega)]; omega
  simp only [q1, q2, wrap8_id (x := dst) (by omega) (by omega), wrap8_id (x := typ) (by omega) (by omega), wrap8_id (x := ((l : Nat) : Int)) (by omega) (by omega), Int.toNat_natCast]
  refine make8_ok rfl (by omega) (by omega) fun k w1 hk hs1 hf1 he1 => ?_
  have er : List.replicate ((l + 6 : Nat) : Int).toNat (0 : Int) = 0 :: 0 :: 0 :: 0 :: List.replicate (l + 2) 0 := by
    rw [Int.toNat_natCast]
    rfl
  rw [er] at hf1
  refine ⟨by omega, hf1.set (by simp) (by omega) fun w2 hs2 hf2 he2 => Pn.mk ?_⟩
  have hpk : p ≠ k := by have := Own.lt h; omega
  have E2 : Ext [] w w2 := he1.trans' he2 (fun x hx hlt => by simp at hx; omega)
  refine LdI.mk (E2.own h (by simp)) rfl ⟨by omega, hf2.set (by simp) hw.addr fun w3 hs3 hf3 he3 => ⟨by omega, hf3.set (by simp) (by omega) fun w4 hs4 hf4 he4 => ⟨by omega, hf4.set (by simp) (by omega) fun w5 hs5 hf5 he5 => ?_⟩⟩⟩
  have E5 : Ext [] w w5 := E2.trans' ((he3.trans he4).trans he5) (fun x hx hlt => by simp at hx; omega)
  refine New.mk fun u w6 hu hs6 ho6 he6 => ⟨by omega, ?_⟩
  have E6 : Ext [] w w6 := E5.trans he6
  have hf6 : Bf w6 k ([dst, s.addr, typ, (l : Int)] ++ List.replicate (l + 2) 0) := hf5.ext0 he6
  have huk : k ≠ u := by have := hf5.lt; omega
  rw [slBase0, show (4 : Int).toNat - 0 = 4 from rfl]
  refine sumAddAll_ok (v := []) (p := [dst, s.addr, typ, (l : Int)]) (by simpa [SumAt, sumS, sumW] using ho6) hf6.rd rfl (by omega) (fun k' o' e => ?_) fun w7 hs7 he7 hz7 => ?_
  · simp only [Option.some.injEq, Addr.mk.injEq] at e
    omega
  have E7 : Ext [] w w7 := E6.trans' he7 (fun x hx hlt => by simp at hx; have := E5.size; omega)
  have hf7 := hf6.ext he7 (by simp; omega)
  unfold frame_Link_Encode.L1
  have hsz5 := E5.size
  refine ⟨fun m p' b' l' c' n' rb' rl' rc' u' i w' => some ⟨p, 0, none⟩ = p' ∧ b = b' ∧ l = l' ∧ c = c' ∧ (l : Int) = n' ∧ some ⟨k, 0, none⟩ = rb' ∧ l + 6 = rl' ∧ l + 6 = rc' ∧ u = u' ∧ 0 ≤ i ∧ i ≤ l ∧ m = (l - i).toNat ∧ Ext [] w w' ∧
    Bf w' k ([dst, s.addr, typ, (l : Int)] ++ v.take i.toNat ++ List.replicate (l - i.toNat + 2) 0) ∧ SumAt w' u ([dst, s.addr, typ, (l : Int)] ++ v.take i.toNat), l,
    ⟨rfl, rfl, rfl, rfl, rfl, rfl, rfl, rfl, rfl, by omega, by omega, by omega, E7, by simpa using hf7, by simpa using hs7⟩, ?_⟩
  rintro m p' b' l' c' n' rb' rl' rc' u' i w' ⟨rfl, rfl, rfl, rfl, rfl, rfl, rfl, rfl, rfl, i0, i1, rfl, hE, hf, hS⟩
  unfold frame_Link_Encode.L1b
  have hvw := hv.ext0 hE
  refine Bm.ite (fun hi => ?_) (fun hi => ?_)
  · obtain ⟨x, hx⟩ : ∃ x, v[i.toNat]? = some x := ⟨_, List.getElem?_eq_getElem (by omega)⟩
    obtain ⟨kb, ob, rfl, hc⟩ := hvw.at hx
    have hkb : kb < w.heap.size := by
      rcases hv.2 with hn0 | ⟨k', o', e, hlt, _⟩
      · rw [hn0] at hx; simp at hx
      · simp only [Option.some.injEq, Addr.mk.injEq] at e
        rw [e.1]
        exact hlt
    rw [w64 (x := 4 + i) (by omega) (by omega)]
    refine Pn.mk ⟨⟨i0, hi⟩, LdI.cell (by rw [add_mk, Nat.mul_one]; exact hc) (Pn.mk ⟨⟨by omega, by omega⟩, ?_⟩)⟩
    rw [add_mk, show 0 + (4 + i).toNat * 1 = ([dst, s.addr, typ, (l : Int)] ++ v.take i.toNat).length by simp; omega]
    refine hf.set (by simp) (hv.1.get hx) fun w8 hs8 hf8 he8 => ?_
    have E8 : Ext [] w w8 := hE.trans' he8 (fun x hx hlt => by simp at hx; omega)
    obtain ⟨kb', ob', eb, hc8⟩ := (hv.ext0 E8).at hx
    simp only [Option.some.injEq, Addr.mk.injEq] at eb
    obtain ⟨rfl, rfl, _⟩ := eb
    refine Pn.mk ⟨⟨i0, hi⟩, LdI.cell (by rw [add_mk, Nat.mul_one]; exact hc8) ?_⟩
    have hS8 : SumAt w8 u ([dst, s.addr, typ, (l : Int)] ++ v.take i.toNat) := he8.own hS (by simp; omega)
    refine sumAdd_ok hS8 fun w9 hS9 he9 hz9 => ?_
    rw [w64 (x := i + 1) (by omega) (by omega)]
    refine ⟨(l - (i + 1)).toNat, by omega, rfl, rfl, rfl, rfl, rfl, rfl, rfl, rfl, rfl, by omega, by omega, rfl, E8.trans' he9 (fun x hx hlt => by simp at hx; omega), ?_, ?_⟩
    · have e1 : List.replicate (l - i.toNat + 2) (0 : Int) = 0 :: List.replicate (l - (i + 1).toNat + 2) 0 := by
        rw [show l - i.toNat + 2 = (l - (i + 1).toNat + 2) + 1 by omega]
        rfl
      rw [e1, set_mid] at hf8
      have e2 : (i + 1).toNat = i.toNat + 1 := by omega
      have hf9 := hf8.ext he9 (by simp; omega)
      have e3 : [dst, s.addr, typ, (l : Int)] ++ v.take i.toNat ++ x :: List.replicate (l - (i + 1).toNat + 2) 0 = [dst, s.addr, typ, (l : Int)] ++ v.take (i + 1).toNat ++ List.replicate (l - (i + 1).toNat + 2) 0 := by
        rw [e2, List.take_add_one, hx]
        simp
      rw [e3] at hf9
      exact hf9
    · rw [show (i + 1).toNat = i.toNat + 1 by omega, List.take_add_one, hx, ← List.append_assoc]
      exact hS9
  · have hil : i.toNat = l := by omega
    have eb : [dst, s.addr, typ, (l : Int)] ++ v.take i.toNat = encBody dst s.addr typ v := by
      rw [hil, List.take_of_length_le (by omega)]
      unfold encBody
      rw [hl]
    rw [eb, show l - i.toNat + 2 = 2 by omega] at hf
    rw [eb] at hS
    have hlen : (encBody dst s.addr typ v).length = 4 + l := by simp [encBody]; omega
    simp only [q1]
    refine sumA_real hS (Pn.mk ⟨⟨by omega, by omega⟩, ?_⟩)
    rw [add_mk, show 0 + (4 + (l : Int)).toNat * 1 = (encBody dst s.addr typ v).length by omega]
    refine hf.set (by simp) (by omega) fun w8 hs8 hf8 he8 => ?_
    have hS8 : SumAt w8 u (encBody dst s.addr typ v) := he8.own hS (by simp; omega)
    rw [show List.replicate 2 (0 : Int) = [0, 0] from rfl, set_mid] at hf8
    have ew : IntKind.i64.wrap ((4 : Int) + (l : Nat) + 1) = 4 + (l : Nat) + 1 := w64 (by omega) (by omega)
    rw [ew]
    refine sumB_real hS8 (Pn.mk ⟨⟨by omega, by omega⟩, ?_⟩)
    rw [add_mk, show 0 + (4 + (l : Int) + 1).toNat * 1 = (encBody dst s.addr typ v ++ [sumS (encBody dst s.addr typ v) % 256]).length by simp; omega]
    have hf8' : Bf w8 k ((encBody dst s.addr typ v ++ [sumS (encBody dst s.addr typ v) % 256]) ++ 0 :: []) := by simpa using hf8
    refine hf8'.set (by simp) (by omega) fun w9 hs9 hf9 he9 => ?_
    rw [set_mid] at hf9
    have E9 : Ext [] w w9 := hE.trans' (he8.trans he9) (fun x hx hlt => by simp at hx; omega)
    refine count_ok (E9.own h (by simp)) hw hn (.inl rfl) fun w10 hs10 hr10 he10 => ?_
    refine hR k w10 (by omega) ?_ hr10 (E9.nil.trans he10)
    have hf10 := hf9.ext he10 (by simp; omega)
    unfold encFrame
    simpa using hf10

theorem U8_isB4 {w : World} {k : Nat} {v : List Int} (h : Own w k (U8 v).toArray T_uint8) (hb : IsB v) : Bf w k v := ⟨h, hb⟩
/-- A slice of bytes as a row. -/
theorem Bf.row {w : World} {k : Nat} {v : List Int} (h : Bf w k v) : Row w (some ⟨k, 0, none⟩) v.length v.length 1 T_uint8 (U8 v) :=
  ⟨by simp [U8], Nat.le_refl _, .inr ⟨k, (U8 v).toArray, rfl, h.1, by simp [U8], by rw [Nat.mul_one, List.take_of_length_le (by simp [U8])]⟩⟩
theorem row_rd {w : World} {b : Option Addr} {l c : Nat} {v : List Int} (h : Row w b l c 1 T_uint8 (U8 v)) (hb : IsB v) : Rd w b v := by
  refine ⟨hb, ?_⟩
  rcases h.2.2 with ⟨rfl, hc⟩ | ⟨k, cs, rfl, ho, hs, ht⟩
  · refine .inl (List.eq_nil_of_length_eq_zero ?_)
    have h1 := h.1
    have h2 := h.2.1
    rw [U8_length] at h1
    omega
  · refine .inr ⟨k, 0, rfl, ho.lt, fun i x hx => ho.cell ?_⟩
    have h1 : (cs.toList.take (l * 1))[i]? = some (.int .u8 x) := by rw [ht, U8_get, hx]; rfl
    rw [List.getElem?_take] at h1
    split at h1
    · rw [Nat.zero_add]
      simpa using h1
    · simp at h1
theorem encBody_isB {dst addr typ : Int} {v : List Int} (hd : 0 ≤ dst ∧ dst ≤ 255) (ha : 0 ≤ addr ∧ addr < 256) (ht : 0 ≤ typ ∧ typ ≤ 255) (hl : v.length ≤ 24) (hv : IsB v) : IsB (encBody dst addr typ v) := fun x hx => by
  unfold encBody at hx
  rcases List.mem_append.1 hx with hx | hx
  · simp at hx
    omega
  · exact hv x hx

/-! ### Decode -/
/-- What both sides answer to a row of bytes: the Errno, the class that is counted, and the frame's four parts. -/
structure DecR where
  err : Int
  cls : Int
  dst : Int
  src : Int
  typ : Int
  pay : List Int
def decR (addr : Int) (p : List Int) : DecR :=
  if frameErr p ≠ 0 then ⟨frameErr p, 2, 0, 0, 0, []⟩
  else if p.getD 0 0 ≠ addr then ⟨7, 3, 0, 0, 0, []⟩
  else ⟨0, 1, p.getD 0 0, p.getD 1 0, p.getD 2 0, (p.drop 4).take (p.length - 6)⟩
theorem frameErr_zero {p : List Int} (h : frameErr p = 0) : 6 ≤ p.length ∧ p.length ≤ 30 ∧ p.getD 3 0 = (p.length : Int) - 6 := by
  unfold frameErr at h
  split at h
  · simp at h
  split at h
  · simp at h
  split at h
  · simp at h
  rename_i h1 h2 h3
  refine ⟨by omega, by omega, ?_⟩
  simpa using h3

theorem realDecode_ok {w : World} {p : Nat} {s : LinkS} {n : Int} {b : Option Addr} {l c : Nat} {v : List Int} {R : Int → Int → Int → Option Addr → Nat → Nat → Int → World → Prop}
    (h : RealAt w p s) (hw : s.Wf n) (hn : n ≤ 1152921504606846976) (hv : Rd w b v) (hl : v.length = l) (hc : l ≤ c) (hb : l ≤ 281474976710656) (hbp : ∀ k o, b = some ⟨k, o, none⟩ → k ≠ p)
    (hR : ∀ b' l' w', Bs w' b' l' l' (decR s.addr v).pay → (∀ k ∈ rowBlk b', w.heap.size ≤ k) → RealAt w' p (s.bump (decR s.addr v).cls) → Ext [p] w w' → R (decR s.addr v).dst (decR s.addr v).src (decR s.addr v).typ b' l' l' (decR s.addr v).err w') :
    frame_Link_Decode.Call (some ⟨p, 0, none⟩) b l c w R := by
  apply frame_Link_Decode.sound
  unfold frame_Link_Decode.B0
  refine New.mk fun r w1 hr hs1 ho1 he1 => sound_real (hv.ext0 he1) hl hc hb fun w2 he2 => ?_
  have E2 : Ext [] w w2 := he1.trans he2
  have hpl := Own.lt h
  have h2 : RealAt w2 p s := E2.own h (by simp)
  have hor2 := he2.own ho1 (by simp)
  have hz2 := he2.size
  unfold decR at hR
  refine Bm.mk (fun hf => ?_) (fun hf => ?_)
  · have hf' : frameErr v ≠ 0 := by simpa using hf
    rw [if_pos hf'] at hR
    refine count_ok h2 hw hn (.inr (.inr (.inl rfl))) fun w3 hs3 hr3 he3 => ?_
    have hor3 := he3.own hor2 (by simp; omega)
    refine Sts.full hor3 rfl rfl fun w4 hs4 ho4 he4 => ?_
    refine LdI.mk ho4 rfl (LdI.mk ho4 rfl (LdI.mk ho4 rfl (LdL.mk ho4 rfl ?_)))
    exact hR none 0 w4 (Bs.nil _) (fun k hk => by simp [rowBlk] at hk) (he4.own hr3 (by simp; omega)) ((E2.nil.trans he3).trans' he4 (fun x hx hlt => by simp at hx; omega))
  have hf0 : frameErr v = 0 := by simpa using hf
  obtain ⟨l6, l30, e3⟩ := frameErr_zero hf0
  rw [if_neg (by simp [hf0])] at hR
  obtain ⟨x0, hx0⟩ : ∃ x, v[0]? = some x := ⟨_, List.getElem?_eq_getElem (by omega)⟩
  obtain ⟨x1, hx1⟩ : ∃ x, v[1]? = some x := ⟨_, List.getElem?_eq_getElem (by omega)⟩
  obtain ⟨x2, hx2⟩ : ∃ x, v[2]? = some x := ⟨_, List.getElem?_eq_getElem (by omega)⟩
  obtain ⟨x3, hx3⟩ : ∃ x, v[3]? = some x := ⟨_, List.getElem?_eq_getElem (by omega)⟩
  rw [getD_of hx3] at e3
  rw [getD_of hx0, getD_of hx1, getD_of hx2] at hR
  have hv2 := hv.ext0 (E2.trans (Ext.drew [] w2))
  obtain ⟨k, o, rfl, _⟩ := hv2.at hx0
  have rdat : ∀ {w' : World}, Rd w' (some ⟨k, o, none⟩) v → ∀ {i x}, v[i]? = some x → w'.cell? ⟨k, o + i, none⟩ = some (.int .u8 x) := fun hw' i x hx => by
    obtain ⟨k', o', e, h'⟩ := hw'.at hx
    simp only [Option.some.injEq, Addr.mk.injEq] at e
    obtain ⟨rfl, rfl, _⟩ := e
    exact h'
  have hkp := hbp k o rfl
  refine Pn.mk ⟨⟨by omega, by omega⟩, LdI.cell (rdat hv2 hx0) (Pn.mk (LdI.mk (Own.drew h2) rfl ?_))⟩
  refine Bm.mk (fun hne => ?_) (fun heq => ?_)
  · have hne' : x0 ≠ s.addr := by simpa using hne
    rw [if_pos hne'] at hR
    refine count_ok (Own.drew h2) hw hn (.inr (.inr (.inr rfl))) fun w3 hs3 hr3 he3 => ?_
    have hor3 := he3.own hor2.drew (by simp; omega)
    refine Sts.full hor3 rfl rfl fun w4 hs4 ho4 he4 => ?_
    refine LdI.mk ho4 rfl (LdI.mk ho4 rfl (LdI.mk ho4 rfl (LdL.mk ho4 rfl ?_)))
    exact hR none 0 w4 (Bs.nil _) (fun k hk => by simp [rowBlk] at hk) (he4.own hr3 (by simp; omega)) (((E2.trans (Ext.drew [] w2)).nil.trans he3).trans' he4 (fun x hx hlt => by simp at hx; omega))
  have heq' : x0 = s.addr := by simpa using heq
  rw [if_neg (by simp [heq'])] at hR
  refine count_ok (Own.drew h2) hw hn (.inr (.inl rfl)) fun w3 hs3 hr3 he3 => ?_
  have E3 : Ext [p] w w3 := (E2.trans (Ext.drew [] w2)).nil.trans he3
  have hv3 := hv.ext E3 (fun k' o' e => by have := hbp k' o' e; simpa using this)
  refine Pn.mk ⟨⟨by omega, by omega⟩, LdI.cell (by rw [add_mk]; exact rdat hv3 hx3) ?_⟩
  have ew : IntKind.i64.wrap x3 = ((l - 6 : Nat) : Int) := by rw [w64 (by omega) (by omega)]; omega
  rw [ew, Int.toNat_natCast]
  refine make8_ok rfl (by omega) (by omega) fun r8 w8 hr8 hs8 hf8 he8 => ⟨by omega, ?_⟩
  have hz3 : w3.heap.size = w2.heap.size := hs3
  rw [Int.toNat_natCast] at hf8
  have hv8 := hv3.ext0 he8
  have hd8 : Rd w8 (slBase (some ⟨k, o, none⟩) ((4 : Nat) : Int) ((c : Nat) : Int) 1) (v.drop 4) := hv8.drop 4 (by omega)
  have hpay : ((v.drop 4).take (v.length - 6)).length = l - 6 := by simp; omega
  refine Copy.mk hf8.1 (hd8.take (v.length - 6)).cells (by rw [U8_length, hpay, Nat.mul_one]; exact (Nat.min_eq_right (by have : (4 : Int).toNat = 4 := rfl; omega)).symm) (by rw [U8_length, hpay]; simp [U8]) (U8_all _) fun w9 hs9 ho9 he9 => ?_
  rw [putArr_full _ _ (by rw [U8_length, hpay]; simp [U8])] at ho9
  have hf9 : Bf w9 r8 ((v.drop 4).take (v.length - 6)) := ⟨ho9, (hv.1.drop 4).take _⟩
  have E9 : Ext [p] w w9 := E3.trans' (he8.nil.trans he9) (fun x hx hlt => by simp at hx; omega)
  have hv9 := hv.ext (E9.trans (Ext.drew [p] w9)) (fun k' o' e => by have := hbp k' o' e; simpa using this)
  refine Pn.mk ⟨⟨by omega, by omega⟩, LdI.cell (rdat hv9 hx0) (Pn.mk ⟨⟨by omega, by omega⟩, LdI.cell (by rw [add_mk]; exact rdat hv9 hx1) (Pn.mk ⟨⟨by omega, by omega⟩, LdI.cell (by rw [add_mk]; exact rdat hv9 hx2) ?_⟩)⟩)⟩
  rw [w64b (hv.1.get hx0), w64b (hv.1.get hx1), w64b (hv.1.get hx2)]
  have hor9 := ((he9.own (he8.own (he3.own hor2.drew (by simp; omega)) (by simp)) (by simp; omega))).drew
  refine Sts.full hor9 rfl rfl fun w10 hs10 ho10 he10 => ?_
  refine LdI.mk ho10 rfl (LdI.mk ho10 rfl (LdI.mk ho10 rfl (LdL.mk ho10 rfl ?_)))
  refine hR _ _ w10 ?_ (fun k hk => by simp [rowBlk] at hk; omega) ?_ ((E9.trans (Ext.drew [p] w9)).trans' he10 (fun x hx hlt => by simp at hx; omega))
  · have hb9 := (hf9.ext (Ext.drew [] w9) (by simp)).bs
    rw [hpay] at hb9
    exact hb9.ext he10 (fun k' e => by simp at e; simp; omega)
  · exact he10.own (Own.drew (he9.own (he8.own hr3 (by simp)) (by simp; omega))) (by simp; omega)

end Go.Proofs.Qxb6500424aGreat.Fm
