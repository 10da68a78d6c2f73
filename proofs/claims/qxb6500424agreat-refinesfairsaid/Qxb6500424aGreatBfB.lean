/-
  the real send buffer (cut out of gen/seg).
-/
import Derived.Test.Qxb6500424aGreatBfA
set_option linter.unusedVariables false
set_option linter.unusedSimpArgs false
open Go.Vc
namespace Go.Proofs.Qxb6500424aGreat


/-! ### a ring read out -/
section
variable {w : World} {p N : Nat} {f : Nat → Value} {t : TypeId} {r : Nat → Int}
theorem ring_rd (hp : Own w p (fnArr N f) t) (hN : 16 ≤ N) (hf : ∀ i, i < 16 → f i = .int .u8 (r i)) {a : Nat} {L : List Int} (hB : IsB L) (hL : a + L.length ≤ 16) (hr : ∀ (i : Nat) x, L[i]? = some x → r (a + i) = x) : Rd w (some ⟨p, a, none⟩) L := by
  refine ⟨hB, .inr ⟨p, a, rfl, hp.lt, fun i x hx => hp.cell ?_⟩⟩
  have hi := (List.getElem?_eq_some_iff.1 hx).1
  rw [fnArr_get _ (by omega), hf _ (by omega), hr i x hx]
theorem take_app_drop (L : List Int) (k : Nat) (h : k ≤ L.length) : (L.take k ++ List.replicate (L.length - k) 0).length = L.length := by simp; omega
/-- The first run. -/
theorem ring_fst {k n a q : Nat} {L : List Int} {K : Int → World → Prop} (hp : Own w p (fnArr N f) t) (hN : 16 ≤ N) (hf : ∀ i, i < 16 → f i = .int .u8 (r i)) (ha : a < 16) (hL : L.length = n) (hB : IsB L) (hr : ∀ (i : Nat) x, L[i]? = some x → r ((a + i) % 16) = x) (hq : q ≤ n) (hq2 : a + q ≤ 16) (hk : Bf w k (List.replicate n 0))
    (hK : ∀ w', w'.heap.size = w.heap.size → Bf w' k (L.take q ++ List.replicate (n - q) 0) → Ext [k] w w' → K (q : Int) w') : Copy 1 (some ⟨k, 0, none⟩) n (some ⟨p, a, none⟩) q w K := by
  have hl : (L.take q).length = q := by simp; omega
  have hrd : Rd w (some ⟨p, a, none⟩) (L.take q) := ring_rd hp hN hf (hB.take q) (by omega) fun i x hx => by
    have hi := (List.getElem?_eq_some_iff.1 hx).1
    rw [List.getElem?_take, if_pos (by omega)] at hx
    rw [← hr i x hx]
    congr 1
    omega
  have hm : Nat.min q n = q := Nat.min_eq_left hq
  refine hk.copy hrd (by rw [hl, hm]) (by simp; omega) fun w' hs hf' he => ?_
  rw [hm]
  refine hK w' hs ?_ he
  rw [hl, List.take_zero, List.nil_append, Nat.zero_add, List.drop_replicate] at hf'
  exact hf'
/-- The second. -/
theorem ring_snd {k n a q : Nat} {L : List Int} {K : Int → World → Prop} (hp : Own w p (fnArr N f) t) (hN : 16 ≤ N) (hf : ∀ i, i < 16 → f i = .int .u8 (r i)) (ha : a < 16) (hL : L.length = n) (hn : n ≤ 16) (hB : IsB L) (hr : ∀ (i : Nat) x, L[i]? = some x → r ((a + i) % 16) = x) (hq : q = n ∨ (q < n ∧ a + q = 16)) (hk : Bf w k (L.take q ++ List.replicate (n - q) 0))
    (hK : ∀ x w', w'.heap.size = w.heap.size → Bf w' k L → Ext [k] w w' → K x w') : Copy 1 (slBase (some ⟨k, 0, none⟩) (q : Int) ((n : Nat) : Int) 1) (n - q) (some ⟨p, 0, none⟩) (n - q) w K := by
  have hl : (L.take q).length = q := by simp; omega
  have hdl : (L.drop q).length = n - q := by simp; omega
  have hrd : Rd w (some ⟨p, 0, none⟩) (L.drop q) := by
    rcases hq with e | ⟨h1, h2⟩
    · rw [List.drop_of_length_le (by omega)]
      exact Rd.nil _ _
    · refine ring_rd hp hN hf (hB.drop q) (by omega) fun i x hx => ?_
      have hi := (List.getElem?_eq_some_iff.1 hx).1
      rw [List.getElem?_drop] at hx
      rw [← hr (q + i) x hx]
      congr 1
      omega
  have eb : ∃ o, slBase (some (⟨k, 0, none⟩ : Addr)) (q : Int) ((n : Nat) : Int) 1 = some ⟨k, o, none⟩ ∧ (o = q ∨ (q = n ∧ o = 0)) := by
    rcases hq with e | ⟨h1, h2⟩
    · refine ⟨0, ?_, .inr ⟨e, rfl⟩⟩
      subst e
      simp [slBase]
    · refine ⟨q, ?_, .inl rfl⟩
      unfold slBase
      rw [if_neg (by omega)]
      simp [add_mk]
  obtain ⟨o, eo, ho⟩ := eb
  rw [eo]
  have hm : Nat.min (n - q) (n - q) = n - q := Nat.min_eq_left (Nat.le_refl _)
  refine hk.copy hrd (by rw [hdl, hm]) (by simp; omega) fun w' hs hf' he => hK _ w' hs ?_ he
  have hqn : q ≤ n := by omega
  rcases ho with rfl | ⟨rfl, rfl⟩
  · have e : (L.take o ++ List.replicate (n - o) 0).take o ++ (L.drop o ++ (L.take o ++ List.replicate (n - o) 0).drop (o + (L.drop o).length)) = L := by
      have e2 : (L.take o ++ List.replicate (n - o) 0).drop (o + (L.drop o).length) = [] := List.drop_of_length_le (by simp; omega)
      rw [e2, List.take_append_of_le_length (by omega), List.take_of_length_le (by omega), List.append_nil, List.take_append_drop]
    rw [e] at hf'
    exact hf'
  · have e : L.drop q = [] := List.drop_of_length_le (by omega)
    rw [e, Nat.sub_self] at hf'
    simp only [List.replicate_zero, List.append_nil, List.take_zero, List.nil_append, List.length_nil, Nat.add_zero, List.drop_zero] at hf'
    rw [List.take_of_length_le (by omega)] at hf'
    exact hf'
end
/-! ### the real send buffer -/
structure SbR where
  r : Nat → Int
  head : Nat
  cnt : Nat
  sent : Nat
  una : Int
structure SbS where
  una : Int
  D : List Int
  sent : Nat
def sbF (X : SbR) (o : Nat) : Value := if o < 16 then .int .u8 (X.r o) else if o = 16 then .int .i64 (X.head : Int) else if o = 17 then .int .i64 (X.cnt : Int) else if o = 18 then .int .i64 (X.sent : Int) else .int .u8 X.una
def SbAt (w : World) (p : Nat) (X : SbR) : Prop := Own w p (fnArr 20 (sbF X)) T_seg_SendBuf
structure SbOk (S : SbS) : Prop where
  una : 0 ≤ S.una ∧ S.una < 256
  len : S.D.length ≤ 16
  sent : S.sent ≤ S.D.length
  isB : IsB S.D
structure SbRel (X : SbR) (S : SbS) : Prop where
  head : X.head < 16
  cnt : X.cnt = S.D.length
  sent : X.sent = S.sent
  una : X.una = S.una
  ring : ∀ (i : Nat) x, S.D[i]? = some x → X.r ((X.head + i) % 16) = x
def SR (w : World) (p : Nat) (S : SbS) : Prop := ∃ X, SbAt w p X ∧ SbRel X S
section
variable {w : World} {p : Nat} {X : SbR} {S : SbS}
theorem SbAt.ext {w' : World} {Y : List Nat} (h : SbAt w p X) (he : Ext Y w w') (hb : p ∉ Y) : SbAt w' p X := he.own h hb
theorem SbAt.ext0 {w' : World} (h : SbAt w p X) (he : Ext [] w w') : SbAt w' p X := he.own h (by simp)
theorem SbAt.drew (h : SbAt w p X) : SbAt w.drew p X := Own.drew h
theorem SbAt.ldHead {K : Int → Prop} (h : SbAt w p X) (hk : K (X.head : Int)) : LdI .i64 (Addr.add ⟨p, 0, none⟩ 16) w K := by
  rw [add_mk]
  exact LdI.fn (o := 16) h (by omega) rfl hk
theorem SbAt.ldCnt {K : Int → Prop} (h : SbAt w p X) (hk : K (X.cnt : Int)) : LdI .i64 (Addr.add ⟨p, 0, none⟩ 17) w K := by
  rw [add_mk]
  exact LdI.fn (o := 17) h (by omega) rfl hk
theorem SbAt.ldSent {K : Int → Prop} (h : SbAt w p X) (hk : K (X.sent : Int)) : LdI .i64 (Addr.add ⟨p, 0, none⟩ 18) w K := by
  rw [add_mk]
  exact LdI.fn (o := 18) h (by omega) rfl hk
theorem SbAt.ldUna {K : Int → Prop} (h : SbAt w p X) (hk : K X.una) : LdI .u8 (Addr.add ⟨p, 0, none⟩ 19) w K := by
  rw [add_mk]
  exact LdI.fn (o := 19) h (by omega) rfl hk
theorem SbAt.st {K : World → Prop} {o : Nat} {v : Value} (X' : SbR) (h : SbAt w p X) (ho : o < 20) (h1 : [v].all Value.oneCell' = true) (hg : ∀ j, j < 20 → (if j = o then v else sbF X j) = sbF X' j) (hk : ∀ w', w'.heap.size = w.heap.size → SbAt w' p X' → Ext [p] w w' → K w') : Sts [v] (Addr.add ⟨p, 0, none⟩ o) 0 w K := by
  rw [add_mk, Nat.zero_add]
  refine Sts.fn (g := sbF X') h (by simp; omega) h1 (fun j hj => ?_) hk
  rw [← hg j hj]
  unfold fnPut
  by_cases e : j = o
  · subst e
    rw [if_pos (by simp), if_pos rfl]
    simp
  · rw [if_neg (by simp; omega), if_neg e]
theorem sb_cases {j : Nat} {P : Nat → Prop} (h : ∀ j, j < 16 → P j) (h16 : P 16) (h17 : P 17) (h18 : P 18) (h19 : P 19) (hj : j < 20) : P j := by
  by_cases c : j < 16
  · exact h j c
  · have : j = 16 ∨ j = 17 ∨ j = 18 ∨ j = 19 := by omega
    rcases this with rfl | rfl | rfl | rfl <;> assumption
theorem sbF_ring {i : Nat} (hi : i < 16) : sbF X i = .int .u8 (X.r i) := by unfold sbF; rw [if_pos hi]
theorem SbAt.stHead {K : World → Prop} {v : Nat} (h : SbAt w p X) (hk : ∀ w', w'.heap.size = w.heap.size → SbAt w' p { X with head := v } → Ext [p] w w' → K w') : Sts [.int .i64 (v : Int)] (Addr.add ⟨p, 0, none⟩ 16) 0 w K :=
  h.st _ (by omega) rfl (fun j hj => sb_cases (P := fun j => (if j = 16 then (.int .i64 (v : Int) : Value) else sbF X j) = sbF { X with head := v } j) (fun j hj => by rw [if_neg (by omega), sbF_ring hj, sbF_ring hj]) rfl rfl rfl rfl hj) hk
theorem SbAt.stCnt {K : World → Prop} {v : Nat} (h : SbAt w p X) (hk : ∀ w', w'.heap.size = w.heap.size → SbAt w' p { X with cnt := v } → Ext [p] w w' → K w') : Sts [.int .i64 (v : Int)] (Addr.add ⟨p, 0, none⟩ 17) 0 w K :=
  h.st _ (by omega) rfl (fun j hj => sb_cases (P := fun j => (if j = 17 then (.int .i64 (v : Int) : Value) else sbF X j) = sbF { X with cnt := v } j) (fun j hj => by rw [if_neg (by omega), sbF_ring hj, sbF_ring hj]) rfl rfl rfl rfl hj) hk
theorem SbAt.stSent {K : World → Prop} {v : Nat} (h : SbAt w p X) (hk : ∀ w', w'.heap.size = w.heap.size → SbAt w' p { X with sent := v } → Ext [p] w w' → K w') : Sts [.int .i64 (v : Int)] (Addr.add ⟨p, 0, none⟩ 18) 0 w K :=
  h.st _ (by omega) rfl (fun j hj => sb_cases (P := fun j => (if j = 18 then (.int .i64 (v : Int) : Value) else sbF X j) = sbF { X with sent := v } j) (fun j hj => by rw [if_neg (by omega), sbF_ring hj, sbF_ring hj]) rfl rfl rfl rfl hj) hk
theorem SbAt.stUna {K : World → Prop} {v : Int} (h : SbAt w p X) (hk : ∀ w', w'.heap.size = w.heap.size → SbAt w' p { X with una := v } → Ext [p] w w' → K w') : Sts [.int .u8 v] (Addr.add ⟨p, 0, none⟩ 19) 0 w K :=
  h.st _ (by omega) rfl (fun j hj => sb_cases (P := fun j => (if j = 19 then (.int .u8 v : Value) else sbF X j) = sbF { X with una := v } j) (fun j hj => by rw [if_neg (by omega), sbF_ring hj, sbF_ring hj]) rfl rfl rfl rfl hj) hk
theorem SR.ext {w' : World} {Y : List Nat} (h : SR w p S) (he : Ext Y w w') (hb : p ∉ Y) : SR w' p S := by
  obtain ⟨X, h1, h2⟩ := h
  exact ⟨X, h1.ext he hb, h2⟩
theorem SR.ext0 {w' : World} (h : SR w p S) (he : Ext [] w w') : SR w' p S := h.ext he (by simp)
theorem SR.lt (h : SR w p S) : p < w.heap.size := by
  obtain ⟨X, h1, h2⟩ := h
  exact Own.lt h1
def S0s : SbS := ⟨0, [], 0⟩
theorem S0s_ok : SbOk S0s := ⟨by decide, by decide, by decide, IsB.nil⟩
theorem sNew_ok {R : Option Addr → World → Prop} (hR : ∀ p w', w.heap.size ≤ p → SR w' p S0s → Ext [] w w' → R (some ⟨p, 0, none⟩) w') : seg_NewSendBuf.Call w R := by
  apply seg_NewSendBuf.sound
  unfold seg_NewSendBuf.B0
  refine New.mk fun p w1 e1 s1 o1 he1 => hR p w1 (by omega) ⟨⟨fun _ => 0, 0, 0, 0, 0⟩, ?_, ⟨by decide, rfl, rfl, rfl, fun i x hx => by simp [S0s] at hx⟩⟩ he1
  unfold SbAt
  exact o1
theorem sUna_ok {R : Int → World → Prop} (h : SR w p S) (hS : SbOk S) (hR : R S.una w) : seg_SendBuf_Una.Call (some ⟨p, 0, none⟩) w R := by
  apply seg_SendBuf_Una.sound
  unfold seg_SendBuf_Una.B0
  obtain ⟨X, h1, h2⟩ := h
  refine Pn.mk (h1.ldUna ?_)
  rw [h2.una, w64b hS.una]
  exact hR
def nxtS (S : SbS) : Int := (S.una + (S.sent : Int)) % 256
theorem sNxt_ok {R : Int → World → Prop} (h : SR w p S) (hS : SbOk S) (hR : ∀ w', Ext [] w w' → R (nxtS S) w') : seg_SendBuf_Nxt.Call (some ⟨p, 0, none⟩) w R := by
  apply seg_SendBuf_Nxt.sound
  unfold seg_SendBuf_Nxt.B0
  obtain ⟨X, h1, h2⟩ := h
  refine Pn.mk (h1.drew.ldUna (Pn.mk (h1.drew.ldSent ?_)))
  have e : IntKind.i64.wrap (IntKind.u8.wrap (X.una + IntKind.u8.wrap (X.sent : Int))) = nxtS S := by
    have hu := hS.una
    rw [wrap8_eq, wrap8_eq, h2.una, h2.sent, w64 (by omega) (by omega)]
    unfold nxtS
    omega
  rw [e]
  exact hR _ (Ext.drew _ _)
theorem sLen_ok {R : Int → World → Prop} (h : SR w p S) (hR : R (S.D.length : Int) w) : seg_SendBuf_Len.Call (some ⟨p, 0, none⟩) w R := by
  apply seg_SendBuf_Len.sound
  unfold seg_SendBuf_Len.B0
  obtain ⟨X, h1, h2⟩ := h
  refine Pn.mk (h1.ldCnt ?_)
  rw [h2.cnt]
  exact hR
theorem sUnsent_ok {R : Int → World → Prop} (h : SR w p S) (hS : SbOk S) (hR : ∀ w', Ext [] w w' → R ((S.D.length : Int) - (S.sent : Int)) w') : seg_SendBuf_Unsent.Call (some ⟨p, 0, none⟩) w R := by
  apply seg_SendBuf_Unsent.sound
  unfold seg_SendBuf_Unsent.B0
  obtain ⟨X, h1, h2⟩ := h
  have := hS.len
  have := hS.sent
  refine Pn.mk (h1.drew.ldCnt (Pn.mk (h1.drew.ldSent ?_)))
  rw [h2.cnt, h2.sent, w64 (by omega) (by omega)]
  exact hR _ (Ext.drew _ _)
/-- A run of the held bytes. -/
theorem span_ok {off n : Nat} {R : Option Addr → Nat → Nat → World → Prop} (h : SR w p S) (hS : SbOk S) (hb : off + n ≤ S.D.length) (hR : ∀ k w', w.heap.size ≤ k → Bf w' k ((S.D.drop off).take n) → Ext [] w w' → R (some ⟨k, 0, none⟩) n n w') : seg_SendBuf_span.Call (some ⟨p, 0, none⟩) (off : Int) (n : Int) w R := by
  apply seg_SendBuf_span.sound
  unfold seg_SendBuf_span.B0
  obtain ⟨X, h1, h2⟩ := h
  have hl := hS.len
  have hh := h2.head
  refine make8_ok rfl (by omega) (by omega) fun k w1 hk hs1 hf1 he1 => Pn.mk ((h1.ext0 he1).ldHead ⟨by decide, ?_⟩)
  rw [Int.toNat_natCast] at hf1 ⊢
  rw [w64 (x := (X.head : Int) + (off : Int)) (by omega) (by omega), tmod_pos _ (by omega), show ((X.head : Int) + (off : Int)) % 16 = (((X.head + off) % 16 : Nat) : Int) by omega]
  generalize ha : (X.head + off) % 16 = a
  have ha16 : a < 16 := by omega
  rw [w64 (x := (16 : Int) - (a : Int)) (by omega) (by omega), show (16 : Int) - (a : Int) = ((16 - a : Nat) : Int) by omega]
  have hL : ((S.D.drop off).take n).length = n := by simp; omega
  have hB : IsB ((S.D.drop off).take n) := (hS.isB.drop off).take n
  have hr : ∀ (i : Nat) x, ((S.D.drop off).take n)[i]? = some x → X.r ((a + i) % 16) = x := fun i x hx => by
    have hi := (List.getElem?_eq_some_iff.1 hx).1
    rw [List.getElem?_take, if_pos (by omega), List.getElem?_drop] at hx
    rw [← h2.ring (off + i) x hx]
    congr 1
    omega
  have run : ∀ q : Nat, q ≤ n → a + q ≤ 16 → (q = n ∨ (q < n ∧ a + q = 16)) → seg_SendBuf_span.B1 (some ⟨p, 0, none⟩) (n : Int) (some ⟨k, 0, none⟩) n n (a : Int) (q : Int) w1 R := fun q hq hq2 hq3 => by
    unfold seg_SendBuf_span.B1
    rw [w64 (x := (a : Int) + (q : Int)) (by omega) (by omega), w64 (x := (n : Int) - (q : Int)) (by omega) (by omega)]
    refine Pn.mk ⟨⟨by omega, by omega⟩, ⟨by omega, by omega⟩, ?_⟩
    have eA : slBaseA ⟨p, 0, none⟩ (a : Int) ((16 : Nat) : Int) 1 = ⟨p, a, none⟩ := by
      unfold slBaseA
      rw [if_neg (by omega), addr_k]
      simp
    have e0 : slBaseA ⟨p, 0, none⟩ ((0 : Nat) : Int) ((16 : Nat) : Int) 1 = ⟨p, 0, none⟩ := by
      unfold slBaseA
      rw [if_neg (by omega), addr_k]
    rw [eA, show ((a : Int) + (q : Int)).toNat - (a : Int).toNat = q by omega]
    refine ring_fst (r := X.r) (h1.ext0 he1) (by omega) (fun i hi => sbF_ring hi) ha16 hL hB hr hq hq2 hf1 fun w2 hs2 hf2 he2 => ⟨⟨by omega, by omega⟩, Pn.mk ⟨⟨by omega, by omega⟩, ?_⟩⟩
    rw [e0, show ((n : Nat) : Int).toNat - (q : Int).toNat = n - q by omega, show ((n : Int) - (q : Int)).toNat - ((0 : Nat) : Int).toNat = n - q by omega]
    have ex2 : Ext [] w w2 := he1.trans' he2 (fun x hx hlt => by simp at hx; omega)
    refine ring_snd (r := X.r) ((h1.ext0 ex2).drew) (by omega) (fun i hi => sbF_ring hi) ha16 hL (by omega) hB hr hq3 (hf2.ext0 (Ext.drew _ _)) fun x w3 hs3 hf3 he3 => ?_
    exact hR k w3 (by omega) hf3 ((ex2.trans (Ext.drew _ _)).trans' he3 (fun x hx hlt => by simp at hx; omega))
  refine Bm.ite (fun hc => run n (by omega) (by omega) (.inl rfl)) fun hc => run (16 - a) (by omega) (by omega) (by omega)
theorem sAgain_ok {mx : Int} {R : Int → Option Addr → Nat → Nat → World → Prop} (h : SR w p S) (hS : SbOk S) (hR : ∀ k w', w.heap.size ≤ k → Bf w' k (S.D.take (leastN mx S.sent)) → Ext [] w w' → R S.una (some ⟨k, 0, none⟩) (leastN mx S.sent) (leastN mx S.sent) w') : seg_SendBuf_Again.Call (some ⟨p, 0, none⟩) mx w R := by
  apply seg_SendBuf_Again.sound
  unfold seg_SendBuf_Again.B0
  have hx := h
  obtain ⟨X, h1, h2⟩ := hx
  refine Pn.mk (h1.ldSent ?_)
  rw [h2.sent]
  have := leastN_le mx S.sent
  have := hS.sent
  refine least_ok (span_ok (off := 0) h hS (by omega) fun k w' hk hf he => Pn.mk ((h1.ext0 he).ldUna ?_))
  rw [h2.una, w64b hS.una]
  rw [List.drop_zero] at hf
  exact hR k w' hk hf he
def nextA (mx : Int) (S : SbS) : SbS := { S with sent := S.sent + leastN mx (S.D.length - S.sent) }
theorem nextA_ok (hS : SbOk S) (mx : Int) : SbOk (nextA mx S) := by
  have := leastN_le mx (S.D.length - S.sent)
  have := hS.sent
  exact ⟨hS.una, hS.len, by unfold nextA; simp only; omega, hS.isB⟩
theorem sNext_ok {mx : Int} {R : Int → Option Addr → Nat → Nat → World → Prop} (h : SR w p S) (hS : SbOk S) (hR : ∀ k w', w.heap.size ≤ k → Bf w' k ((S.D.drop S.sent).take (leastN mx (S.D.length - S.sent))) → SR w' p (nextA mx S) → Ext [p] w w' → R (nxtS S) (some ⟨k, 0, none⟩) (leastN mx (S.D.length - S.sent)) (leastN mx (S.D.length - S.sent)) w') : seg_SendBuf_Next.Call (some ⟨p, 0, none⟩) mx w R := by
  apply seg_SendBuf_Next.sound
  unfold seg_SendBuf_Next.B0
  have hx := h.ext0 (Ext.drew [] w)
  obtain ⟨X, h1, h2⟩ := hx
  have hn := leastN_le mx (S.D.length - S.sent)
  have hs := hS.sent
  have hl := hS.len
  refine Pn.mk (h1.ldCnt (Pn.mk (h1.ldSent ?_)))
  rw [h2.cnt, h2.sent, w64 (by omega) (by omega), show (S.D.length : Int) - (S.sent : Int) = ((S.D.length - S.sent : Nat) : Int) by omega]
  refine least_ok (sNxt_ok ⟨X, h1, h2⟩ hS fun w2 he2 => Pn.mk ((h1.ext0 he2).ldSent ?_))
  rw [h2.sent]
  refine span_ok ⟨X, h1.ext0 he2, h2⟩ hS (by omega) fun k w3 hk hf he3 => Pn.mk (((h1.ext0 he2).ext0 he3).ldSent (Pn.mk ?_))
  rw [h2.sent, w64 (by omega) (by omega), show (S.sent : Int) + (leastN mx (S.D.length - S.sent) : Int) = ((S.sent + leastN mx (S.D.length - S.sent) : Nat) : Int) by omega]
  have z := he2.size
  have zl := h.lt
  have zd : w.drew.heap.size = w.heap.size := rfl
  refine ((h1.ext0 he2).ext0 he3).stSent fun w4 hs4 h4 he4 => hR k w4 (by omega) (hf.ext he4 (by simp; omega)) ⟨_, h4, ⟨h2.head, h2.cnt, rfl, h2.una, h2.ring⟩⟩ (((Ext.drew [] w).trans (he2.trans he3)).nil.trans he4)
def ackA (a : Int) (S : SbS) : Int × SbS := if sqDiff a S.una ≤ 0 ∨ (S.sent : Int) < sqDiff a S.una then (0, S) else (sqDiff a S.una, ⟨(S.una + sqDiff a S.una) % 256, S.D.drop (sqDiff a S.una).toNat, S.sent - (sqDiff a S.una).toNat⟩)
theorem ackA_ok (hS : SbOk S) (a : Int) : SbOk (ackA a S).2 := by
  unfold ackA
  split
  · exact hS
  · have := hS.len; have := hS.sent
    exact ⟨by simp only; omega, by simp; omega, by simp; omega, hS.isB.drop _⟩
theorem sAck_ok {a : Int} {R : Int → World → Prop} (h : SR w p S) (hS : SbOk S) (hR : ∀ w', SR w' p (ackA a S).2 → Ext [p] w w' → R (ackA a S).1 w') : seg_SendBuf_Ack.Call (some ⟨p, 0, none⟩) a w R := by
  apply seg_SendBuf_Ack.sound
  unfold seg_SendBuf_Ack.B0
  have hx := h
  obtain ⟨X, h1, h2⟩ := hx
  have hl := hS.len
  have hs := hS.sent
  refine Pn.mk (h1.ldUna ?_)
  rw [h2.una, w64b hS.una]
  refine seqDiff_ok ?_
  unfold ackA at hR
  have bad : (sqDiff a S.una ≤ 0 ∨ (S.sent : Int) < sqDiff a S.una) → seg_SendBuf_Ack.B1 (some ⟨p, 0, none⟩) (sqDiff a S.una) true w R := fun hc => by
    unfold seg_SendBuf_Ack.B1
    rw [if_pos hc] at hR
    exact Bm.pos rfl (hR w h (Ext.refl _ _))
  refine Bm.ite (fun hc => bad (.inl hc)) fun hc => Pn.mk (h1.ldSent ?_)
  rw [h2.sent]
  by_cases hc2 : sqDiff a S.una > (S.sent : Int)
  · rw [decide_eq_true hc2]; exact bad (.inr hc2)
  rw [decide_eq_false hc2]
  rw [if_neg (by omega)] at hR
  obtain ⟨d, hd⟩ : ∃ d : Nat, sqDiff a S.una = (d : Int) := ⟨(sqDiff a S.una).toNat, by omega⟩
  rw [hd] at hR hc hc2 ⊢
  rw [Int.toNat_natCast] at hR
  unfold seg_SendBuf_Ack.B1
  have hh := h2.head
  have ec := h2.cnt
  refine Bm.neg rfl (Pn.mk (h1.ldHead ⟨by decide, Pn.mk ?_⟩))
  rw [w64 (by omega) (by omega), tmod_pos _ (by omega), show ((X.head : Int) + (d : Int)) % 16 = (((X.head + d) % 16 : Nat) : Int) by omega]
  refine h1.stHead fun w1 hs1 g1 he1 => Pn.mk (g1.ldCnt (Pn.mk ?_))
  rw [show IntKind.i64.wrap ((X.cnt : Int) - (d : Int)) = ((X.cnt - d : Nat) : Int) by rw [w64 (by omega) (by omega)]; omega]
  refine g1.stCnt fun w2 hs2 g2 he2 => Pn.mk (g2.ldSent (Pn.mk ?_))
  rw [show IntKind.i64.wrap ((X.sent : Int) - (d : Int)) = ((X.sent - d : Nat) : Int) by have := h2.sent; rw [w64 (by omega) (by omega)]; omega]
  refine g2.stSent fun w3 hs3 g3 he3 => Pn.mk (g3.ldUna (Pn.mk ?_))
  refine g3.stUna fun w4 hs4 g4 he4 => hR w4 ⟨_, g4, ⟨?_, ?_, ?_, ?_, ?_⟩⟩ (((he1.trans he2).trans he3).trans he4)
  · show (X.head + d) % 16 < 16; omega
  · show X.cnt - d = (S.D.drop d).length; simp; omega
  · show X.sent - d = S.sent - d; rw [h2.sent]
  · show IntKind.u8.wrap (X.una + IntKind.u8.wrap (d : Int)) = (S.una + (d : Int)) % 256
    rw [wrap8_eq, wrap8_eq, h2.una]
    omega
  · intro i x hx
    show X.r (((X.head + d) % 16 + i) % 16) = x
    rw [List.getElem?_drop] at hx
    rw [← h2.ring _ x hx]
    congr 1
    omega
def resetS (seq : Int) : SbS := ⟨sqAdd seq 0, [], 0⟩
theorem resetS_ok (seq : Int) : SbOk (resetS seq) := ⟨sqAdd_bd _ _, by simp [resetS], by simp [resetS], IsB.nil⟩
theorem sReset_ok {seq : Int} {R : World → Prop} (h : SR w p S) (hR : ∀ w', SR w' p (resetS seq) → Ext [p] w w' → R w') : seg_SendBuf_Reset.Call (some ⟨p, 0, none⟩) seq w R := by
  apply seg_SendBuf_Reset.sound
  unfold seg_SendBuf_Reset.B0
  obtain ⟨X, h1, h2⟩ := h
  refine seqAdd_ok (Pn.mk ?_)
  have hb := sqAdd_bd seq 0
  rw [wrap8_id hb.1 hb.2]
  exact h1.stUna fun w1 hs1 g1 he1 => Pn.mk (g1.stHead (v := 0) fun w2 hs2 g2 he2 => Pn.mk (g2.stCnt (v := 0) fun w3 hs3 g3 he3 => Pn.mk (g3.stSent (v := 0) fun w4 hs4 g4 he4 => hR w4 ⟨_, g4, ⟨by show 0 < 16; omega, rfl, rfl, rfl, fun i x hx => by simp [resetS] at hx⟩⟩ (((he1.trans he2).trans he3).trans he4))))
def putA (P : List Int) (S : SbS) : Nat × SbS := (min P.length (16 - S.D.length), { S with D := S.D ++ P.take (min P.length (16 - S.D.length)) })
theorem putA_ok (hS : SbOk S) {P : List Int} (hP : IsB P) : SbOk (putA P S).2 := by
  have := hS.len
  have := hS.sent
  exact ⟨hS.una, by simp [putA]; omega, by simp [putA]; omega, hS.isB.append (hP.take _)⟩
/-- The ring behind a write of the list P from place a on, round its end. -/
def ringPut (r : Nat → Int) (a q n : Nat) (P : List Int) : Nat → Int := fun j => if j < n - q then P.getD (q + j) 0 else if a ≤ j ∧ j < a + q then P.getD (j - a) 0 else r j
theorem sPut_ok {P : List Int} {pb : Option Addr} {pl pc : Nat} {R : Int → World → Prop} (h : SR w p S) (hS : SbOk S) (hP : ∀ w', Ext [p] w w' → Rd w' pb P) (hl : P.length = pl) (hc : pl ≤ pc) (hpl : pl ≤ 281474976710656)
    (hR : ∀ w', SR w' p (putA P S).2 → Ext [p] w w' → R ((putA P S).1 : Int) w') : seg_SendBuf_Put.Call (some ⟨p, 0, none⟩) pb pl pc w R := by
  apply seg_SendBuf_Put.sound
  unfold seg_SendBuf_Put.B0
  obtain ⟨X, h1, h2⟩ := h
  have hDl := hS.len
  have hh := h2.head
  have ec := h2.cnt
  refine Pn.mk (h1.ldCnt ?_)
  rw [w64 (by omega) (by omega), show (16 : Int) - (X.cnt : Int) = ((16 - S.D.length : Nat) : Int) by omega]
  refine least_ok (Pn.mk (h1.drew.ldHead (Pn.mk (h1.drew.ldCnt ⟨by decide, ?_⟩))))
  have en : leastN (pl : Int) (16 - S.D.length) = min P.length (16 - S.D.length) := by unfold leastN; omega
  rw [en]
  generalize hn : min P.length (16 - S.D.length) = n
  rw [w64 (x := (X.head : Int) + (X.cnt : Int)) (by omega) (by omega), tmod_pos _ (by omega), show ((X.head : Int) + (X.cnt : Int)) % 16 = (((X.head + X.cnt) % 16 : Nat) : Int) by omega]
  generalize ha : (X.head + X.cnt) % 16 = a
  have ha16 : a < 16 := by omega
  rw [w64 (x := (16 : Int) - (a : Int)) (by omega) (by omega), show (16 : Int) - (a : Int) = ((16 - a : Nat) : Int) by omega]
  have run : ∀ q : Nat, q ≤ n → a + q ≤ 16 → (q = n ∨ (q < n ∧ a + q = 16)) → seg_SendBuf_Put.B1 (some ⟨p, 0, none⟩) pb pl pc (n : Int) (a : Int) (q : Int) w.drew R := fun q hq hq2 hq3 => by
    unfold seg_SendBuf_Put.B1
    rw [w64 (x := (a : Int) + (q : Int)) (by omega) (by omega), w64 (x := (n : Int) - (q : Int)) (by omega) (by omega)]
    have eA : slBaseA ⟨p, 0, none⟩ (a : Int) ((16 : Nat) : Int) 1 = ⟨p, a, none⟩ := by
      unfold slBaseA
      rw [if_neg (by omega), addr_k]
      simp
    have e0 : slBaseA ⟨p, 0, none⟩ ((0 : Nat) : Int) ((16 : Nat) : Int) 1 = ⟨p, 0, none⟩ := by
      unfold slBaseA
      rw [if_neg (by omega), addr_k]
    refine Pn.mk ⟨⟨by omega, by omega⟩, ⟨by omega, by omega⟩, ⟨by omega, by omega⟩, ?_⟩
    rw [eA, slBase0, show ((a : Int) + (q : Int)).toNat - (a : Int).toNat = q by omega, show (q : Int).toNat - ((0 : Nat) : Int).toNat = q by omega]
    have rd0 : Rd w.drew.drew pb (P.take q) := (hP _ ((Ext.drew _ _).trans (Ext.drew _ _))).take q
    have lq : (P.take q).length = q := by simp; omega
    refine Copy.fn (g := sbF { X with r := ringPut X.r a q q P }) (Own.drew (Own.drew h1)) rd0.cells (by rw [U8_length, lq]; exact (Nat.min_self q).symm) (by rw [U8_length, lq]; omega) (U8_all _) (fun j hj => ?_) fun w1 hs1 g1 he1 => ?_
    · unfold fnPut
      rw [U8_length, lq]
      by_cases hc1 : a ≤ j ∧ j < a + q
      · rw [if_pos hc1, sbF_ring (by omega)]
        show (U8 (P.take q)).getD (j - a) undef = Value.int .u8 (ringPut X.r a q q P j)
        unfold ringPut
        rw [if_neg (by omega), if_pos hc1]
        have hlt : j - a < P.length := by omega
        rw [List.getD_eq_getElem?_getD, U8_get, List.getElem?_take, if_pos (by omega), List.getElem?_eq_getElem hlt, List.getD_eq_getElem?_getD, List.getElem?_eq_getElem hlt]
        rfl
      · rw [if_neg hc1]
        unfold sbF
        split
        · show Value.int .u8 (X.r j) = Value.int .u8 (ringPut X.r a q q P j)
          unfold ringPut
          rw [if_neg (by omega), if_neg hc1]
        · rfl
    · have g1' : SbAt w1 p { X with r := ringPut X.r a q q P } := g1
      refine Pn.mk ⟨⟨by omega, by omega⟩, ⟨by omega, by omega⟩, ⟨by omega, by omega⟩, ?_⟩
      rw [e0, show ((n : Int) - (q : Int)).toNat - ((0 : Nat) : Int).toNat = n - q by omega, show (n : Int).toNat - (q : Int).toNat = n - q by omega]
      have rd1 : Rd w1.drew (slBase pb (q : Int) ((pc : Nat) : Int) 1) ((P.drop q).take (n - q)) := ((hP _ ((((Ext.drew _ _).trans (Ext.drew _ _)).trans he1).trans (Ext.drew _ _))).drop q (by omega)).take (n - q)
      have l2 : ((P.drop q).take (n - q)).length = n - q := by simp; omega
      refine Copy.fn (o := 0) (g := sbF { X with r := ringPut X.r a q n P }) (Own.drew g1) rd1.cells (by rw [U8_length, l2]; exact (Nat.min_self _).symm) (by rw [U8_length, l2]; omega) (U8_all _) (fun j hj => ?_) fun w2 hs2 g2 he2 => ?_
      · unfold fnPut
        rw [U8_length, l2]
        by_cases hc1 : j < n - q
        · rw [if_pos (by omega), sbF_ring (by omega)]
          show (U8 ((P.drop q).take (n - q))).getD (j - 0) undef = Value.int .u8 (ringPut X.r a q n P j)
          unfold ringPut
          rw [if_pos hc1]
          have hlt : q + j < P.length := by omega
          rw [List.getD_eq_getElem?_getD, U8_get, List.getElem?_take, if_pos (by omega), List.getElem?_drop, Nat.sub_zero, List.getElem?_eq_getElem hlt, List.getD_eq_getElem?_getD, List.getElem?_eq_getElem hlt]
          rfl
        · rw [if_neg (by omega)]
          unfold sbF
          split
          · show Value.int .u8 (ringPut X.r a q q P j) = Value.int .u8 (ringPut X.r a q n P j)
            unfold ringPut
            rw [if_neg (by omega), if_neg hc1]
          · rfl
      · have g2' : SbAt w2 p { X with r := ringPut X.r a q n P } := g2
        refine Pn.mk (g2'.ldCnt (Pn.mk ?_))
        rw [show IntKind.i64.wrap ((X.cnt : Int) + (n : Int)) = ((X.cnt + n : Nat) : Int) by rw [w64 (by omega) (by omega)]; omega]
        have ex2 : Ext [p] w w2 := (((((Ext.drew _ _).trans (Ext.drew _ _)).trans he1).trans (Ext.drew _ _)).trans he2)
        refine g2'.stCnt fun w3 hs3 g3 he3 => ?_
        have := hR w3 ⟨_, g3, ⟨hh, ?_, h2.sent, h2.una, ?_⟩⟩ (ex2.trans he3)
        · unfold putA at this
          rw [hn] at this
          exact this
        · show X.cnt + n = (S.D ++ P.take (min P.length (16 - S.D.length))).length
          rw [hn, List.length_append, List.length_take]
          omega
        · intro i x hx
          show ringPut X.r a q n P ((X.head + i) % 16) = x
          have hx' : (S.D ++ P.take n)[i]? = some x := by rw [← hn]; exact hx
          have hil := (List.getElem?_eq_some_iff.1 hx').1
          rw [List.length_append, List.length_take] at hil
          unfold ringPut
          by_cases hi : i < S.D.length
          · rw [List.getElem?_append_left hi] at hx'
            rw [if_neg (by omega), if_neg (by omega)]
            exact h2.ring i x hx'
          · rw [List.getElem?_append_right (by omega), List.getElem?_take, if_pos (by omega)] at hx'
            have gx : P.getD (i - S.D.length) 0 = x := by rw [List.getD_eq_getElem?_getD, hx']; rfl
            by_cases hc1 : (X.head + i) % 16 < n - q
            · rw [if_pos hc1, ← gx]
              congr 1
              omega
            · rw [if_neg hc1, if_pos (by omega), ← gx]
              congr 1
              omega
  exact Bm.ite (fun hc => run n (by omega) (by omega) (.inl rfl)) fun hc => run (16 - a) (by omega) (by omega) (by omega)
end

end Go.Proofs.Qxb6500424aGreat
