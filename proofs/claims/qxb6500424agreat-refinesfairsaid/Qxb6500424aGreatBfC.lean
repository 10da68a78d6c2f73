/-
  the real receive buffer (cut out of gen/seg).
-/
import Derived.Test.Qxb6500424aGreatBfB
set_option linter.unusedVariables false
set_option linter.unusedSimpArgs false
open Go.Vc
namespace Go.Proofs.Qxb6500424aGreat


/-! ### bits -/
theorem w16 {x : Int} (h0 : 0 ≤ x) (h1 : x < 65536) : IntKind.u16.wrap x = x := by
  simp only [IntKind.wrap, IntKind.signed, IntKind.bits, Bool.false_and, Bool.false_eq_true, if_false]
  have e : (2 : Int) ^ (16 : Nat) = 65536 := by decide
  rw [e]
  omega
theorem wu64 {x : Int} (h0 : 0 ≤ x) (h1 : x < 65536) : IntKind.u64.wrap x = x := by
  simp only [IntKind.wrap, IntKind.signed, IntKind.bits, Bool.false_and, Bool.false_eq_true, if_false]
  have e : (2 : Int) ^ (64 : Nat) = 18446744073709551616 := by decide
  rw [e]
  omega
def one16 (p : Nat) : BitVec 16 := BitVec.ofNat 16 (2 ^ p)
theorem one16_get {p : Nat} (hp : p < 16) (i : Nat) : (one16 p).getLsbD i = decide (i = p) := by
  unfold one16
  rw [BitVec.getLsbD_ofNat, Nat.testBit_two_pow]
  by_cases e : i = p
  · subst e; simp [hp]
  · have e' : ¬ p = i := fun h => e h.symm
    simp [e, e']
def b16 (B : BitVec 16) : Int := (B.toNat : Int)
theorem b16_bd (B : BitVec 16) : 0 ≤ b16 B ∧ b16 B < 65536 := by have := B.isLt; unfold b16; omega
theorem ofb16 (B : BitVec 16) : BitVec.ofInt IntKind.u16.bits (b16 B) = B := by
  show BitVec.ofInt 16 ((B.toNat : Nat) : Int) = B
  rw [BitVec.ofInt_natCast]
  simp
theorem wb16 (B : BitVec 16) : IntKind.u16.wrap (B.toNat : Int) = b16 B := w16 (b16_bd B).1 (b16_bd B).2
theorem and16 (B C : BitVec 16) : IntKind.u16.wrap ((BitVec.ofInt IntKind.u16.bits (b16 B) &&& BitVec.ofInt IntKind.u16.bits (b16 C)).toNat : Int) = b16 (B &&& C) := by
  rw [ofb16, ofb16]
  exact wb16 _
theorem or16 (B C : BitVec 16) : IntKind.u16.wrap ((BitVec.ofInt IntKind.u16.bits (b16 B) ||| BitVec.ofInt IntKind.u16.bits (b16 C)).toNat : Int) = b16 (B ||| C) := by
  rw [ofb16, ofb16]
  exact wb16 _
theorem andn16 (B C : BitVec 16) : IntKind.u16.wrap ((BitVec.ofInt IntKind.u16.bits (b16 B) &&& ~~~ BitVec.ofInt IntKind.u16.bits (b16 C)).toNat : Int) = b16 (B &&& ~~~ C) := by
  rw [ofb16, ofb16]
  exact wb16 _
theorem one_nat {p : Nat} (hp : p < 16) : (one16 p).toNat = 2 ^ p := by
  unfold one16
  rw [BitVec.toNat_ofNat]
  have : p = 0 ∨ p = 1 ∨ p = 2 ∨ p = 3 ∨ p = 4 ∨ p = 5 ∨ p = 6 ∨ p = 7 ∨ p = 8 ∨ p = 9 ∨ p = 10 ∨ p = 11 ∨ p = 12 ∨ p = 13 ∨ p = 14 ∨ p = 15 := by omega
  rcases this with rfl | rfl | rfl | rfl | rfl | rfl | rfl | rfl | rfl | rfl | rfl | rfl | rfl | rfl | rfl | rfl <;> decide
theorem and_one {B : BitVec 16} {p : Nat} (hp : p < 16) : (b16 (B &&& one16 p) = 0) ↔ B.getLsbD p = false := by
  have hg : (B &&& one16 p).getLsbD p = B.getLsbD p := by rw [BitVec.getLsbD_and, one16_get hp]; simp
  constructor
  · intro h
    have e : B &&& one16 p = 0#16 := by
      apply BitVec.eq_of_toNat_eq
      unfold b16 at h
      simp only [BitVec.toNat_ofNat, Nat.zero_mod]
      omega
    rw [e] at hg
    rw [← hg]
    simp
  · intro h
    have e : B &&& one16 p = 0#16 := by
      apply BitVec.eq_of_getLsbD_eq
      intro i hi
      rw [BitVec.getLsbD_and, one16_get hp]
      by_cases c : i = p
      · subst c; simp [h]
      · simp [c]
    rw [e]
    rfl
theorem or_get {B : BitVec 16} {p : Nat} (hp : p < 16) (i : Nat) : (B ||| one16 p).getLsbD i = (B.getLsbD i || decide (i = p)) := by rw [BitVec.getLsbD_or, one16_get hp]
theorem andn_get {B : BitVec 16} {p : Nat} (hp : p < 16) {i : Nat} (hi : i < 16) : (B &&& ~~~ one16 p).getLsbD i = (B.getLsbD i && !decide (i = p)) := by rw [BitVec.getLsbD_and, BitVec.getLsbD_not, one16_get hp]; simp [hi]
/-! ### how many -/
def pcN (k n : Nat) : Nat := ((List.range k).filter fun i => n.testBit i).length
theorem pcN_succ (k n : Nat) : pcN (k + 1) n = n % 2 + pcN k (n / 2) := by
  unfold pcN
  rw [List.range_succ_eq_map, List.filter_cons]
  have e : (List.filter (fun i => n.testBit i) (List.map Nat.succ (List.range k))).length = (List.filter (fun i => (n / 2).testBit i) (List.range k)).length := by
    rw [List.filter_map, List.length_map]
    congr 2
    funext i
    show n.testBit (i + 1) = _
    rw [Nat.testBit_succ]
  have e0 : n.testBit 0 = decide (n % 2 = 1) := Nat.testBit_zero n
  split
  · rename_i h
    rw [e0] at h
    have := of_decide_eq_true h
    rw [List.length_cons, e]
    omega
  · rename_i h
    rw [e0] at h
    have : ¬ n % 2 = 1 := by simpa using h
    rw [e]
    omega
theorem and_half (x y : Nat) : (x &&& y) / 2 = (x / 2) &&& (y / 2) := by
  apply Nat.eq_of_testBit_eq
  intro i
  rw [Nat.testBit_div_two, Nat.testBit_and, Nat.testBit_and, Nat.testBit_div_two, Nat.testBit_div_two]
theorem and_par (x y : Nat) : (x &&& y) % 2 = if x % 2 = 1 ∧ y % 2 = 1 then 1 else 0 := by
  have h := Nat.testBit_and x y 0
  rw [Nat.testBit_zero, Nat.testBit_zero, Nat.testBit_zero] at h
  by_cases c : x % 2 = 1 ∧ y % 2 = 1
  · rw [if_pos c]
    rw [decide_eq_true c.1, decide_eq_true c.2] at h
    simpa using h
  · rw [if_neg c]
    have : ¬ (x &&& y) % 2 = 1 := fun e => by
      rw [e] at h
      simp at h
      exact c h
    omega
theorem pc_step : ∀ (k n : Nat), 0 < n → n < 2 ^ k → pcN k (n &&& (n - 1)) + 1 = pcN k n
  | 0, n, h0, h1 => by simp at h1; omega
  | k + 1, n, h0, h1 => by
    rw [pcN_succ, pcN_succ, and_half, and_par]
    have hk : n / 2 < 2 ^ k := by rw [Nat.pow_succ] at h1; omega
    by_cases c : n % 2 = 1
    · have e1 : (n - 1) / 2 = n / 2 := by omega
      rw [e1, if_neg (by omega), Nat.and_self]
      omega
    · have e1 : (n - 1) / 2 = n / 2 - 1 := by omega
      rw [e1, if_neg (by omega)]
      have ih := pc_step k (n / 2) (by omega) hk
      omega
theorem pc_zero (k : Nat) : pcN k 0 = 0 := by
  unfold pcN
  simp
/-! ### the plain receive buffer -/
structure RbS where
  nxt : Int
  A : List Int
  hv : Nat → Option Int
structure RbW (S : RbS) : Prop where
  nxt : 0 ≤ S.nxt ∧ S.nxt < 256
  len : S.A.length ≤ 16
  isB : IsB S.A
  hv : ∀ d x, S.hv d = some x → d + S.A.length < 16 ∧ 0 ≤ x ∧ x < 256
structure RbOk (S : RbS) : Prop extends RbW S where
  z : S.hv 0 = none
structure RbR where
  r : Nat → Int
  nxt : Int
  av : Nat
  B : BitVec 16
def rbF (X : RbR) (o : Nat) : Value := if o < 16 then .int .u8 (X.r o) else if o = 16 then .int .u8 X.nxt else if o = 17 then .int .i64 (X.av : Int) else .int .u16 (b16 X.B)
def RbAt (w : World) (p : Nat) (X : RbR) : Prop := Own w p (fnArr 19 (rbF X)) T_seg_RecvBuf
structure RbRel (X : RbR) (S : RbS) : Prop where
  nxt : X.nxt = S.nxt
  av : X.av = S.A.length
  ready : ∀ (i : Nat) x, S.A[i]? = some x → X.r ((S.nxt.toNat + 256 - S.A.length + i) % 16) = x
  bits : ∀ d, d < 16 → X.B.getLsbD ((S.nxt.toNat + d) % 16) = (S.hv d).isSome
  vals : ∀ d x, S.hv d = some x → X.r ((S.nxt.toNat + d) % 16) = x
def RR (w : World) (p : Nat) (S : RbS) : Prop := ∃ X, RbAt w p X ∧ RbRel X S
section
variable {w : World} {p : Nat} {X : RbR} {S : RbS}
theorem RbAt.ext {w' : World} {Y : List Nat} (h : RbAt w p X) (he : Ext Y w w') (hb : p ∉ Y) : RbAt w' p X := he.own h hb
theorem RbAt.ext0 {w' : World} (h : RbAt w p X) (he : Ext [] w w') : RbAt w' p X := he.own h (by simp)
theorem RbAt.drew (h : RbAt w p X) : RbAt w.drew p X := Own.drew h
theorem RbAt.ldNxt {K : Int → Prop} (h : RbAt w p X) (hk : K X.nxt) : LdI .u8 (Addr.add ⟨p, 0, none⟩ 16) w K := by
  rw [add_mk]
  exact LdI.fn (o := 16) h (by omega) rfl hk
theorem RbAt.ldAv {K : Int → Prop} (h : RbAt w p X) (hk : K (X.av : Int)) : LdI .i64 (Addr.add ⟨p, 0, none⟩ 17) w K := by
  rw [add_mk]
  exact LdI.fn (o := 17) h (by omega) rfl hk
theorem RbAt.ldB {K : Int → Prop} (h : RbAt w p X) (hk : K (b16 X.B)) : LdI .u16 (Addr.add ⟨p, 0, none⟩ 18) w K := by
  rw [add_mk]
  exact LdI.fn (o := 18) h (by omega) rfl hk
theorem RbAt.cellB (h : RbAt w p X) : w.cell? (Addr.add ⟨p, 0, none⟩ 18) = some (.int .u16 (b16 X.B)) := by
  rw [add_mk]
  exact Own.cell h (fnArr_get (o := 18) _ (by omega))
theorem rbF_ring {i : Nat} (hi : i < 16) : rbF X i = .int .u8 (X.r i) := by unfold rbF; rw [if_pos hi]
theorem RbAt.st {K : World → Prop} {o : Nat} {v : Value} (X' : RbR) (h : RbAt w p X) (ho : o < 19) (h1 : [v].all Value.oneCell' = true) (hg : ∀ j, j < 19 → (if j = o then v else rbF X j) = rbF X' j) (hk : ∀ w', w'.heap.size = w.heap.size → RbAt w' p X' → Ext [p] w w' → K w') : Sts [v] ⟨p, o, none⟩ 0 w K := by
  refine Sts.fn (g := rbF X') h (by simp; omega) h1 (fun j hj => ?_) hk
  rw [← hg j hj]
  unfold fnPut
  by_cases e : j = o
  · subst e
    rw [if_pos (by simp), if_pos rfl]
    simp
  · rw [if_neg (by simp; omega), if_neg e]
theorem rb_cases {j : Nat} {P : Nat → Prop} (h : ∀ j, j < 16 → P j) (h16 : P 16) (h17 : P 17) (h18 : P 18) (hj : j < 19) : P j := by
  by_cases c : j < 16
  · exact h j c
  · have : j = 16 ∨ j = 17 ∨ j = 18 := by omega
    rcases this with rfl | rfl | rfl <;> assumption
theorem RbAt.stNxt {K : World → Prop} {v : Int} (h : RbAt w p X) (hk : ∀ w', w'.heap.size = w.heap.size → RbAt w' p { X with nxt := v } → Ext [p] w w' → K w') : Sts [.int .u8 v] (Addr.add ⟨p, 0, none⟩ 16) 0 w K := by
  rw [add_mk, Nat.zero_add]
  exact h.st _ (by omega) rfl (fun j hj => rb_cases (P := fun j => (if j = 16 then (.int .u8 v : Value) else rbF X j) = rbF { X with nxt := v } j) (fun j hj => by rw [if_neg (by omega), rbF_ring hj, rbF_ring hj]) rfl rfl rfl hj) hk
theorem RbAt.stAv {K : World → Prop} {v : Nat} (h : RbAt w p X) (hk : ∀ w', w'.heap.size = w.heap.size → RbAt w' p { X with av := v } → Ext [p] w w' → K w') : Sts [.int .i64 (v : Int)] (Addr.add ⟨p, 0, none⟩ 17) 0 w K := by
  rw [add_mk, Nat.zero_add]
  exact h.st _ (by omega) rfl (fun j hj => rb_cases (P := fun j => (if j = 17 then (.int .i64 (v : Int) : Value) else rbF X j) = rbF { X with av := v } j) (fun j hj => by rw [if_neg (by omega), rbF_ring hj, rbF_ring hj]) rfl rfl rfl hj) hk
theorem RbAt.stB {K : World → Prop} {v : BitVec 16} (h : RbAt w p X) (hk : ∀ w', w'.heap.size = w.heap.size → RbAt w' p { X with B := v } → Ext [p] w w' → K w') : Sts [.int .u16 (b16 v)] (Addr.add ⟨p, 0, none⟩ 18) 0 w K := by
  rw [add_mk, Nat.zero_add]
  exact h.st _ (by omega) rfl (fun j hj => rb_cases (P := fun j => (if j = 18 then (.int .u16 (b16 v) : Value) else rbF X j) = rbF { X with B := v } j) (fun j hj => by rw [if_neg (by omega), rbF_ring hj, rbF_ring hj]) rfl rfl rfl hj) hk
theorem RbAt.stR {K : World → Prop} {q : Nat} {v : Int} (h : RbAt w p X) (hq : q < 16) (hk : ∀ w', w'.heap.size = w.heap.size → RbAt w' p { X with r := fun j => if j = q then v else X.r j } → Ext [p] w w' → K w') : Sts [.int .u8 v] ⟨p, q, none⟩ 0 w K := by
  refine h.st _ (by omega) rfl (fun j hj => rb_cases (P := fun j => (if j = q then (.int .u8 v : Value) else rbF X j) = rbF { X with r := fun j => if j = q then v else X.r j } j) (fun j hj => ?_) ?_ ?_ ?_ hj) hk
  · rw [rbF_ring hj, rbF_ring hj]
    by_cases e : j = q
    · simp [e]
    · simp [e]
  · rw [if_neg (by omega)]; rfl
  · rw [if_neg (by omega)]; rfl
  · rw [if_neg (by omega)]; rfl
theorem RR.ext {w' : World} {Y : List Nat} (h : RR w p S) (he : Ext Y w w') (hb : p ∉ Y) : RR w' p S := by
  obtain ⟨X, h1, h2⟩ := h
  exact ⟨X, h1.ext he hb, h2⟩
theorem RR.ext0 {w' : World} (h : RR w p S) (he : Ext [] w w') : RR w' p S := h.ext he (by simp)
theorem RR.lt (h : RR w p S) : p < w.heap.size := by
  obtain ⟨X, h1, h2⟩ := h
  exact Own.lt h1
def R0s : RbS := ⟨0, [], fun _ => none⟩
def resetR (seq : Int) : RbS := ⟨sqAdd seq 0, [], fun _ => none⟩
theorem resetR_ok (seq : Int) : RbOk (resetR seq) := ⟨⟨sqAdd_bd _ _, by simp [resetR], IsB.nil, fun d x h => (by cases h)⟩, rfl⟩
theorem R0s_ok : RbOk R0s := ⟨⟨by decide, by decide, IsB.nil, fun d x h => (by cases h)⟩, rfl⟩
theorem rNew_ok {R : Option Addr → World → Prop} (hR : ∀ p w', w.heap.size ≤ p → RR w' p R0s → Ext [] w w' → R (some ⟨p, 0, none⟩) w') : seg_NewRecvBuf.Call w R := by
  apply seg_NewRecvBuf.sound
  unfold seg_NewRecvBuf.B0
  refine New.mk fun p w1 e1 s1 o1 he1 => hR p w1 (by omega) ⟨⟨fun _ => 0, 0, 0, 0#16⟩, ?_, ⟨rfl, rfl, fun i x hx => by simp [R0s] at hx, fun d hd => by simp [R0s], fun d x h => (by cases h)⟩⟩ he1
  unfold RbAt
  exact o1
theorem rNxt_ok {R : Int → World → Prop} (h : RR w p S) (hS : RbW S) (hR : R S.nxt w) : seg_RecvBuf_Nxt.Call (some ⟨p, 0, none⟩) w R := by
  apply seg_RecvBuf_Nxt.sound
  unfold seg_RecvBuf_Nxt.B0
  obtain ⟨X, h1, h2⟩ := h
  refine Pn.mk (h1.ldNxt ?_)
  rw [h2.nxt, w64b hS.nxt]
  exact hR
theorem rAvail_ok {R : Int → World → Prop} (h : RR w p S) (hR : R (S.A.length : Int) w) : seg_RecvBuf_Avail.Call (some ⟨p, 0, none⟩) w R := by
  apply seg_RecvBuf_Avail.sound
  unfold seg_RecvBuf_Avail.B0
  obtain ⟨X, h1, h2⟩ := h
  refine Pn.mk (h1.ldAv ?_)
  rw [h2.av]
  exact hR
theorem rWindow_ok {R : Int → World → Prop} (h : RR w p S) (hS : RbW S) (hR : R (16 - (S.A.length : Int)) w) : seg_RecvBuf_Window.Call (some ⟨p, 0, none⟩) w R := by
  apply seg_RecvBuf_Window.sound
  unfold seg_RecvBuf_Window.B0
  obtain ⟨X, h1, h2⟩ := h
  have := hS.len
  refine Pn.mk (h1.ldAv ?_)
  rw [h2.av, w64 (by omega) (by omega)]
  exact hR
/-- The place of the number nxt+d. -/
def pl (S : RbS) (d : Nat) : Nat := (S.nxt.toNat + d) % 16
theorem pl_lt (S : RbS) (d : Nat) : pl S d < 16 := by unfold pl; omega
theorem two16 {p : Nat} (hp : p < 16) : IntKind.u16.wrap ((1 : Int) * 2 ^ (min p IntKind.u16.bits)) = b16 (one16 p) := by
  have e : min p IntKind.u16.bits = p := by show min p 16 = p; omega
  rw [e, Int.one_mul]
  unfold b16
  rw [one_nat hp]
  have h2 : (2 ^ p : Nat) < 65536 := by
    have := (one16 p).isLt
    rw [one_nat hp] at this
    exact this
  have h3 : (2 : Int) ^ p = ((2 ^ p : Nat) : Int) := by simp
  rw [h3]
  generalize (2 ^ p : Nat) = z at h2
  exact w16 (by omega) (by omega)
theorem bit_ok {d : Nat} {R : Int → World → Prop} (h : RbAt w p X) (hn : X.nxt = S.nxt) (hb : 0 ≤ S.nxt ∧ S.nxt < 256) (hd : d ≤ 1000) (hR : R (b16 (one16 (pl S d))) w) : seg_RecvBuf_bit.Call (some ⟨p, 0, none⟩) (d : Int) w R := by
  apply seg_RecvBuf_bit.sound
  unfold seg_RecvBuf_bit.B0
  refine Pn.mk (h.ldNxt ⟨by decide, ?_⟩)
  rw [hn, w64b hb, w64 (x := S.nxt + (d : Int)) (by omega) (by omega), tmod_pos _ (by omega)]
  have e : (S.nxt + (d : Int)) % 16 = ((pl S d : Nat) : Int) := by unfold pl; omega
  have hp := pl_lt S d
  rw [e, wu64 (by omega) (by omega)]
  refine ⟨by omega, ?_⟩
  rw [Int.toNat_natCast, two16 hp]
  exact hR
theorem rHeld_ok {R : Int → World → Prop} (h : RR w p S) (hR : R (((List.range 16).filter fun d => (S.hv d).isSome).length : Int) w) : seg_RecvBuf_Held.Call (some ⟨p, 0, none⟩) w R := by
  apply seg_RecvBuf_Held.sound
  unfold seg_RecvBuf_Held.B0
  obtain ⟨X, h1, h2⟩ := h
  refine Pn.mk (h1.ldB ?_)
  have tot : ((List.range 16).filter fun d => (S.hv d).isSome).length = pcN 16 X.B.toNat := by
    unfold pcN
    have perm : ∀ c, c < 16 → ((List.range 16).map fun d => (c + d) % 16).Perm (List.range 16) := by decide
    have e1 : (List.range 16).filter (fun d => (S.hv d).isSome) = (List.range 16).filter (fun d => X.B.toNat.testBit ((S.nxt.toNat % 16 + d) % 16)) := by
      refine List.filter_congr fun d hd => ?_
      have hd' := List.mem_range.1 hd
      rw [← h2.bits d hd']
      show X.B.toNat.testBit _ = _
      congr 1
      omega
    have e2 := ((perm (S.nxt.toNat % 16) (by omega)).filter fun i => X.B.toNat.testBit i).length_eq
    rw [List.filter_map, List.length_map] at e2
    rw [e1]
    exact e2
  unfold seg_RecvBuf_Held.L1
  refine ⟨fun mm n m0 w' => ∃ k : Nat, m0 = (k : Int) ∧ k < 65536 ∧ mm = pcN 16 k ∧ 0 ≤ n ∧ n + (pcN 16 k : Int) = (pcN 16 X.B.toNat : Int) ∧ w = w', _, ⟨X.B.toNat, rfl, X.B.isLt, rfl, by omega, by omega, rfl⟩, ?_⟩
  rintro mm n m0 w' ⟨k, rfl, hk, rfl, n0, hn, rfl⟩
  unfold seg_RecvBuf_Held.L1b
  have hpc : pcN 16 X.B.toNat ≤ 16 := by unfold pcN; have := List.length_filter_le (fun i => X.B.toNat.testBit i) (List.range 16); simpa using this
  by_cases hz : k = 0
  · subst hz
    rw [pc_zero] at hn
    refine Bm.neg (by simp) ?_
    rw [tot, ← hn] at hR
    simpa using hR
  · have st := pc_step 16 k (by omega) hk
    have hlt : k &&& (k - 1) < 2 ^ 16 := Nat.and_lt_two_pow _ (by show k - 1 < 65536; omega)
    refine Bm.pos (by simp; omega) ⟨pcN 16 (k &&& (k - 1)), by omega, k &&& (k - 1), ?_, hlt, rfl, by rw [w64 (by omega) (by omega)]; omega, by rw [w64 (by omega) (by omega)]; omega, rfl⟩
    rw [w16 (x := (k : Int) - 1) (by omega) (by omega), show (k : Int) - 1 = ((k - 1 : Nat) : Int) by omega]
    have e : (BitVec.ofInt IntKind.u16.bits (k : Int) &&& BitVec.ofInt IntKind.u16.bits ((k - 1 : Nat) : Int)).toNat = k &&& (k - 1) := by
      show (BitVec.ofInt 16 (k : Int) &&& BitVec.ofInt 16 ((k - 1 : Nat) : Int)).toNat = _
      rw [BitVec.ofInt_natCast, BitVec.ofInt_natCast, BitVec.toNat_and, BitVec.toNat_ofNat, BitVec.toNat_ofNat, Nat.mod_eq_of_lt (by show k < 65536; omega), Nat.mod_eq_of_lt (by show k - 1 < 65536; omega)]
    rw [e, w16 (by omega) (by have : (2 : Nat) ^ 16 = 65536 := rfl; omega)]
end

end Go.Proofs.Qxb6500424aGreat
