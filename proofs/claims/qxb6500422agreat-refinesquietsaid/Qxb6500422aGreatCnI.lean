/-
  conn: the model's block on the heap, its small functions.
-/
import Derived.Test.Qxb6500422aGreatCnH
set_option linter.unusedVariables false
set_option linter.unusedSimpArgs false
open Go.Vc
namespace Go.Proofs.Qxb6500422aGreat

structure MC where
  st : Int
  why : Int
  wc : Bool
  fs : Bool
  fa : Bool
  pf : Bool
  iss : Int
  una : Int
  qb : Option Addr
  ql : Nat
  qc : Nat
  sent : Int
  rnxt : Int
  rb : Option Addr
  rl : Nat
  rc : Nat
  hf : Nat → Bool
  vf : Nat → Int
  pw : Int
  tm : Int
  rt : Int
  cr : Int
  qt : Int
def mcF (X : MC) (o : Nat) : Value := if o = 0 then .int .i64 X.st else if o = 1 then .int .i64 X.why else if o = 2 then .bool X.wc else if o = 3 then .bool X.fs else if o = 4 then .bool X.fa else if o = 5 then .bool X.pf else if o = 6 then .int .i64 X.iss else if o = 7 then .int .i64 X.una else if o = 8 then .slice X.qb X.ql X.qc else if o = 9 then .int .i64 X.sent else if o = 10 then .int .i64 X.rnxt else if o = 11 then .slice X.rb X.rl X.rc else if o = 44 then .int .i64 X.pw else if o = 45 then .int .i64 X.tm else if o = 46 then .int .i64 X.rt else if o = 47 then .int .i64 X.cr else if o = 48 then .int .i64 X.qt else if o < 28 then .bool (X.hf (o - 12)) else .int .u8 (X.vf (o - 28))
def CmAt (w : World) (m : Nat) (X : MC) : Prop := Own w m (fnArr 49 (mcF X)) T_connm_Conn
def setB (f : Nat → Bool) (i : Nat) (v : Bool) : Nat → Bool := fun j => if j = i then v else f j
def setI (f : Nat → Int) (i : Nat) (v : Int) : Nat → Int := fun j => if j = i then v else f j
section
variable {w w' : World} {m : Nat} {X : MC}
theorem mcF_has {d : Nat} (hd : d < 16) : mcF X (12 + d) = .bool (X.hf d) := by
  unfold mcF
  rw [if_neg (by omega), if_neg (by omega), if_neg (by omega), if_neg (by omega), if_neg (by omega), if_neg (by omega), if_neg (by omega), if_neg (by omega), if_neg (by omega), if_neg (by omega), if_neg (by omega), if_neg (by omega), if_neg (by omega), if_neg (by omega), if_neg (by omega), if_neg (by omega), if_neg (by omega), if_pos (by omega), show 12 + d - 12 = d by omega]
theorem mcF_val {d : Nat} (hd : d < 16) : mcF X (28 + d) = .int .u8 (X.vf d) := by
  unfold mcF
  rw [if_neg (by omega), if_neg (by omega), if_neg (by omega), if_neg (by omega), if_neg (by omega), if_neg (by omega), if_neg (by omega), if_neg (by omega), if_neg (by omega), if_neg (by omega), if_neg (by omega), if_neg (by omega), if_neg (by omega), if_neg (by omega), if_neg (by omega), if_neg (by omega), if_neg (by omega), if_neg (by omega), show 28 + d - 28 = d by omega]
theorem CmAt.ldI {o : Nat} {v : Int} {K : Int → Prop} (h : CmAt w m X) (ho : o < 49) (hv : mcF X o = .int .i64 v) (hk : K v) : LdI .i64 (Addr.add ⟨m, 0, none⟩ o) w K := by
  rw [add_mk, Nat.zero_add]
  exact LdI.fn h ho hv hk
theorem CmAt.ldSt {K : Int → Prop} (h : CmAt w m X) (hk : K X.st) : LdI .i64 ⟨m, 0, none⟩ w K := LdI.fn (o := 0) h (by omega) rfl hk
theorem CmAt.ldB {o : Nat} {v : Bool} {K : Bool → Prop} (h : CmAt w m X) (ho : o < 49) (hv : mcF X o = .bool v) (hk : K v) : LdB (Addr.add ⟨m, 0, none⟩ o) w K := by
  rw [add_mk, Nat.zero_add]
  exact LdB.fn h ho hv hk
theorem CmAt.ldQ {K : Option Addr → Nat → Nat → Prop} (h : CmAt w m X) (hk : K X.qb X.ql X.qc) : LdL (Addr.add ⟨m, 0, none⟩ 8) w K := by
  rw [add_mk, Nat.zero_add]
  exact LdL.fn (o := 8) h (by omega) rfl hk
theorem CmAt.ldR {K : Option Addr → Nat → Nat → Prop} (h : CmAt w m X) (hk : K X.rb X.rl X.rc) : LdL (Addr.add ⟨m, 0, none⟩ 11) w K := by
  rw [add_mk, Nat.zero_add]
  exact LdL.fn (o := 11) h (by omega) rfl hk
theorem CmAt.cellI {o : Nat} {v : Value} (h : CmAt w m X) (ho : o < 49) (hv : mcF X o = v) : w.cell? (Addr.add ⟨m, 0, none⟩ o) = some v := by
  rw [add_mk, Nat.zero_add]
  exact Own.cell h (by rw [fnArr_get _ ho, hv])
theorem CmAt.ldH {d : Nat} {K : Bool → Prop} (h : CmAt w m X) (hd : d < 16) (hk : K (X.hf d)) : LdB (Addr.add (Addr.add ⟨m, 0, none⟩ 12) ((d : Int).toNat * 1)) w K := by
  rw [add_mk, Nat.zero_add, addr_k]
  exact LdB.fn (o := 12 + d) h (by omega) (mcF_has hd) hk
theorem CmAt.ldV {d : Nat} {K : Int → Prop} (h : CmAt w m X) (hd : d < 16) (hk : K (X.vf d)) : LdI .u8 (Addr.add (Addr.add ⟨m, 0, none⟩ 28) ((d : Int).toNat * 1)) w K := by
  rw [add_mk, Nat.zero_add, addr_k]
  exact LdI.fn (o := 28 + d) h (by omega) (mcF_val hd) hk
theorem CmAt.st {K : World → Prop} {o : Nat} {v : Value} (X' : MC) (h : CmAt w m X) (ho : o < 49) (h1 : [v].all Value.oneCell' = true) (hg : ∀ j, j < 49 → (if j = o then v else mcF X j) = mcF X' j) (hk : ∀ w', w'.heap.size = w.heap.size → CmAt w' m X' → Ext [m] w w' → K w') : Sts [v] ⟨m, o, none⟩ 0 w K := by
  refine Sts.fn (g := mcF X') h (by simp; omega) h1 (fun j hj => ?_) hk
  rw [← hg j hj]
  unfold fnPut
  by_cases e : j = o
  · subst e
    rw [if_pos (by simp), if_pos rfl]
    simp
  · rw [if_neg (by simp; omega), if_neg e]
theorem adrH (d : Nat) : Addr.add (Addr.add ⟨m, 0, none⟩ 12) ((d : Int).toNat * 1) = ⟨m, 12 + d, none⟩ := by rw [add_mk, Nat.zero_add, addr_k]
theorem adrV (d : Nat) : Addr.add (Addr.add ⟨m, 0, none⟩ 28) ((d : Int).toNat * 1) = ⟨m, 28 + d, none⟩ := by rw [add_mk, Nat.zero_add, addr_k]
theorem mc_cases {j : Nat} {P : Nat → Prop} (hj : j < 49) (h1 : ∀ d, d < 16 → P (12 + d)) (h2 : ∀ d, d < 16 → P (28 + d)) (h3 : ∀ j, j < 12 ∨ (44 ≤ j ∧ j < 49) → P j) : P j := by
  by_cases c1 : 12 ≤ j ∧ j < 28
  · obtain ⟨d, rfl⟩ : ∃ d, j = 12 + d := ⟨j - 12, by omega⟩
    exact h1 d (by omega)
  · by_cases c2 : 28 ≤ j ∧ j < 44
    · obtain ⟨d, rfl⟩ : ∃ d, j = 28 + d := ⟨j - 28, by omega⟩
      exact h2 d (by omega)
    · exact h3 j (by omega)
theorem mcF_low {hf : Nat → Bool} {vf : Nat → Int} {j : Nat} (hj : j < 12 ∨ (44 ≤ j ∧ j < 49)) : mcF { X with hf := hf, vf := vf } j = mcF X j := by
  have : j = 0 ∨ j = 1 ∨ j = 2 ∨ j = 3 ∨ j = 4 ∨ j = 5 ∨ j = 6 ∨ j = 7 ∨ j = 8 ∨ j = 9 ∨ j = 10 ∨ j = 11 ∨ j = 44 ∨ j = 45 ∨ j = 46 ∨ j = 47 ∨ j = 48 := by omega
  rcases this with rfl | rfl | rfl | rfl | rfl | rfl | rfl | rfl | rfl | rfl | rfl | rfl | rfl | rfl | rfl | rfl | rfl <;> rfl
theorem CmAt.stH {K : World → Prop} {d : Nat} {v : Bool} (h : CmAt w m X) (hd : d < 16) (hk : ∀ w', w'.heap.size = w.heap.size → CmAt w' m { X with hf := setB X.hf d v } → Ext [m] w w' → K w') : Sts [.bool v] ⟨m, 12 + d, none⟩ 0 w K := by
  refine h.st { X with hf := setB X.hf d v } (by omega) rfl (fun j hj => ?_) hk
  refine mc_cases (P := fun j => (if j = 12 + d then Value.bool v else mcF X j) = mcF { X with hf := setB X.hf d v } j) hj (fun e he => ?_) (fun e he => ?_) (fun j hj => ?_)
  · rw [mcF_has he, mcF_has he]
    show _ = Value.bool (if e = d then v else X.hf e)
    by_cases c : e = d
    · rw [if_pos (by omega), if_pos c]
    · rw [if_neg (by omega), if_neg c]
  · rw [if_neg (by omega), mcF_val he, mcF_val he]
  · rw [if_neg (by omega)]
    exact (mcF_low (vf := X.vf) hj).symm
theorem CmAt.stV {K : World → Prop} {d : Nat} {v : Int} (h : CmAt w m X) (hd : d < 16) (hk : ∀ w', w'.heap.size = w.heap.size → CmAt w' m { X with vf := setI X.vf d v } → Ext [m] w w' → K w') : Sts [.int .u8 v] ⟨m, 28 + d, none⟩ 0 w K := by
  refine h.st { X with vf := setI X.vf d v } (by omega) rfl (fun j hj => ?_) hk
  refine mc_cases (P := fun j => (if j = 28 + d then Value.int .u8 v else mcF X j) = mcF { X with vf := setI X.vf d v } j) hj (fun e he => ?_) (fun e he => ?_) (fun j hj => ?_)
  · rw [if_neg (by omega), mcF_has he, mcF_has he]
  · rw [mcF_val he, mcF_val he]
    show _ = Value.int .u8 (if e = d then v else X.vf e)
    by_cases c : e = d
    · rw [if_pos (by omega), if_pos c]
    · rw [if_neg (by omega), if_neg c]
  · rw [if_neg (by omega)]
    exact (mcF_low (hf := X.hf) hj).symm
theorem CmAt.stSt {K : World → Prop} {v : Int} (h : CmAt w m X) (hk : ∀ w', w'.heap.size = w.heap.size → CmAt w' m { X with st := v } → Ext [m] w w' → K w') : Sts [.int .i64 v] ⟨m, 0, none⟩ 0 w K := by
  exact h.st { X with st := v } (by omega) rfl (fun j hj => by
    by_cases e : j = 0
    · subst e; rfl
    · rw [if_neg e]; unfold mcF; simp only [if_neg e]) hk
theorem CmAt.stWhy {K : World → Prop} {v : Int} (h : CmAt w m X) (hk : ∀ w', w'.heap.size = w.heap.size → CmAt w' m { X with why := v } → Ext [m] w w' → K w') : Sts [.int .i64 v] (Addr.add ⟨m, 0, none⟩ 1) 0 w K := by
  rw [add_mk, Nat.zero_add]
  exact h.st { X with why := v } (by omega) rfl (fun j hj => by
    by_cases e : j = 1
    · subst e; rfl
    · rw [if_neg e]; unfold mcF; simp only [if_neg e]) hk
theorem CmAt.stWc {K : World → Prop} {v : Bool} (h : CmAt w m X) (hk : ∀ w', w'.heap.size = w.heap.size → CmAt w' m { X with wc := v } → Ext [m] w w' → K w') : Sts [.bool v] (Addr.add ⟨m, 0, none⟩ 2) 0 w K := by
  rw [add_mk, Nat.zero_add]
  exact h.st { X with wc := v } (by omega) rfl (fun j hj => by
    by_cases e : j = 2
    · subst e; rfl
    · rw [if_neg e]; unfold mcF; simp only [if_neg e]) hk
theorem CmAt.stFs {K : World → Prop} {v : Bool} (h : CmAt w m X) (hk : ∀ w', w'.heap.size = w.heap.size → CmAt w' m { X with fs := v } → Ext [m] w w' → K w') : Sts [.bool v] (Addr.add ⟨m, 0, none⟩ 3) 0 w K := by
  rw [add_mk, Nat.zero_add]
  exact h.st { X with fs := v } (by omega) rfl (fun j hj => by
    by_cases e : j = 3
    · subst e; rfl
    · rw [if_neg e]; unfold mcF; simp only [if_neg e]) hk
theorem CmAt.stFa {K : World → Prop} {v : Bool} (h : CmAt w m X) (hk : ∀ w', w'.heap.size = w.heap.size → CmAt w' m { X with fa := v } → Ext [m] w w' → K w') : Sts [.bool v] (Addr.add ⟨m, 0, none⟩ 4) 0 w K := by
  rw [add_mk, Nat.zero_add]
  exact h.st { X with fa := v } (by omega) rfl (fun j hj => by
    by_cases e : j = 4
    · subst e; rfl
    · rw [if_neg e]; unfold mcF; simp only [if_neg e]) hk
theorem CmAt.stPf {K : World → Prop} {v : Bool} (h : CmAt w m X) (hk : ∀ w', w'.heap.size = w.heap.size → CmAt w' m { X with pf := v } → Ext [m] w w' → K w') : Sts [.bool v] (Addr.add ⟨m, 0, none⟩ 5) 0 w K := by
  rw [add_mk, Nat.zero_add]
  exact h.st { X with pf := v } (by omega) rfl (fun j hj => by
    by_cases e : j = 5
    · subst e; rfl
    · rw [if_neg e]; unfold mcF; simp only [if_neg e]) hk
theorem CmAt.stIss {K : World → Prop} {v : Int} (h : CmAt w m X) (hk : ∀ w', w'.heap.size = w.heap.size → CmAt w' m { X with iss := v } → Ext [m] w w' → K w') : Sts [.int .i64 v] (Addr.add ⟨m, 0, none⟩ 6) 0 w K := by
  rw [add_mk, Nat.zero_add]
  exact h.st { X with iss := v } (by omega) rfl (fun j hj => by
    by_cases e : j = 6
    · subst e; rfl
    · rw [if_neg e]; unfold mcF; simp only [if_neg e]) hk
theorem CmAt.stUna {K : World → Prop} {v : Int} (h : CmAt w m X) (hk : ∀ w', w'.heap.size = w.heap.size → CmAt w' m { X with una := v } → Ext [m] w w' → K w') : Sts [.int .i64 v] (Addr.add ⟨m, 0, none⟩ 7) 0 w K := by
  rw [add_mk, Nat.zero_add]
  exact h.st { X with una := v } (by omega) rfl (fun j hj => by
    by_cases e : j = 7
    · subst e; rfl
    · rw [if_neg e]; unfold mcF; simp only [if_neg e]) hk
theorem CmAt.stSent {K : World → Prop} {v : Int} (h : CmAt w m X) (hk : ∀ w', w'.heap.size = w.heap.size → CmAt w' m { X with sent := v } → Ext [m] w w' → K w') : Sts [.int .i64 v] (Addr.add ⟨m, 0, none⟩ 9) 0 w K := by
  rw [add_mk, Nat.zero_add]
  exact h.st { X with sent := v } (by omega) rfl (fun j hj => by
    by_cases e : j = 9
    · subst e; rfl
    · rw [if_neg e]; unfold mcF; simp only [if_neg e]) hk
theorem CmAt.stRnxt {K : World → Prop} {v : Int} (h : CmAt w m X) (hk : ∀ w', w'.heap.size = w.heap.size → CmAt w' m { X with rnxt := v } → Ext [m] w w' → K w') : Sts [.int .i64 v] (Addr.add ⟨m, 0, none⟩ 10) 0 w K := by
  rw [add_mk, Nat.zero_add]
  exact h.st { X with rnxt := v } (by omega) rfl (fun j hj => by
    by_cases e : j = 10
    · subst e; rfl
    · rw [if_neg e]; unfold mcF; simp only [if_neg e]) hk
theorem CmAt.stPw {K : World → Prop} {v : Int} (h : CmAt w m X) (hk : ∀ w', w'.heap.size = w.heap.size → CmAt w' m { X with pw := v } → Ext [m] w w' → K w') : Sts [.int .i64 v] (Addr.add ⟨m, 0, none⟩ 44) 0 w K := by
  rw [add_mk, Nat.zero_add]
  exact h.st { X with pw := v } (by omega) rfl (fun j hj => by
    by_cases e : j = 44
    · subst e; rfl
    · rw [if_neg e]; unfold mcF; simp only [if_neg e]) hk
theorem CmAt.stTm {K : World → Prop} {v : Int} (h : CmAt w m X) (hk : ∀ w', w'.heap.size = w.heap.size → CmAt w' m { X with tm := v } → Ext [m] w w' → K w') : Sts [.int .i64 v] (Addr.add ⟨m, 0, none⟩ 45) 0 w K := by
  rw [add_mk, Nat.zero_add]
  exact h.st { X with tm := v } (by omega) rfl (fun j hj => by
    by_cases e : j = 45
    · subst e; rfl
    · rw [if_neg e]; unfold mcF; simp only [if_neg e]) hk
theorem CmAt.stRt {K : World → Prop} {v : Int} (h : CmAt w m X) (hk : ∀ w', w'.heap.size = w.heap.size → CmAt w' m { X with rt := v } → Ext [m] w w' → K w') : Sts [.int .i64 v] (Addr.add ⟨m, 0, none⟩ 46) 0 w K := by
  rw [add_mk, Nat.zero_add]
  exact h.st { X with rt := v } (by omega) rfl (fun j hj => by
    by_cases e : j = 46
    · subst e; rfl
    · rw [if_neg e]; unfold mcF; simp only [if_neg e]) hk
theorem CmAt.stCr {K : World → Prop} {v : Int} (h : CmAt w m X) (hk : ∀ w', w'.heap.size = w.heap.size → CmAt w' m { X with cr := v } → Ext [m] w w' → K w') : Sts [.int .i64 v] (Addr.add ⟨m, 0, none⟩ 47) 0 w K := by
  rw [add_mk, Nat.zero_add]
  exact h.st { X with cr := v } (by omega) rfl (fun j hj => by
    by_cases e : j = 47
    · subst e; rfl
    · rw [if_neg e]; unfold mcF; simp only [if_neg e]) hk
theorem CmAt.stQt {K : World → Prop} {v : Int} (h : CmAt w m X) (hk : ∀ w', w'.heap.size = w.heap.size → CmAt w' m { X with qt := v } → Ext [m] w w' → K w') : Sts [.int .i64 v] (Addr.add ⟨m, 0, none⟩ 48) 0 w K := by
  rw [add_mk, Nat.zero_add]
  exact h.st { X with qt := v } (by omega) rfl (fun j hj => by
    by_cases e : j = 48
    · subst e; rfl
    · rw [if_neg e]; unfold mcF; simp only [if_neg e]) hk
theorem CmAt.stQ {K : World → Prop} {b' : Option Addr} {l' c' : Nat} (h : CmAt w m X) (hk : ∀ w', w'.heap.size = w.heap.size → CmAt w' m { X with qb := b', ql := l', qc := c' } → Ext [m] w w' → K w') : Sts [.slice b' l' c'] (Addr.add ⟨m, 0, none⟩ 8) 0 w K := by
  rw [add_mk, Nat.zero_add]
  exact h.st { X with qb := b', ql := l', qc := c' } (by omega) rfl (fun j hj => by
    by_cases e : j = 8
    · subst e; rfl
    · rw [if_neg e]; unfold mcF; simp only [if_neg e]) hk
theorem CmAt.stR {K : World → Prop} {b' : Option Addr} {l' c' : Nat} (h : CmAt w m X) (hk : ∀ w', w'.heap.size = w.heap.size → CmAt w' m { X with rb := b', rl := l', rc := c' } → Ext [m] w w' → K w') : Sts [.slice b' l' c'] (Addr.add ⟨m, 0, none⟩ 11) 0 w K := by
  rw [add_mk, Nat.zero_add]
  exact h.st { X with rb := b', rl := l', rc := c' } (by omega) rfl (fun j hj => by
    by_cases e : j = 11
    · subst e; rfl
    · rw [if_neg e]; unfold mcF; simp only [if_neg e]) hk
end
/-! ### what it shows -/
structure MRel (X : MC) (C : CS) : Prop where
  st : X.st = C.st
  why : X.why = C.why
  wc : X.wc = C.wc
  fs : X.fs = C.fs
  fa : X.fa = C.fa
  pf : X.pf = C.pf
  iss : X.iss = C.iss
  una : X.una = sndUna C
  sent : X.sent = (C.S.sent : Int)
  rnxt : X.rnxt = rcvNxt C
  pw : X.pw = C.pw
  tm : X.tm = C.tm
  rt : X.rt = C.rt
  cr : X.cr = C.cr
  qt : X.qt = C.qt
  has : ∀ d, d < 16 → X.hf d = (C.B.hv d).isSome
  val : ∀ d x, C.B.hv d = some x → X.vf d = x
structure MM (w : World) (m : Nat) (X : MC) (C : CS) : Prop where
  own : CmAt w m X
  q : Row w X.qb X.ql X.qc 1 T_uint8 (U8 C.S.D)
  a : Row w X.rb X.rl X.rc 1 T_uint8 (U8 C.B.A)
  rel : MRel X C
def MC.blks (X : MC) : List Nat := rowBlk X.qb ++ rowBlk X.rb
section
variable {w w' : World} {m : Nat} {X : MC} {C : CS}
theorem MM.ql (h : MM w m X C) : C.S.D.length = X.ql := by have := h.q.1; rw [U8_length] at this; omega
theorem MM.rl (h : MM w m X C) : C.B.A.length = X.rl := by have := h.a.1; rw [U8_length] at this; omega
theorem MM.extT {Y : List Nat} {ts : List TypeId} (h : MM w m X C) (he : Ext Y w w') (hY : Tys w Y ts) (ht : ∀ q ∈ ts, q ≠ T_connm_Conn ∧ q ≠ T_uint8) : MM w' m X C :=
  ⟨ownT he hY h.own (fun hx => (ht _ hx).1 rfl), rowT h.q he hY (fun hx => (ht _ hx).2 rfl), rowT h.a he hY (fun hx => (ht _ hx).2 rfl), h.rel⟩
theorem MM.ext {Y : List Nat} (h : MM w m X C) (he : Ext Y w w') (h1 : m ∉ Y) (h2 : ∀ k ∈ X.blks, k ∉ Y) : MM w' m X C :=
  ⟨he.own h.own h1, h.q.ext he (fun k hk => h2 k (List.mem_append.2 (.inl hk))), h.a.ext he (fun k hk => h2 k (List.mem_append.2 (.inr hk))), h.rel⟩
theorem MM.ext0 (h : MM w m X C) (he : Ext [] w w') : MM w' m X C := h.ext he (by simp) (fun k _ => by simp)
theorem MM.drew (h : MM w m X C) : MM w.drew m X C := h.ext0 (Ext.drew _ _)
theorem MM.lt (h : MM w m X C) : m < w.heap.size := Own.lt h.own
theorem MM.qrd (h : MM w m X C) (hS : SbOk C.S) : Rd w X.qb C.S.D := row_rd h.q hS.isB
theorem MM.ard (h : MM w m X C) (hB : RbOk C.B) : Rd w X.rb C.B.A := row_rd h.a hB.isB
/-- A scalar turned. -/
theorem MM.turn {X' : MC} {C' : CS} (h : MM w m X C) (g : CmAt w' m X') (he : Ext [m] w w') (hq : X'.qb = X.qb ∧ X'.ql = X.ql ∧ X'.qc = X.qc) (hr : X'.rb = X.rb ∧ X'.rl = X.rl ∧ X'.rc = X.rc) (hD : C'.S.D = C.S.D) (hA : C'.B.A = C.B.A) (hrel : MRel X' C') : MM w' m X' C' := by
  have hX := Tys.one h.own
  refine ⟨g, ?_, ?_, hrel⟩
  · rw [hq.1, hq.2.1, hq.2.2, hD]; exact rowT h.q he hX (by decide)
  · rw [hr.1, hr.2.1, hr.2.2, hA]; exact rowT h.a he hX (by decide)
theorem mOut_ok {R : Int → World → Prop} (h : MM w m X C) (hS : SbOk C.S) (hR : R (flying C) w) : connm_Conn_out.Call (some ⟨m, 0, none⟩) w R := by
  apply connm_Conn_out.sound
  unfold connm_Conn_out.B0
  have h1 := hS.sent
  have h2 := hS.len
  have g := h.own
  have e := h.rel
  unfold flying at hR
  have b1 : (C.st = 1 ∨ C.st = 2) → connm_Conn_out.B1 (some ⟨m, 0, none⟩) true w R := fun hc => by
    unfold connm_Conn_out.B1
    rw [if_pos hc] at hR
    exact Bm.pos rfl hR
  refine Pn.mk (g.ldSt ?_)
  rw [e.st]
  refine Bm.mk (fun e1 => b1 (.inl (by simpa using e1))) fun e1 => Pn.mk (g.ldSt ?_)
  rw [e.st]
  have e1' : C.st ≠ 1 := by simpa using e1
  by_cases e2 : C.st = 2
  · rw [show (C.st == 2) = true by simpa using e2]; exact b1 (.inr e2)
  rw [show (C.st == 2) = false by simpa using e2]
  rw [if_neg (by omega)] at hR
  unfold connm_Conn_out.B1
  have b2f : ¬ (C.fs = true ∧ C.fa = false) → connm_Conn_out.B2 (some ⟨m, 0, none⟩) false w R := fun hc => by
    unfold connm_Conn_out.B2
    rw [if_neg hc] at hR
    refine Bm.neg rfl (Pn.mk (g.ldI (o := 9) (by omega) rfl ?_))
    rw [e.sent]
    exact hR
  refine Bm.neg rfl (Pn.mk (g.ldB (o := 3) (by omega) rfl ?_))
  rw [e.fs]
  refine Bm.mk (fun f1 => Pn.mk (g.ldB (o := 4) (by omega) rfl ?_)) fun f1 => b2f fun q => by rw [f1] at q; cases q.1
  rw [e.fa]
  cases f2 : C.fa with
  | true => exact b2f fun q => by rw [f2] at q; cases q.2
  | false =>
    rw [if_pos ⟨f1, f2⟩] at hR
    unfold connm_Conn_out.B2
    refine Bm.pos rfl (Pn.mk (g.ldI (o := 9) (by omega) rfl ?_))
    rw [e.sent, w64 (by omega) (by omega)]
    exact hR
theorem mMk_ok {fl seq : Int} {db : Option Addr} {dl dc : Nat} {D : List Int} {R : Int → Int → Int → Int → Int → Int → Option Addr → Nat → Nat → World → Prop} (h : MM w m X C) (hB : RbOk C.B) (hD : Rd w db D) (hl : D.length = dl) (hdl : dl ≤ 100000)
    (hR : ∀ k w', w.heap.size ≤ k → Bf w' k D → Ext [] w w' → RSeg R (mkF C fl seq D) k w') : connm_Conn_mk.Call (some ⟨m, 0, none⟩) fl seq db dl dc w R := by
  apply connm_Conn_mk.sound
  unfold connm_Conn_mk.B0
  have hrl := h.rl
  have hA := hB.len
  refine New.mk fun t w1 ht hs1 o1 he1 => Pn.mk ?_
  have h1 := (h.ext0 he1).drew
  have Ed : Ext [] w w1.drew := he1.trans (Ext.drew _ _)
  have od : Own w1.drew t _ _ := Own.drew o1
  have hzd : w1.drew.heap.size = w1.heap.size := rfl
  have hml := h.lt
  refine h1.own.ldR ?_
  rw [w64 (by omega) (by omega), show (16 : Int) - ((X.rl : Nat) : Int) = 16 - (C.B.A.length : Int) by omega]
  -- the end
  have fin : ∀ (k s : Nat) (wa : World), w.heap.size ≤ k → s ≠ t → k ≠ t → s ≠ k → w.heap.size ≤ s → Bf wa k D → Own wa s #[.int .i64 0, .int .i64 0, .int .i64 seq, .int .i64 0, .int .i64 fl, .int .i64 (16 - (C.B.A.length : Int)), .slice (some ⟨k, 0, none⟩) dl dl] T_api_Segment → Own wa t #[.int .i64 0, .int .i64 0, .int .i64 0, .int .i64 0, .int .i64 0, .int .i64 0, .slice none 0 0] T_api_Segment → MM wa m X C → Ext [] w wa → connm_Conn_mk.B1 (some ⟨m, 0, none⟩) fl t s wa R := by
    intro k s wa hk hst hkt hsk hsw hb os ot hm hx
    unfold connm_Conn_mk.B1
    unfold mkF at hR
    subst hl
    refine Bm.mk (fun hbt => Pn.mk (hm.own.ldI (o := 10) (by omega) rfl ?_)) fun hbt => ?_
    · rw [if_pos hbt] at hR
      rw [hm.rel.rnxt]
      refine Sts.mk os (by simp) rfl fun w3 hs3 o3 he3 => ?_
      unfold connm_Conn_mk.B2
      refine LdI.mk o3 rfl (LdI.mk o3 rfl (LdI.mk o3 rfl (LdI.mk o3 rfl (LdI.mk o3 rfl (LdI.mk o3 rfl (LdL.mk o3 rfl ?_))))))
      have e3 : Ext [] w w3 := hx.trans' he3 (fun y hy hlt => by simp at hy; omega)
      refine retC (g := (⟨0, 0, seq, rcvNxt C, fl, 16 - (C.B.A.length : Int)⟩, D)) (he3.own ot (by simp; omega)) rfl fun w4 hs4 he4 => hR k w4 hk ?_ (e3.trans' he4 (fun y hy hlt => by simp at hy; omega))
      exact (hb.ext he3 (by simp; omega)).ext he4 (by simpa using hkt)
    · rw [if_neg (by rw [hbt]; simp)] at hR
      unfold connm_Conn_mk.B2
      refine LdI.mk os rfl (LdI.mk os rfl (LdI.mk os rfl (LdI.mk os rfl (LdI.mk os rfl (LdI.mk os rfl (LdL.mk os rfl ?_))))))
      refine retC (g := (⟨0, 0, seq, 0, fl, 16 - (C.B.A.length : Int)⟩, D)) ot rfl fun w4 hs4 he4 => hR k w4 hk (hb.ext he4 (by simpa using hkt)) (hx.trans' he4 (fun y hy hlt => by simp at hy; omega))
  refine ⟨?_, ?_⟩
  · refine copyBytes_ok (hD.ext0 Ed) hl (by omega) fun k w2 hk hs2 hb2 he2 => ⟨(h1.ext0 he2).own.cellI (by omega) rfl, New.mk fun s w3 hs hs3 o3 he3 => ⟨(h1.ext0 (he2.trans he3)).own.cellI (by omega) rfl, ?_⟩⟩
    refine Sts.full o3 rfl rfl fun w4 hs4 o4 he4 => ?_
    have E4 : Ext [] w w4 := ((Ed.trans he2).trans he3).trans' he4 (fun y hy hlt => by simp at hy; omega)
    exact fin k s w4 (by omega) (by omega) (by omega) (by omega) (by omega) ((hb2.ext0 he3).ext he4 (by simp; omega)) o4 (he4.own (he3.own (he2.own od (by simp)) (by simp)) (by simp; omega)) (h.ext0 E4) E4
  · refine New.mk fun s w3 hs hs3 o3 he3 => ⟨(h1.ext0 he3).own.cellI (by omega) rfl, copyBytes_ok (hD.ext0 (Ed.trans he3)) hl (by omega) fun k w4 hk hs4 hb4 he4 => ⟨(h1.ext0 (he3.trans he4)).own.cellI (by omega) rfl, ?_⟩⟩
    refine Sts.full (he4.own o3 (by simp)) rfl rfl fun w5 hs5 o5 he5 => ?_
    have E5 : Ext [] w w5 := ((Ed.trans he3).trans he4).trans' he5 (fun y hy hlt => by simp at hy; omega)
    exact fin k s w5 (by omega) (by omega) (by omega) (by omega) (by omega) (hb4.ext he5 (by simp; omega)) o5 (he5.own (he4.own (he3.own od (by simp)) (by simp)) (by simp; omega)) (h.ext0 E5) E5
theorem mAck_ok {R : Int → Int → Int → Int → Int → Int → Option Addr → Nat → Nat → World → Prop} (h : MM w m X C) (hS : SbOk C.S) (hB : RbOk C.B)
    (hR : ∀ k w', w.heap.size ≤ k → Bf w' k [] → Ext [] w w' → RSeg R (ackF C) k w') : connm_Conn_ack.Call (some ⟨m, 0, none⟩) w R := by
  apply connm_Conn_ack.sound
  unfold connm_Conn_ack.B0
  refine New.mk fun t w1 ht hs1 o1 he1 => ?_
  have h1 := h.ext0 he1
  refine mOut_ok h1 hS (Pn.mk (h1.own.ldI (o := 7) (by omega) rfl (seqAdd_ok ?_)))
  rw [h1.rel.una]
  refine mMk_ok h1 hB (Rd.nil _ _) rfl (by omega) fun k w3 hk hb3 he3 => ?_
  have hz1 := he1.size
  refine retC (g := ackF C) (k := k) (he3.own o1 (by simp)) rfl fun w4 hs4 he4 => hR k w4 (by omega) (hb3.ext he4 (by simp; omega)) ((he1.trans he3).trans' he4 (fun y hy hlt => by simp at hy; omega))
theorem mRst_ok {seq : Int} {R : Int → Int → Int → Int → Int → Int → Option Addr → Nat → Nat → World → Prop}
    (hR : ∀ k w', w.heap.size ≤ k → Bf w' k [] → Ext [] w w' → RSeg R (rstF seq) k w') : connm_rst.Call seq w R := by
  apply connm_rst.sound
  unfold connm_rst.B0
  refine New.mk fun t w1 ht hs1 o1 he1 => seqAdd_ok (New.mk fun k w2 hk hs2 o2 he2 => ?_)
  have hz1 := he1.size
  have hb : Bf w2 k [] := ⟨o2, IsB.nil⟩
  refine retC (g := rstF seq) (k := k) (he2.own o1 (by simp)) rfl fun w4 hs4 he4 => hR k w4 (by omega) (hb.ext he4 (by simp; omega)) ((he1.trans he2).trans' he4 (fun y hy hlt => by simp at hy; omega))
theorem mWnd_ok {y : Int} {R : Int → World → Prop} (hR : R (windowF y) w) : connm_wnd.Call y w R := by
  apply connm_wnd.sound
  unfold connm_wnd.B0
  unfold windowF at hR
  refine Bm.ite (fun c => ?_) fun c => Bm.ite (fun c2 => ?_) fun c2 => ?_
  · rw [if_pos c] at hR; exact hR
  · rw [if_neg c, if_pos c2] at hR; exact hR
  · rw [if_neg c, if_neg c2] at hR; exact hR
theorem mArm_ok {R : World → Prop} (h : MM w m X C) (hr : 0 ≤ C.rt ∧ C.rt ≤ 3) (hR : ∀ w' t, w'.heap.size = w.heap.size → MM w' m { X with tm := t } (armF C) → Ext [m] w w' → R w') : connm_Conn_arm.Call (some ⟨m, 0, none⟩) w R := by
  apply connm_Conn_arm.sound
  unfold connm_Conn_arm.B0
  have ha := arm_tm hr
  have g := h.own
  have e := h.rel
  rw [armF_eq] at hR
  refine Pn.mk (g.ldI (o := 45) (by omega) rfl ?_)
  rw [e.tm]
  refine Bm.mk (fun e0 => Pn.mk (g.ldI (o := 46) (by omega) rfl ?_)) fun e0 => ?_
  · have e0' : C.tm = 0 := by simpa using e0
    rw [e.rt, wu64 (by omega) (by omega)]
    refine ⟨by omega, Pn.mk ?_⟩
    rw [show min C.rt.toNat IntKind.i64.bits = C.rt.toNat from Nat.min_eq_left (by show C.rt.toNat ≤ 64; omega), w64 (by omega) (by omega)]
    refine g.stTm fun w' hs' g' he' => hR w' _ hs' (h.turn g' he' ⟨rfl, rfl, rfl⟩ ⟨rfl, rfl, rfl⟩ rfl rfl ⟨e.st, e.why, e.wc, e.fs, e.fa, e.pf, e.iss, e.una, e.sent, e.rnxt, e.pw, ?_, e.rt, e.cr, e.qt, e.has, e.val⟩) he'
    show _ = if C.tm = 0 then _ else _
    rw [if_pos e0']
  · have e0' : C.tm ≠ 0 := by simpa using e0
    refine hR w X.tm rfl ⟨h.own, h.q, h.a, ⟨e.st, e.why, e.wc, e.fs, e.fa, e.pf, e.iss, e.una, e.sent, e.rnxt, e.pw, ?_, e.rt, e.cr, e.qt, e.has, e.val⟩⟩ (Ext.refl _ _)
    show X.tm = if C.tm = 0 then _ else _
    rw [if_neg e0']
    exact e.tm
theorem mAgain_ok {R : Int → Int → Int → Int → Int → Int → Option Addr → Nat → Nat → World → Prop} (h : MM w m X C) (hS : SbOk C.S) (hB : RbOk C.B) (hfa : C.fa = false)
    (hR : ∀ k w', w.heap.size ≤ k → Bf w' k (againF C).2 → Ext [] w w' → RSeg R (againF C) k w') : connm_Conn_again.Call (some ⟨m, 0, none⟩) w R := by
  apply connm_Conn_again.sound
  unfold connm_Conn_again.B0
  unfold againF at hR
  have hs := hS.sent
  have hl := hS.len
  have eu : sndUna C = C.S.una := by unfold sndUna; rw [if_neg (by rw [hfa]; simp)]
  refine New.mk fun t w1 ht hs1 o1 he1 => ?_
  have h1 := h.ext0 he1
  have e := h.rel
  have hz1 := he1.size
  refine Pn.mk (h1.own.ldSt ?_)
  rw [e.st]
  refine Bm.mk (fun e1 => Pn.mk (h1.own.ldI (o := 6) (by omega) rfl ?_)) fun e1 => Pn.mk (h1.own.ldSt ?_)
  · rw [if_pos (by simpa using e1)] at hR
    rw [e.iss]
    refine mMk_ok h1 hB (Rd.nil _ _) rfl (by omega) fun k w2 hk hb2 he2 => ?_
    refine retC (g := mkF C 1 C.iss []) (k := k) (he2.own o1 (by simp)) rfl fun w4 hs4 he4 => hR k w4 (by omega) (hb2.ext he4 (by simp; omega)) ((he1.trans he2).trans' he4 (fun y hy hlt => by simp at hy; omega))
  rw [e.st]
  rw [if_neg (by simpa using e1)] at hR
  refine Bm.mk (fun e2 => Pn.mk (h1.own.ldI (o := 6) (by omega) rfl ?_)) fun e2 => Pn.mk (h1.own.ldI (o := 9) (by omega) rfl ?_)
  · rw [if_pos (by simpa using e2)] at hR
    rw [e.iss]
    refine mMk_ok h1 hB (Rd.nil _ _) rfl (by omega) fun k w2 hk hb2 he2 => ?_
    refine retC (g := mkF C 3 C.iss []) (k := k) (he2.own o1 (by simp)) rfl fun w4 hs4 he4 => hR k w4 (by omega) (hb2.ext he4 (by simp; omega)) ((he1.trans he2).trans' he4 (fun y hy hlt => by simp at hy; omega))
  rw [if_neg (by simpa using e2)] at hR
  rw [e.sent]
  have b1 : ∀ n : Int, n = (leastN 12 C.S.sent : Int) → 0 < leastN 12 C.S.sent → connm_Conn_again.B1 (some ⟨m, 0, none⟩) t n w1 R := fun n hn hp => by
    rw [if_pos hp] at hR
    subst hn
    unfold connm_Conn_again.B1
    have hle := leastN_le 12 C.S.sent
    have h1d := h1.drew
    have hql := h.ql
    have hqc := h.q.2.1
    refine Pn.mk (h1d.own.ldI (o := 7) (by omega) rfl (Pn.mk (h1d.own.ldQ ⟨⟨by omega, by omega⟩, ?_⟩)))
    rw [e.una, eu, slBase0]
    simp only [Int.toNat_natCast, Nat.sub_zero, Int.toNat_zero]
    refine mMk_ok h1d hB ((h1d.qrd hS).take (leastN 12 C.S.sent)) (by simp; omega) (by omega) fun k w2 hk hb2 he2 => ?_
    have hzd : w1.drew.heap.size = w1.heap.size := rfl
    refine retC (g := mkF C 2 C.S.una (C.S.D.take (leastN 12 C.S.sent))) (k := k) (he2.own (Own.drew o1) (by simp)) rfl fun w4 hs4 he4 => hR k w4 (by omega) (hb2.ext he4 (by simp; omega)) ((he1.trans ((Ext.drew _ _).trans he2)).trans' he4 (fun y hy hlt => by simp at hy; omega))
  refine Bm.ite (fun hp => Pn.mk (h1.own.ldI (o := 9) (by omega) rfl ?_)) fun hp => Pn.mk (h1.own.ldI (o := 7) (by omega) rfl ?_)
  · rw [e.sent]
    exact Bm.ite (fun c => b1 12 (by unfold leastN; omega) (by unfold leastN; omega)) fun c => b1 _ (by unfold leastN; omega) (by unfold leastN; omega)
  · have hz : ¬ 0 < leastN 12 C.S.sent := by unfold leastN; omega
    rw [if_neg hz] at hR
    rw [e.una, eu]
    refine mMk_ok h1 hB (Rd.nil _ _) rfl (by omega) fun k w2 hk hb2 he2 => ?_
    refine retC (g := mkF C 6 C.S.una []) (k := k) (he2.own o1 (by simp)) rfl fun w4 hs4 he4 => hR k w4 (by omega) (hb2.ext he4 (by simp; omega)) ((he1.trans he2).trans' he4 (fun y hy hlt => by simp at hy; omega))
end
end Go.Proofs.Qxb6500422aGreat
