/-
  node: the plain node; the real node in the heap.
-/
import Derived.Test.Qxb6500430aGreatNdD
set_option linter.unusedVariables false
set_option linter.unusedSimpArgs false
open Go.Vc
namespace Go.Proofs.Qxb6500430aGreat
open Kv
structure NS where
  Y : YS
  kv : KvS
  ap : Int
  used : Nat → Bool
  seq : Nat → Int
  idx : Nat → Int
abbrev Rep := Int × Int × Int × ByteArray
def updB (f : Nat → Bool) (c : Nat) (b : Bool) : Nat → Bool := fun q => if q = c then b else f q
def catchN (n : NS) : NS := if n.ap < n.Y.L.base then { n with kv := (restoreA n.Y.L.snap n.kv).2, ap := n.Y.L.base } else n
def compB (n : NS) : Bool := decide (n.Y.L.base < n.ap ∧ (4 ≤ n.ap - n.Y.L.base ∨ 6 ≤ n.Y.L.last - n.Y.L.base))
def compE (n : NS) : Evt := (compactY n.ap (snapS n.kv.A n.kv.S) n.Y).2
def compS (n : NS) : List LogS := if compB n = true then (compE n).S else []
def compN (n : NS) : NS := if compB n = true then { n with Y := (compE n).Y } else n
def clearN (c : Nat) (n : NS) : NS := { n with used := updB n.used c false, seq := upN n.seq c 0, idx := upN n.idx c 0 }
def datN (n : NS) : ByteArray := (atL n.Y.L (n.ap + 1)).1.2
def ansN (n : NS) (d : ByteArray) (a : Int × ByteArray) : NS × List Rep := match decCmd d with
  | none => (n, [])
  | some c => if n.used c.cl.toNat = true ∧ n.seq c.cl.toNat = c.seq then (clearN c.cl.toNat n, [(c.cl, c.seq, a)]) else (n, [])
def run1 (n : NS) : NS × List Rep :=
  if datN n = estr then ({ n with ap := n.ap + 1 }, []) else ansN { n with ap := n.ap + 1, kv := (applyA (datN n) n.kv).2 } (datN n) (applyA (datN n) n.kv).1
def runN : Nat → NS → NS × List Rep
  | 0, n => (n, [])
  | k + 1, n => ((runN k (run1 n).1).1, (run1 n).2 ++ (runN k (run1 n).1).2)
def give1 (role : Int) (c : Nat) (n : NS) : NS × List Rep := if n.used c = true ∧ (role ≠ 2 ∨ n.idx c ≤ n.ap) then (clearN c n, [((c : Int), n.seq c, 13, estr)]) else (n, [])
def giveN (role : Int) : Nat → NS → NS × List Rep
  | 0, n => (n, [])
  | k + 1, n => ((give1 role k (giveN role k n).1).1, (giveN role k n).2 ++ (give1 role k (giveN role k n).1).2)
structure NEv where
  err : Int
  n : NS
  S : List LogS
  R : List Rep
  G : List MsgV
def afterR (n : NS) : NS × List Rep := runN ((catchN n).Y.cm - (catchN n).ap).toNat (compN (catchN n))
def afterN (n : NS) (S : List LogS) (G : List MsgV) : NEv := ⟨0, (giveN (catchN n).Y.e.role 3 (afterR n).1).1, S ++ compS (catchN n), (afterR n).2 ++ (giveN (catchN n).Y.e.role 3 (afterR n).1).2, G⟩
def tickN (n : NS) : NEv := afterN { n with Y := (tickY n.Y).Y } (tickY n.Y).S (tickY n.Y).G
def failN (n : NS) (e : Int) : NEv := ⟨e, n, [], [], []⟩
def recvN (raw : ByteArray) (n : NS) : NEv := match decM raw with
  | none => failN n 12
  | some m => if m.to ≠ n.Y.e.id ∨ m.fr = m.to then failN n 12 else afterN { n with Y := (stepY m n.Y).Y } (stepY m n.Y).S (stepY m n.Y).G
def takeCall (c : CmdS) (n : NS) : NS := { n with Y := (proposeY (encCmd c) n.Y).2.Y, used := updB n.used c.cl.toNat true, seq := upN n.seq c.cl.toNat c.seq, idx := upN n.idx c.cl.toNat (proposeY (encCmd c) n.Y).1.1 }
def callN (c : CmdS) (n : NS) : NEv :=
  if cmdOk c = false then failN n 9 else if n.Y.e.role ≠ 2 then failN n 8 else if n.used c.cl.toNat = true then failN n 14
  else if (proposeY (encCmd c) n.Y).1.2 ≠ 0 then failN n (proposeY (encCmd c) n.Y).1.2
  else afterN (takeCall c n) (proposeY (encCmd c) n.Y).2.S []
def openN (i : Int) (L : LogS) : NS := catchN ⟨openY i L, ⟨[], fun _ => Kv.zeroS⟩, 0, fun _ => false, fun _ => 0, fun _ => 0⟩
/-! ### the answers of an event are no more than the clients -/
def uc (n : NS) : Nat := (if n.used 0 = true then 1 else 0) + (if n.used 1 = true then 1 else 0) + (if n.used 2 = true then 1 else 0)
theorem uc_le (n : NS) : uc n ≤ 3 := by unfold uc; split <;> split <;> split <;> omega
theorem uc_clear {n : NS} {c : Nat} (hc : c < 3) (hu : n.used c = true) : uc (clearN c n) + 1 = uc n := by
  unfold uc clearN updB
  match c, hc with
  | 0, _ => simp only [hu, if_true]; simp; omega
  | 1, _ => simp only [hu, if_true]; simp; omega
  | 2, _ => simp only [hu, if_true]; simp
theorem uc_ans (n : NS) (d : ByteArray) (a : Int × ByteArray) : (ansN n d a).2.length + uc (ansN n d a).1 = uc n := by
  unfold ansN
  cases hd : decCmd d with
  | none => simp
  | some c =>
    have hp := (decCmd_ok hd).1
    dsimp only
    by_cases hc : n.used c.cl.toNat = true ∧ n.seq c.cl.toNat = c.seq
    · rw [if_pos hc]
      have := uc_clear (c := c.cl.toNat) (by omega) hc.1
      simp
      omega
    · rw [if_neg hc]
      simp
theorem uc_run1 (n : NS) : (run1 n).2.length + uc (run1 n).1 = uc n := by
  unfold run1
  split
  · simp only [List.length_nil, Nat.zero_add]
    rfl
  · have := uc_ans { n with ap := n.ap + 1, kv := (applyA (datN n) n.kv).2 } (datN n) (applyA (datN n) n.kv).1
    exact this
theorem uc_run : ∀ (k : Nat) (n : NS), (runN k n).2.length + uc (runN k n).1 = uc n
  | 0, n => by simp [runN]
  | k + 1, n => by
    have h1 := uc_run1 n
    have h2 := uc_run k (run1 n).1
    simp only [runN, List.length_append]
    omega
theorem uc_give1 {role : Int} {c : Nat} (hc : c < 3) (n : NS) : (give1 role c n).2.length + uc (give1 role c n).1 = uc n := by
  unfold give1
  split
  · rename_i h
    have := uc_clear hc h.1
    simp
    omega
  · simp
theorem uc_give {role : Int} : ∀ (k : Nat) (n : NS), k ≤ 3 → (giveN role k n).2.length + uc (giveN role k n).1 = uc n
  | 0, n, _ => by simp [giveN]
  | k + 1, n, hk => by
    have h1 := uc_give (role := role) k n (by omega)
    have h2 := uc_give1 (role := role) (c := k) (by omega) (giveN role k n).1
    simp only [giveN, List.length_append]
    omega
/-! ### the node's block -/
def ndG (s kp k : Nat) (id ap : Int) (used : Nat → Bool) (seq idx : Nat → Int) (raw : Nat → Value) (nr : Int) : Nat → Value
  | 0 => .pointer (some ⟨s, 0, none⟩)
  | 1 => .pointer (some ⟨kp, 0, none⟩)
  | 2 => .int .i64 id
  | 3 => .int .i64 ap
  | 4 => .bool (used 0)
  | 5 => .bool (used 1)
  | 6 => .bool (used 2)
  | 7 => .int .i64 (seq 0)
  | 8 => .int .i64 (seq 1)
  | 9 => .int .i64 (seq 2)
  | 10 => .int .i64 (idx 0)
  | 11 => .int .i64 (idx 1)
  | 12 => .int .i64 (idx 2)
  | 25 => .int .i64 nr
  | 26 => .pointer (some ⟨k, 0, none⟩)
  | o => raw o
def ndF (s kp k : Nat) (n : NS) (raw : Nat → Value) (nr : Int) : Nat → Value := ndG s kp k n.Y.e.id n.ap n.used n.seq n.idx raw nr
def NdAt (w : World) (p s kp k : Nat) (n : NS) (raw : Nat → Value) (nr : Int) : Prop := Own w p (fnArr 27 (ndF s kp k n raw nr)) T_node_Node
def repC (r : Rep) : List Value := [.int .i64 r.1, .int .i64 r.2.1, .int .i64 r.2.2.1, .string r.2.2.2]
theorem repC_len (r : Rep) : (repC r).length = 4 := rfl
def outC (o : Int × ByteArray) : List Value := [.int .i64 o.1, .string o.2]
theorem outC_len (o : Int × ByteArray) : (outC o).length = 2 := rfl
/-- The answers gathered. -/
def RawIs (raw : Nat → Value) (R : List Rep) : Prop := ∀ i r, R[i]? = some r → ∀ j, j < 4 → raw (13 + i * 4 + j) = (repC r).getD j undef
section
variable {w w' : World} {p s kp k : Nat} {n : NS} {raw : Nat → Value} {nr : Int}
theorem ndF_used {c : Nat} (hc : c < 3) : ndF s kp k n raw nr (4 + c) = .bool (n.used c) := by match c, hc with | 0, _ | 1, _ | 2, _ => rfl
theorem ndF_seq {c : Nat} (hc : c < 3) : ndF s kp k n raw nr (7 + c) = .int .i64 (n.seq c) := by match c, hc with | 0, _ | 1, _ | 2, _ => rfl
theorem ndF_idx {c : Nat} (hc : c < 3) : ndF s kp k n raw nr (10 + c) = .int .i64 (n.idx c) := by match c, hc with | 0, _ | 1, _ | 2, _ => rfl
theorem ndF_raw {j : Nat} (hj : j < 12) : ndF s kp k n raw nr (13 + j) = raw (13 + j) := by match j, hj with | 0, _ | 1, _ | 2, _ | 3, _ | 4, _ | 5, _ | 6, _ | 7, _ | 8, _ | 9, _ | 10, _ | 11, _ => rfl
theorem NdAt.drew (h : NdAt w p s kp k n raw nr) : NdAt w.drew p s kp k n raw nr := Own.drew h
theorem NdAt.ldS {K : Option Addr → Prop} (h : NdAt w p s kp k n raw nr) (hk : K (some ⟨s, 0, none⟩)) : LdP ⟨p, 0, none⟩ w K := LdP.fn (o := 0) h (by omega) rfl hk
theorem NdAt.ldK {K : Option Addr → Prop} (h : NdAt w p s kp k n raw nr) (hk : K (some ⟨kp, 0, none⟩)) : LdP (Addr.add ⟨p, 0, none⟩ 1) w K := by
  rw [add_mk]; exact LdP.fn (o := 1) h (by omega) rfl hk
theorem NdAt.ldE {K : Option Addr → Prop} (h : NdAt w p s kp k n raw nr) (hk : K (some ⟨k, 0, none⟩)) : LdP (Addr.add ⟨p, 0, none⟩ 26) w K := by
  rw [add_mk]; exact LdP.fn (o := 26) h (by omega) rfl hk
theorem NdAt.ldId {K : Int → Prop} (h : NdAt w p s kp k n raw nr) (hk : K n.Y.e.id) : LdI .i64 (Addr.add ⟨p, 0, none⟩ 2) w K := by
  rw [add_mk]; exact LdI.fn (o := 2) h (by omega) rfl hk
theorem NdAt.ldA {K : Int → Prop} (h : NdAt w p s kp k n raw nr) (hk : K n.ap) : LdI .i64 (Addr.add ⟨p, 0, none⟩ 3) w K := by
  rw [add_mk]; exact LdI.fn (o := 3) h (by omega) rfl hk
theorem NdAt.ldN {K : Int → Prop} (h : NdAt w p s kp k n raw nr) (hk : K nr) : LdI .i64 (Addr.add ⟨p, 0, none⟩ 25) w K := by
  rw [add_mk]; exact LdI.fn (o := 25) h (by omega) rfl hk
theorem NdAt.ldU {c : Nat} {K : Bool → Prop} (h : NdAt w p s kp k n raw nr) (hc : c < 3) (hk : K (n.used c)) : LdB (Addr.add (Addr.add ⟨p, 0, none⟩ 4) ((c : Int).toNat * 1)) w K := by
  rw [add_mk, add_mk, Int.toNat_natCast, Nat.mul_one, Nat.zero_add]
  exact LdB.fn h (by omega) (ndF_used hc) hk
theorem NdAt.ldQ {c : Nat} {K : Int → Prop} (h : NdAt w p s kp k n raw nr) (hc : c < 3) (hk : K (n.seq c)) : LdI .i64 (Addr.add (Addr.add ⟨p, 0, none⟩ 7) ((c : Int).toNat * 1)) w K := by
  rw [add_mk, add_mk, Int.toNat_natCast, Nat.mul_one, Nat.zero_add]
  exact LdI.fn h (by omega) (ndF_seq hc) hk
theorem NdAt.ldI {c : Nat} {K : Int → Prop} (h : NdAt w p s kp k n raw nr) (hc : c < 3) (hk : K (n.idx c)) : LdI .i64 (Addr.add (Addr.add ⟨p, 0, none⟩ 10) ((c : Int).toNat * 1)) w K := by
  rw [add_mk, add_mk, Int.toNat_natCast, Nat.mul_one, Nat.zero_add]
  exact LdI.fn h (by omega) (ndF_idx hc) hk
theorem fnPut_one {f : Nat → Value} {o j : Nat} {v : Value} : fnPut f o [v] j = if j = o then v else f j := by
  unfold fnPut
  by_cases h : j = o
  · subst h; simp
  · rw [if_neg (by simp; omega), if_neg h]
theorem split27 {j : Nat} {P : Prop} (hj : j < 27) (h1 : j < 14 → P) (h2 : ∀ i : Nat, i < 13 → j = i + 14 → P) : P := by
  by_cases h : j < 14
  · exact h1 h
  · exact h2 (j - 14) (by omega) (by omega)
theorem NdAt.stA {v : Int} {K : World → Prop} (h : NdAt w p s kp k n raw nr) (hk : ∀ w', NdAt w' p s kp k { n with ap := v } raw nr → Ext [p] w w' → K w') : Sts [.int .i64 v] (Addr.add ⟨p, 0, none⟩ 3) 0 w K := by
  rw [add_mk]
  refine Sts.fn (o := 3) (g := ndF s kp k { n with ap := v } raw nr) h (by simp) rfl (fun j hj => ?_) fun w' _ o' he => hk w' o' he
  rw [fnPut_one]
  refine split27 hj (fun hj => ?_) fun i hi hij => ?_
  · match j, hj with
    | 0, _ | 1, _ | 2, _ | 3, _ | 4, _ | 5, _ | 6, _ | 7, _ | 8, _ | 9, _ | 10, _ | 11, _ | 12, _ | 13, _ => rfl
  · subst hij
    match i, hi with
    | 0, _ | 1, _ | 2, _ | 3, _ | 4, _ | 5, _ | 6, _ | 7, _ | 8, _ | 9, _ | 10, _ | 11, _ | 12, _ => rfl
theorem NdAt.stN {v : Int} {K : World → Prop} (h : NdAt w p s kp k n raw nr) (hk : ∀ w', NdAt w' p s kp k n raw v → Ext [p] w w' → K w') : Sts [.int .i64 v] (Addr.add ⟨p, 0, none⟩ 25) 0 w K := by
  rw [add_mk]
  refine Sts.fn (o := 25) (g := ndF s kp k n raw v) h (by simp) rfl (fun j hj => ?_) fun w' _ o' he => hk w' o' he
  rw [fnPut_one]
  refine split27 hj (fun hj => ?_) fun i hi hij => ?_
  · match j, hj with
    | 0, _ | 1, _ | 2, _ | 3, _ | 4, _ | 5, _ | 6, _ | 7, _ | 8, _ | 9, _ | 10, _ | 11, _ | 12, _ | 13, _ => rfl
  · subst hij
    match i, hi with
    | 0, _ | 1, _ | 2, _ | 3, _ | 4, _ | 5, _ | 6, _ | 7, _ | 8, _ | 9, _ | 10, _ | 11, _ | 12, _ => rfl
theorem NdAt.stU {c : Nat} {v : Bool} {K : World → Prop} (h : NdAt w p s kp k n raw nr) (hc : c < 3) (hk : ∀ w', NdAt w' p s kp k { n with used := updB n.used c v } raw nr → Ext [p] w w' → K w') : Sts [.bool v] (Addr.add (Addr.add ⟨p, 0, none⟩ 4) ((c : Int).toNat * 1)) 0 w K := by
  rw [add_mk, add_mk, Int.toNat_natCast, Nat.mul_one, Nat.zero_add]
  refine Sts.fn (g := ndF s kp k { n with used := updB n.used c v } raw nr) h (by simp; omega) rfl (fun j hj => ?_) fun w' _ o' he => hk w' o' he
  rw [fnPut_one]
  match c, hc with
  | 0, _ | 1, _ | 2, _ =>
    refine split27 hj (fun hj => ?_) fun i hi hij => ?_
    · match j, hj with
      | 0, _ | 1, _ | 2, _ | 3, _ | 4, _ | 5, _ | 6, _ | 7, _ | 8, _ | 9, _ | 10, _ | 11, _ | 12, _ | 13, _ => rfl
    · subst hij
      match i, hi with
      | 0, _ | 1, _ | 2, _ | 3, _ | 4, _ | 5, _ | 6, _ | 7, _ | 8, _ | 9, _ | 10, _ | 11, _ | 12, _ => rfl
theorem NdAt.stQ {c : Nat} {v : Int} {K : World → Prop} (h : NdAt w p s kp k n raw nr) (hc : c < 3) (hk : ∀ w', NdAt w' p s kp k { n with seq := upN n.seq c v } raw nr → Ext [p] w w' → K w') : Sts [.int .i64 v] (Addr.add (Addr.add ⟨p, 0, none⟩ 7) ((c : Int).toNat * 1)) 0 w K := by
  rw [add_mk, add_mk, Int.toNat_natCast, Nat.mul_one, Nat.zero_add]
  refine Sts.fn (g := ndF s kp k { n with seq := upN n.seq c v } raw nr) h (by simp; omega) rfl (fun j hj => ?_) fun w' _ o' he => hk w' o' he
  rw [fnPut_one]
  match c, hc with
  | 0, _ | 1, _ | 2, _ =>
    refine split27 hj (fun hj => ?_) fun i hi hij => ?_
    · match j, hj with
      | 0, _ | 1, _ | 2, _ | 3, _ | 4, _ | 5, _ | 6, _ | 7, _ | 8, _ | 9, _ | 10, _ | 11, _ | 12, _ | 13, _ => rfl
    · subst hij
      match i, hi with
      | 0, _ | 1, _ | 2, _ | 3, _ | 4, _ | 5, _ | 6, _ | 7, _ | 8, _ | 9, _ | 10, _ | 11, _ | 12, _ => rfl
theorem NdAt.stI {c : Nat} {v : Int} {K : World → Prop} (h : NdAt w p s kp k n raw nr) (hc : c < 3) (hk : ∀ w', NdAt w' p s kp k { n with idx := upN n.idx c v } raw nr → Ext [p] w w' → K w') : Sts [.int .i64 v] (Addr.add (Addr.add ⟨p, 0, none⟩ 10) ((c : Int).toNat * 1)) 0 w K := by
  rw [add_mk, add_mk, Int.toNat_natCast, Nat.mul_one, Nat.zero_add]
  refine Sts.fn (g := ndF s kp k { n with idx := upN n.idx c v } raw nr) h (by simp; omega) rfl (fun j hj => ?_) fun w' _ o' he => hk w' o' he
  rw [fnPut_one]
  match c, hc with
  | 0, _ | 1, _ | 2, _ =>
    refine split27 hj (fun hj => ?_) fun i hi hij => ?_
    · match j, hj with
      | 0, _ | 1, _ | 2, _ | 3, _ | 4, _ | 5, _ | 6, _ | 7, _ | 8, _ | 9, _ | 10, _ | 11, _ | 12, _ | 13, _ => rfl
    · subst hij
      match i, hi with
      | 0, _ | 1, _ | 2, _ | 3, _ | 4, _ | 5, _ | 6, _ | 7, _ | 8, _ | 9, _ | 10, _ | 11, _ | 12, _ => rfl
/-- An answer laid. -/
theorem NdAt.stR {i : Nat} {r : Rep} {R : List Rep} {K : World → Prop} (h : NdAt w p s kp k n raw nr) (hi : i < 3) (hR : RawIs raw R) (hl : R.length = i) (hk : ∀ raw' w', NdAt w' p s kp k n raw' nr → RawIs raw' (R ++ [r]) → Ext [p] w w' → K w') :
    Sts (repC r) (Addr.add (Addr.add ⟨p, 0, none⟩ 13) ((i : Int).toNat * 4)) 0 w K := by
  rw [add_mk, add_mk, Int.toNat_natCast, Nat.zero_add]
  refine Sts.fn (g := ndF s kp k n (fnPut raw (13 + i * 4) (repC r)) nr) h (by simp [repC]; omega) rfl (fun j hj => ?_) fun w' _ o' he => hk _ w' o' (fun i' r' hr' j hj => ?_) he
  · unfold fnPut
    have hrl : (repC r).length = 4 := rfl
    rw [hrl]
    by_cases hc : 13 + i * 4 ≤ j ∧ j < 13 + i * 4 + 4
    · rw [if_pos hc]
      have e : ndF s kp k n (fun j => if 13 + i * 4 ≤ j ∧ j < 13 + i * 4 + (repC r).length then (repC r).getD (j - (13 + i * 4)) undef else raw j) nr j = (fun j => if 13 + i * 4 ≤ j ∧ j < 13 + i * 4 + (repC r).length then (repC r).getD (j - (13 + i * 4)) undef else raw j) j := by
        have := ndF_raw (s := s) (kp := kp) (k := k) (n := n) (raw := fun j => if 13 + i * 4 ≤ j ∧ j < 13 + i * 4 + (repC r).length then (repC r).getD (j - (13 + i * 4)) undef else raw j) (nr := nr) (j := j - 13) (by omega)
        rw [show 13 + (j - 13) = j by omega] at this
        exact this
      show _ = ndF s kp k n (fun j => if 13 + i * 4 ≤ j ∧ j < 13 + i * 4 + (repC r).length then (repC r).getD (j - (13 + i * 4)) undef else raw j) nr j
      rw [e]
      show _ = if 13 + i * 4 ≤ j ∧ j < 13 + i * 4 + (repC r).length then (repC r).getD (j - (13 + i * 4)) undef else raw j
      rw [hrl, if_pos hc]
    · rw [if_neg hc]
      by_cases hm : 13 ≤ j ∧ j < 25
      · have e1 := ndF_raw (s := s) (kp := kp) (k := k) (n := n) (raw := raw) (nr := nr) (j := j - 13) (by omega)
        have e2 := ndF_raw (s := s) (kp := kp) (k := k) (n := n) (raw := fun j => if 13 + i * 4 ≤ j ∧ j < 13 + i * 4 + (repC r).length then (repC r).getD (j - (13 + i * 4)) undef else raw j) (nr := nr) (j := j - 13) (by omega)
        rw [show 13 + (j - 13) = j by omega] at e1 e2
        rw [e1]
        show _ = ndF s kp k n (fun j => if 13 + i * 4 ≤ j ∧ j < 13 + i * 4 + (repC r).length then (repC r).getD (j - (13 + i * 4)) undef else raw j) nr j
        rw [e2]
        show _ = if 13 + i * 4 ≤ j ∧ j < 13 + i * 4 + (repC r).length then (repC r).getD (j - (13 + i * 4)) undef else raw j
        rw [hrl, if_neg hc]
      · have : j < 13 ∨ j = 25 ∨ j = 26 := by omega
        rcases this with q | q | q
        · match j, q with
          | 0, _ | 1, _ | 2, _ | 3, _ | 4, _ | 5, _ | 6, _ | 7, _ | 8, _ | 9, _ | 10, _ | 11, _ | 12, _ => rfl
        · subst q; rfl
        · subst q; rfl
  · unfold fnPut
    have hrl : (repC r).length = 4 := rfl
    rw [hrl]
    have hlt := (List.getElem?_eq_some_iff.1 hr').1
    simp [hl] at hlt
    by_cases hii : i' = i
    · subst hii
      rw [if_pos (by omega)]
      rw [List.getElem?_append_right (by omega), hl, Nat.sub_self] at hr'
      simp at hr'
      subst hr'
      congr 1
      omega
    · rw [if_neg (by omega)]
      rw [List.getElem?_append_left (by omega)] at hr'
      exact hR i' r' hr' j hj
end
end Go.Proofs.Qxb6500430aGreat
