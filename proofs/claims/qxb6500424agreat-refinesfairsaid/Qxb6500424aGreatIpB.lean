/-
  ip: the real layer's state and its small functions.
-/
import Derived.Test.Qxb6500424aGreatIpA
set_option linter.unusedVariables false
set_option linter.unusedSimpArgs false
open Go.Vc
namespace Go.Proofs.Qxb6500424aGreat.Ip

structure Slot where
  used : Bool
  key : Int
  left : Int
  total : Int
  held : Nat
  buf : Nat → Int
structure IPS where
  addr : Int
  next : Int
  credit : Int
  sl : Nat → Slot
def slotCell (s : Slot) (r : Nat) : Value :=
  if r = 0 then .bool s.used else if r = 1 then .int .i64 s.key else if r = 2 then .int .i64 s.left else if r = 3 then .int .i64 s.total else if r = 4 then .int .u64 (s.held : Int) else .int .u8 (s.buf (r - 5))
def ipCell (S : IPS) (j : Nat) : Value :=
  if j = 0 then .int .i64 S.addr else if j = 1 then .int .i64 S.next else if j = 2 then .int .i64 S.credit else slotCell (S.sl ((j - 3) / 45)) ((j - 3) % 45)
def RealAt (w : World) (p : Nat) (S : IPS) : Prop := Own w p (fnArr 138 (ipCell S)) T_ip_IP
def updS (f : Nat → Slot) (i : Nat) (s : Slot) : Nat → Slot := fun j => if j = i then s else f j
def IPS.setS (S : IPS) (i : Nat) (s : Slot) : IPS := { S with sl := updS S.sl i s }

theorem setS_same (S : IPS) (i : Nat) (s : Slot) : (S.setS i s).sl i = s := by simp [IPS.setS, updS]
theorem setS_ne (S : IPS) {i j : Nat} (s : Slot) (h : j ≠ i) : (S.setS i s).sl j = S.sl j := by simp [IPS.setS, updS, h]
theorem ipCell_slot (S : IPS) {i r : Nat} (hr : r < 45) : ipCell S (3 + i * 45 + r) = slotCell (S.sl i) r := by
  unfold ipCell
  rw [if_neg (by omega), if_neg (by omega), if_neg (by omega)]
  have e1 : (3 + i * 45 + r - 3) / 45 = i := by omega
  have e2 : (3 + i * 45 + r - 3) % 45 = r := by omega
  rw [e1, e2]
theorem put_slot (S : IPS) {i r : Nat} (hr : r < 45) {v : Value} {s' : Slot} (h : ∀ r', r' < 45 → slotCell s' r' = if r' = r then v else slotCell (S.sl i) r') :
    ∀ j, j < 138 → fnPut (ipCell S) (3 + i * 45 + r) [v] j = ipCell (S.setS i s') j := by
  intro j hj
  unfold fnPut
  by_cases hlt : j < 3
  · rw [if_neg (by omega)]
    unfold ipCell IPS.setS
    by_cases h0 : j = 0
    · rw [if_pos h0, if_pos h0]
    by_cases h1 : j = 1
    · rw [if_neg h0, if_pos h1, if_neg h0, if_pos h1]
    have h2 : j = 2 := by omega
    rw [if_neg h0, if_neg h1, if_pos h2, if_neg h0, if_neg h1, if_pos h2]
  · obtain ⟨q, r', hq, hr', rfl⟩ : ∃ q r', q < 3 ∧ r' < 45 ∧ j = 3 + q * 45 + r' := ⟨(j - 3) / 45, (j - 3) % 45, by omega, by omega, by omega⟩
    rw [ipCell_slot _ hr', ipCell_slot _ hr']
    by_cases hqi : q = i
    · subst hqi
      rw [setS_same, h r' hr']
      by_cases hrr : r' = r
      · subst hrr
        rw [if_pos ⟨by omega, by simp⟩, if_pos rfl]
        simp
      · rw [if_neg (by simp; omega), if_neg hrr]
    · rw [setS_ne _ _ hqi, if_neg (by simp; omega)]
theorem put_used (S : IPS) (i : Nat) (v : Bool) : ∀ j, j < 138 → fnPut (ipCell S) (3 + i * 45) [.bool v] j = ipCell (S.setS i { S.sl i with used := v }) j := by
  have h := put_slot S (i := i) (r := 0) (by omega) (v := .bool v) (s' := { S.sl i with used := v }) (fun r' _ => by
    unfold slotCell
    by_cases h0 : r' = 0
    · simp [h0]
    · simp [h0])
  exact h
theorem put_key (S : IPS) (i : Nat) (v : Int) : ∀ j, j < 138 → fnPut (ipCell S) (3 + i * 45 + 1) [.int .i64 v] j = ipCell (S.setS i { S.sl i with key := v }) j :=
  put_slot S (by omega) (fun r' _ => by
    unfold slotCell
    by_cases h0 : r' = 1
    · simp [h0]
    · simp [h0])
theorem put_left (S : IPS) (i : Nat) (v : Int) : ∀ j, j < 138 → fnPut (ipCell S) (3 + i * 45 + 2) [.int .i64 v] j = ipCell (S.setS i { S.sl i with left := v }) j :=
  put_slot S (by omega) (fun r' _ => by
    unfold slotCell
    by_cases h0 : r' = 2
    · simp [h0]
    · simp [h0])
theorem put_total (S : IPS) (i : Nat) (v : Int) : ∀ j, j < 138 → fnPut (ipCell S) (3 + i * 45 + 3) [.int .i64 v] j = ipCell (S.setS i { S.sl i with total := v }) j :=
  put_slot S (by omega) (fun r' _ => by
    unfold slotCell
    by_cases h0 : r' = 3
    · simp [h0]
    · simp [h0])
theorem put_held (S : IPS) (i : Nat) (v : Nat) : ∀ j, j < 138 → fnPut (ipCell S) (3 + i * 45 + 4) [.int .u64 (v : Int)] j = ipCell (S.setS i { S.sl i with held := v }) j :=
  put_slot S (by omega) (fun r' _ => by
    unfold slotCell
    by_cases h0 : r' = 4
    · simp [h0]
    · simp [h0])
def updB (f : Nat → Int) (k : Nat) (v : Int) : Nat → Int := fun j => if j = k then v else f j
theorem put_buf (S : IPS) (i : Nat) {k : Nat} (hk : k < 40) (v : Int) : ∀ j, j < 138 → fnPut (ipCell S) (3 + i * 45 + (5 + k)) [.int .u8 v] j = ipCell (S.setS i { S.sl i with buf := updB (S.sl i).buf k v }) j :=
  put_slot S (by omega) (fun r' _ => by
    unfold slotCell updB
    by_cases h0 : r' = 5 + k
    · subst h0
      rw [if_neg (by omega), if_neg (by omega), if_neg (by omega), if_neg (by omega), if_neg (by omega)]
      simp
    · rw [if_neg h0]
      by_cases h5 : r' < 5
      · have : r' = 0 ∨ r' = 1 ∨ r' = 2 ∨ r' = 3 ∨ r' = 4 := by omega
        rcases this with q | q | q | q | q <;> subst q <;> simp
      · simp only [if_neg (show ¬ r' = 0 by omega), if_neg (show ¬ r' = 1 by omega), if_neg (show ¬ r' = 2 by omega), if_neg (show ¬ r' = 3 by omega), if_neg (show ¬ r' = 4 by omega)]
        rw [if_neg (by omega)])
theorem put_next (S : IPS) (v : Int) : ∀ j, j < 138 → fnPut (ipCell S) 1 [.int .i64 v] j = ipCell { S with next := v } j := by
  intro j _
  unfold fnPut ipCell
  by_cases h : j = 1
  · subst h; simp
  · rw [if_neg (by simp; omega)]
    simp [h]
theorem put_credit (S : IPS) (v : Int) : ∀ j, j < 138 → fnPut (ipCell S) 2 [.int .i64 v] j = ipCell { S with credit := v } j := by
  intro j _
  unfold fnPut ipCell
  by_cases h : j = 2
  · subst h; simp
  · rw [if_neg (by simp; omega)]
    simp [h]

/-- The slot's cells, read. -/
theorem RealAt.used {w : World} {p : Nat} {S : IPS} (h : RealAt w p S) {i : Nat} (hi : i < 3) : w.cell? ⟨p, 3 + i * 45, none⟩ = some (.bool (S.sl i).used) := by
  refine Own.cell h ?_
  rw [fnArr_get _ (by omega)]
  exact congrArg some (ipCell_slot S (i := i) (r := 0) (by omega))
theorem RealAt.key {w : World} {p : Nat} {S : IPS} (h : RealAt w p S) {i : Nat} (hi : i < 3) : w.cell? ⟨p, 3 + i * 45 + 1, none⟩ = some (.int .i64 (S.sl i).key) := by
  refine Own.cell h ?_
  rw [fnArr_get _ (by omega), ipCell_slot _ (by omega)]
  rfl
theorem RealAt.left {w : World} {p : Nat} {S : IPS} (h : RealAt w p S) {i : Nat} (hi : i < 3) : w.cell? ⟨p, 3 + i * 45 + 2, none⟩ = some (.int .i64 (S.sl i).left) := by
  refine Own.cell h ?_
  rw [fnArr_get _ (by omega), ipCell_slot _ (by omega)]
  rfl
theorem RealAt.total {w : World} {p : Nat} {S : IPS} (h : RealAt w p S) {i : Nat} (hi : i < 3) : w.cell? ⟨p, 3 + i * 45 + 3, none⟩ = some (.int .i64 (S.sl i).total) := by
  refine Own.cell h ?_
  rw [fnArr_get _ (by omega), ipCell_slot _ (by omega)]
  rfl
theorem RealAt.held {w : World} {p : Nat} {S : IPS} (h : RealAt w p S) {i : Nat} (hi : i < 3) : w.cell? ⟨p, 3 + i * 45 + 4, none⟩ = some (.int .u64 ((S.sl i).held : Int)) := by
  refine Own.cell h ?_
  rw [fnArr_get _ (by omega), ipCell_slot _ (by omega)]
  rfl
theorem RealAt.buf {w : World} {p : Nat} {S : IPS} (h : RealAt w p S) {i k : Nat} (hi : i < 3) (hk : k < 40) : w.cell? ⟨p, 3 + i * 45 + (5 + k), none⟩ = some (.int .u8 ((S.sl i).buf k)) := by
  refine Own.cell h ?_
  rw [fnArr_get _ (by omega), ipCell_slot _ (by omega)]
  unfold slotCell
  rw [if_neg (by omega), if_neg (by omega), if_neg (by omega), if_neg (by omega), if_neg (by omega)]
  simp
theorem RealAt.addr {w : World} {p : Nat} {S : IPS} (h : RealAt w p S) : w.cell? ⟨p, 0, none⟩ = some (.int .i64 S.addr) := Own.cell h (by rw [fnArr_get _ (by omega)]; rfl)
theorem RealAt.next {w : World} {p : Nat} {S : IPS} (h : RealAt w p S) : w.cell? ⟨p, 1, none⟩ = some (.int .i64 S.next) := Own.cell h (by rw [fnArr_get _ (by omega)]; rfl)
theorem RealAt.credit {w : World} {p : Nat} {S : IPS} (h : RealAt w p S) : w.cell? ⟨p, 2, none⟩ = some (.int .i64 S.credit) := Own.cell h (by rw [fnArr_get _ (by omega)]; rfl)
theorem RealAt.drew {w : World} {p : Nat} {S : IPS} (h : RealAt w p S) : RealAt w.drew p S := Own.drew h
/-- Stores. -/
theorem RealAt.st {w : World} {p o : Nat} {S S' : IPS} {v : Value} {K : World → Prop} (h : RealAt w p S) (ho : o < 138) (h1 : v.oneCell' = true) (hg : ∀ j, j < 138 → fnPut (ipCell S) o [v] j = ipCell S' j)
    (hk : ∀ w', w'.heap.size = w.heap.size → RealAt w' p S' → Ext [p] w w' → K w') : Sts [v] ⟨p, o, none⟩ 0 w K :=
  Sts.fn h (by simp; omega) (by simp [h1]) hg hk

/-! ### find, vacant -/
theorem find_ok {w : World} {p : Nat} {S : IPS} {key : Int} {R : Int → World → Prop} (h : RealAt w p S)
    (hf : ∀ i : Nat, i < 3 → (S.sl i).used = true → (S.sl i).key = key → R (i : Int) w) (hn : (∀ i : Nat, i < 3 → ¬ ((S.sl i).used = true ∧ (S.sl i).key = key)) → R (-1) w) : ip_IP_find.Call (some ⟨p, 0, none⟩) key w R := by
  apply ip_IP_find.sound
  unfold ip_IP_find.B0 ip_IP_find.L1
  refine ⟨fun m p' key' i w' => some ⟨p, 0, none⟩ = p' ∧ key = key' ∧ w = w' ∧ 0 ≤ i ∧ i ≤ 3 ∧ m = (3 - i).toNat ∧ ∀ j : Nat, (j : Int) < i → ¬ ((S.sl j).used = true ∧ (S.sl j).key = key), 3, ⟨rfl, rfl, rfl, by omega, by omega, rfl, fun j hj => by omega⟩, ?_⟩
  rintro m p' key' i w' ⟨rfl, rfl, rfl, i0, i3, rfl, hall⟩
  unfold ip_IP_find.L1b
  refine Bm.ite (fun hi => ?_) (fun hi => hn (fun j hj => hall j (by omega)))
  have go : ¬ ((S.sl i.toNat).used = true ∧ (S.sl i.toNat).key = key) → ip_IP_find.B1 (some ⟨p, 0, none⟩) key i false w (fun p' key' i' w' => ∃ m', m' < (3 - i).toNat ∧ some ⟨p, 0, none⟩ = p' ∧ key = key' ∧ w = w' ∧ 0 ≤ i' ∧ i' ≤ 3 ∧ m' = (3 - i').toNat ∧ ∀ j : Nat, (j : Int) < i' → ¬ ((S.sl j).used = true ∧ (S.sl j).key = key)) R := fun hno => by
    unfold ip_IP_find.B1
    refine Bm.neg rfl ?_
    rw [w64 (by omega) (by omega)]
    refine ⟨(3 - (i + 1)).toNat, by omega, rfl, rfl, rfl, by omega, by omega, rfl, fun j hj => ?_⟩
    by_cases e : j = i.toNat
    · subst e; exact hno
    · exact hall j (by omega)
  refine Pn.mk ⟨⟨i0, by omega⟩, LdB.cell (by rw [add_mk, add_mk, Nat.zero_add]; exact h.used (by omega)) (Bm.mk (fun hu => ?_) (fun hu => go (fun q => by rw [q.1] at hu; cases hu)))⟩
  refine Pn.mk ⟨⟨i0, by omega⟩, LdI.cell (by rw [add_mk, add_mk, add_mk, Nat.zero_add]; exact h.key (by omega)) ?_⟩
  by_cases hk : (S.sl i.toNat).key = key
  · have : ((S.sl i.toNat).key == key) = true := by simpa using hk
    rw [this]
    unfold ip_IP_find.B1
    refine Bm.pos rfl ?_
    have := hf i.toNat (by omega) hu hk
    rwa [show ((i.toNat : Nat) : Int) = i by omega] at this
  · have : ((S.sl i.toNat).key == key) = false := by simpa using hk
    rw [this]
    exact go (fun q => hk q.2)
theorem vacant_ok {w : World} {p : Nat} {S : IPS} {R : Int → World → Prop} (h : RealAt w p S)
    (hf : ∀ i : Nat, i < 3 → (S.sl i).used = false → R (i : Int) w) (hn : (∀ i : Nat, i < 3 → (S.sl i).used = true) → R (-1) w) : ip_IP_vacant.Call (some ⟨p, 0, none⟩) w R := by
  apply ip_IP_vacant.sound
  unfold ip_IP_vacant.B0 ip_IP_vacant.L1
  refine ⟨fun m p' i w' => some ⟨p, 0, none⟩ = p' ∧ w = w' ∧ 0 ≤ i ∧ i ≤ 3 ∧ m = (3 - i).toNat ∧ ∀ j : Nat, (j : Int) < i → (S.sl j).used = true, 3, ⟨rfl, rfl, by omega, by omega, rfl, fun j hj => by omega⟩, ?_⟩
  rintro m p' i w' ⟨rfl, rfl, i0, i3, rfl, hall⟩
  unfold ip_IP_vacant.L1b
  refine Bm.ite (fun hi => ?_) (fun hi => hn (fun j hj => hall j (by omega)))
  refine Pn.mk ⟨⟨i0, by omega⟩, LdB.cell (by rw [add_mk, add_mk, Nat.zero_add]; exact h.used (by omega)) (Bm.mk (fun hu => ?_) (fun hu => ?_))⟩
  · have := hf i.toNat (by omega) (by simpa using hu)
    rwa [show ((i.toNat : Nat) : Int) = i by omega] at this
  · rw [w64 (by omega) (by omega)]
    refine ⟨(3 - (i + 1)).toNat, by omega, rfl, rfl, by omega, by omega, rfl, fun j hj => ?_⟩
    by_cases e : j = i.toNat
    · subst e; simpa using hu
    · exact hall j (by omega)
end Go.Proofs.Qxb6500424aGreat.Ip
