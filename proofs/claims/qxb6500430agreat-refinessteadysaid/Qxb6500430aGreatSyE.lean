/-
  sync: flush, send, sendAll.
-/
import Derived.Test.Qxb6500430aGreatSyD
set_option linter.unusedVariables false
set_option linter.unusedSimpArgs false
open Go.Vc
namespace Go.Proofs.Qxb6500430aGreat
/-! ### a list that is being laid -/
def Half (w : World) (k n sz : Nat) (T : TypeId) (pre : List Value) (i : Nat) : Prop := ∃ cs, Own w k cs T ∧ cs.size = n * sz ∧ cs.toList.take (i * sz) = pre
section
variable {w w' : World} {k n sz i : Nat} {T : TypeId} {pre rc : List Value}
theorem Half.put {K : World → Prop} (h : Half w k n sz T pre i) (hl : rc.length = sz) (hi : i < n) (h1 : rc.all Value.oneCell' = true) (hK : ∀ w', w'.heap.size = w.heap.size → Half w' k n sz T (pre ++ rc) (i + 1) → Ext [k] w w' → K w') : Sts rc ⟨k, i * sz, none⟩ 0 w K := by
  obtain ⟨cs, ho, hs, ht⟩ := h
  have h2 : (i + 1) * sz ≤ n * sz := Nat.mul_le_mul_right _ hi
  rw [Nat.add_mul] at h2
  refine Sts.mk ho (by omega) h1 fun w' hs' ho' he => hK w' hs' ⟨_, ho', by rw [size_putArr]; exact hs, ?_⟩ he
  have := take_putArr cs (i * sz) rc (by omega)
  rw [hl, ht] at this
  rw [Nat.add_mul, Nat.one_mul]
  exact this
theorem Half.row (h : Half w k n sz T pre n) (hl : pre.length = n * sz) : Row w (some ⟨k, 0, none⟩) n n sz T pre := by
  obtain ⟨cs, ho, hs, ht⟩ := h
  exact ⟨hl, Nat.le_refl _, .inr ⟨k, cs, rfl, ho, by omega, ht⟩⟩
theorem Half.ext {Z : List Nat} (h : Half w k n sz T pre i) (he : Ext Z w w') (hz : k ∉ Z) : Half w' k n sz T pre i := by
  obtain ⟨cs, ho, hs, ht⟩ := h
  exact ⟨cs, he.own ho hz, hs, ht⟩
theorem Half.extT {ts : List TypeId} (h : Half w k n sz T pre i) (he : ExtT w w' ts) (ht : T ∉ ts) : Half w' k n sz T pre i := by
  obtain ⟨cs, ho, hs, hp⟩ := h
  exact ⟨cs, he.own ho ht, hs, hp⟩
theorem Half.made {z : Value} (h : Own w k (madeCells z.cells (n * sz)) T) : Half w k n sz T [] 0 := ⟨_, h, by simp [madeCells], by simp⟩
theorem Half.ty (h : Half w k n sz T pre i) : ∃ cs, Own w k cs T := by
  obtain ⟨cs, ho, _⟩ := h
  exact ⟨cs, ho⟩
theorem extFresh {ts : List TypeId} {w0 w1 w2 : World} {y : Nat} (h : ExtT w0 w1 ts) (he : Ext [y] w1 w2) (hy : w0.heap.size ≤ y) : ExtT w0 w2 ts := by
  obtain ⟨Z, hz, hT⟩ := h
  refine ⟨Z, hz.trans' he (fun x hx hl => by simp at hx; omega), hT⟩
end
/-- A list of messages. -/
structure ML (w : World) (b : Option Addr) (l c lo : Nat) (E : List ME) : Prop where
  row : Row w b l c 10 T_api_Msg (E.flatMap meC)
  bd : BoxD w lo E
  blk : ∀ k ∈ rowBlk b, lo ≤ k
theorem ML.len {w : World} {b : Option Addr} {l c lo : Nat} {E : List ME} (h : ML w b l c lo E) : E.length = l := by
  have h1 := h.row.1
  have h2 := flat_length meC_len E
  omega
theorem boxv {X : SyR} {n j o : Nat} {x : ME} (hb : ∀ j, j < 10 → X.bx (n * 10 + j) = (meC x).getD j undef) (hn : n < 3) (hj : j < 10) (ho : o = 11 + (n * 10 + j)) : syF X o = (meC x).getD j undef := by
  rw [ho, syF_bx (by omega)]
  exact hb j hj
theorem get_lt' {α : Type} {L : List α} {n : Nat} (h : n < L.length) : ∃ x, L[n]? = some x := ⟨L[n], List.getElem?_eq_getElem h⟩
theorem take_succ' {α : Type} {L : List α} {n : Nat} {x : α} (h : L[n]? = some x) : L.take (n + 1) = L.take n ++ [x] := by
  rw [List.take_add_one, h]; rfl
section
variable {w0 w w' : World} {s l t d e : Nat} {D0 : DiskS} {F0 : List Nat} {N : Int} {L0 : LogS} {X : SyR} {L : LogS} {es : El.ES} {Y : YS} {B : List ME} {S T : List LogS}
theorem flush_ok {R : Option Addr → Nat → Nat → World → Prop} (h : Ev w0 s l t d e D0 F0 N L0 w Y B S) (hB : B.length ≤ 3)
    (hR : ∀ b c w', ML w' b B.length c w0.heap.size B → c ≤ 3 → Ev w0 s l t d e D0 F0 N L0 w' Y [] S → ExtT w w' CT → R b B.length c w') : sync_Sync_flush.Call (some ⟨s, 0, none⟩) w R := by
  apply sync_Sync_flush.sound
  unfold sync_Sync_flush.B0
  obtain ⟨bx, h, hb⟩ := h
  have hz := h.ext.size
  refine Pn.mk (h.own.ldI (o := 41) (by omega) rfl (Bm.mk (fun h0 => ?_) fun hne => Pn.mk (h.own.ldI (o := 41) (by omega) rfl ?_)))
  · have hn : B = [] := List.eq_nil_of_length_eq_zero (by
      have : ((B.length : Int) == 0) = true := h0
      simp at this
      simpa using this)
    subst hn
    exact hR none 0 w ⟨Row.nil _ _ _, BoxD.nil _ _, fun k hk => by cases hk⟩ (by omega) ⟨bx, h, fun i x hx => by simp at hx⟩ (ExtT.refl _ _)
  · show Go.Vc.Make T_api_Msg _ 10 104 (B.length : Int) (B.length : Int) w _
    refine Make.mk (by omega) (by omega) (by omega) (by omega) fun ob w1 hob hs1 o1 he1 => ?_
    rw [Int.toNat_natCast] at o1
    show sync_Sync_flush.L1 (some ⟨s, 0, none⟩) (some ⟨ob, 0, none⟩) (B.length : Int).toNat (B.length : Int).toNat 0 w1 R
    rw [Int.toNat_natCast]
    unfold sync_Sync_flush.L1
    refine ⟨fun m s' ob' ol' oc' i w' => ∃ (n : Nat) (bx' : Nat → Value), n ≤ B.length ∧ m = B.length - n ∧ some ⟨s, 0, none⟩ = s' ∧ some ⟨ob, 0, none⟩ = ob' ∧ B.length = ol' ∧ B.length = oc' ∧ i = (n : Int) ∧ EvX w0 s l t d e D0 F0 N L0 w' (syX l e Y bx' B.length) Y.L Y.e B S ∧ (∀ i x, n ≤ i → B[i]? = some x → ∀ j, j < 10 → bx' (i * 10 + j) = (meC x).getD j undef) ∧ Half w' ob B.length 10 T_api_Msg ((B.take n).flatMap meC) n ∧ ExtT w w' CT, _,
      ⟨0, bx, by omega, rfl, rfl, rfl, rfl, rfl, rfl, h.ext0 he1, fun i x _ => hb i x, by simpa using Half.made o1, ExtT.nil he1 _⟩, ?_⟩
    rintro m s' ob' ol' oc' i w' ⟨n, bx', hn, rfl, rfl, rfl, rfl, rfl, rfl, h', hb', hh, hx'⟩
    unfold sync_Sync_flush.L1b
    refine Pn.mk (h'.own.ldI (o := 41) (by omega) rfl (Bm.ite (fun hlt => ?_) fun hge => ?_))
    · have hlt' : n < B.length := by
        have : (n : Int) < (B.length : Int) := hlt
        omega
      obtain ⟨x, hx⟩ := get_lt' hlt'
      have hv := hb' n x (Nat.le_refl _) hx
      have o := h'.own
      refine Pn.mk ⟨⟨by omega, by omega⟩, ?_⟩
      simp only [add_mk, Int.toNat_natCast]
      refine LdI.fn o (by omega) (boxv hv (by omega) (j := 0) (by omega) (by omega)) (LdI.fn o (by omega) (boxv hv (by omega) (j := 1) (by omega) (by omega)) (LdI.fn o (by omega) (boxv hv (by omega) (j := 2) (by omega) (by omega)) (LdI.fn o (by omega) (boxv hv (by omega) (j := 3) (by omega) (by omega)) (LdI.fn o (by omega) (boxv hv (by omega) (j := 4) (by omega) (by omega)) (LdI.fn o (by omega) (boxv hv (by omega) (j := 5) (by omega) (by omega)) (LdI.fn o (by omega) (boxv hv (by omega) (j := 6) (by omega) (by omega)) ?_))))))
      refine LdB.fn o (by omega) (boxv hv (by omega) (j := 7) (by omega) (by omega)) (LdL.fn o (by omega) (boxv hv (by omega) (j := 8) (by omega) (by omega)) (LdS.fn o (by omega) (boxv hv (by omega) (j := 9) (by omega) (by omega)) (Pn.mk ⟨⟨by omega, by omega⟩, ?_⟩)))
      simp only [add_mk, Nat.zero_add]
      refine hh.put (rc := meC x) rfl hlt' rfl fun w2 hs2 hh2 he2 => ?_
      obtain ⟨cs, oo⟩ := hh.ty
      have ob0 : w0.heap.size ≤ ob := by omega
      have h2 := h'.other he2 (Tys.one oo) (fun q hq => by simp at hq; subst hq; decide) (fun y hy => by simp at hy; omega)
      have x2 := extFresh hx' he2 (by omega)
      refine Pn.mk ⟨⟨by omega, by omega⟩, ?_⟩
      have ead : (⟨s, 11 + n * 10, none⟩ : Addr) = Addr.add (Addr.add ⟨s, 0, none⟩ 11) ((n : Int).toNat * 10) := by rw [add_mk, add_mk, Int.toNat_natCast, Nat.zero_add]
      simp only [add_mk, Nat.zero_add]
      rw [ead]
      refine h2.own.stBx rfl (by omega) rfl fun w3 hs3 o3 he3 => ?_
      have h3 := h2.st o3 rfl rfl he3
      refine ⟨B.length - (n + 1), by omega, n + 1, _, by omega, rfl, by trivial, by trivial, by trivial, by trivial, by rw [w64 (by omega) (by omega)]; omega, h3, fun i y hi hy j hj => ?_, ?_, x2.trans (CTs (by simp) h2.own he3)⟩
      · show (if n * 10 ≤ i * 10 + j ∧ i * 10 + j < n * 10 + 10 then _ else bx' (i * 10 + j)) = _
        rw [if_neg (by omega)]
        exact hb' i y (by omega) hy j hj
      · rw [take_succ' hx, List.flatMap_append]
        have hh3 := hh2.extT (CTs (T := T_sync_Sync) (by simp) h2.own he3) (by decide)
        simpa using hh3
    · have hn2 : n = B.length := by
        have : ¬ ((n : Int) < (B.length : Int)) := hge
        omega
      subst hn2
      refine Pn.mk (h'.own.stNb fun w3 hs3 o3 he3 => ?_)
      have h3 := h'.st o3 rfl rfl he3
      have x3 := CTs (T := T_sync_Sync) (by simp) h'.own he3
      have hh3 := hh.extT x3 (by decide)
      rw [List.take_length] at hh3
      refine hR (some ⟨ob, 0, none⟩) B.length w3 ⟨hh3.row (flat_length meC_len B), h3.bd, fun k hk => by simp [rowBlk] at hk; omega⟩ hB ⟨bx', ⟨h3.own, rfl, rfl, h3.el, h3.cor, h3.fin, BoxD.nil _ _, h3.ext⟩, fun i x hx => by simp at hx⟩ (hx'.trans x3)
end
end Go.Proofs.Qxb6500430aGreat
