/-
  seg: the model's receive buffer.
-/
import Derived.Test.Qxb6500426aSgH
set_option linter.unusedVariables false
set_option linter.unusedSimpArgs false
open Go.Vc
namespace Go.Proofs.Qxb6500426a

def rmF (db : Option Addr) (dl dc : Nat) (nxt : Int) (hf : Nat → Bool) (vf : Nat → Int) (o : Nat) : Value := if o = 0 then .int .i64 nxt else if o = 1 then .slice db dl dc else if o < 18 then .bool (hf (o - 2)) else .int .u8 (vf (o - 18))
def RmAt (w : World) (q : Nat) (db : Option Addr) (dl dc : Nat) (nxt : Int) (hf : Nat → Bool) (vf : Nat → Int) : Prop := Own w q (fnArr 34 (rmF db dl dc nxt hf vf)) T_segm_RecvBuf
structure RmRel (S : RbS) (hf : Nat → Bool) (vf : Nat → Int) : Prop where
  has : ∀ d, d < 16 → hf d = (S.hv d).isSome
  val : ∀ d x, S.hv d = some x → vf d = x
structure RM (w : World) (q : Nat) (db : Option Addr) (dl dc : Nat) (S : RbS) : Prop where
  own : ∃ hf vf, RmAt w q db dl dc S.nxt hf vf ∧ RmRel S hf vf
  row : Row w db dl dc 1 T_uint8 (U8 S.A)
def RMOut (w : World) (q : Nat) (db : Option Addr) (S' : RbS) (K : World → Prop) : Prop :=
  ∀ db' dl' dc' w', RM w' q db' dl' dc' S' → Ext [q] w w' → (∀ k ∈ rowBlk db', k ∈ rowBlk db ∨ w.heap.size ≤ k) → K w'
section
variable {w : World} {q : Nat} {db : Option Addr} {dl dc : Nat} {nxt : Int} {hf : Nat → Bool} {vf : Nat → Int} {S : RbS}
theorem RmAt.ldNxt {K : Int → Prop} (h : RmAt w q db dl dc nxt hf vf) (hk : K nxt) : LdI .i64 ⟨q, 0, none⟩ w K := LdI.fn (o := 0) h (by omega) rfl hk
theorem RmAt.ldD {K : Option Addr → Nat → Nat → Prop} (h : RmAt w q db dl dc nxt hf vf) (hk : K db dl dc) : LdL (Addr.add ⟨q, 0, none⟩ 1) w K := by
  rw [add_mk]
  exact LdL.fn (o := 1) h (by omega) rfl hk
theorem rmF_has {d : Nat} (hd : d < 16) : rmF db dl dc nxt hf vf (2 + d) = .bool (hf d) := by
  unfold rmF
  rw [if_neg (by omega), if_neg (by omega), if_pos (by omega), show 2 + d - 2 = d by omega]
theorem rmF_val {d : Nat} (hd : d < 16) : rmF db dl dc nxt hf vf (18 + d) = .int .u8 (vf d) := by
  unfold rmF
  rw [if_neg (by omega), if_neg (by omega), if_neg (by omega), show 18 + d - 18 = d by omega]
theorem RmAt.ldH {d : Nat} {K : Bool → Prop} (h : RmAt w q db dl dc nxt hf vf) (hd : d < 16) (hk : K (hf d)) : LdB (Addr.add (Addr.add ⟨q, 0, none⟩ 2) ((d : Int).toNat * 1)) w K := by
  rw [add_mk, Nat.zero_add, addr_k]
  exact LdB.fn (o := 2 + d) h (by omega) (rmF_has hd) hk
theorem RmAt.ldV {d : Nat} {K : Int → Prop} (h : RmAt w q db dl dc nxt hf vf) (hd : d < 16) (hk : K (vf d)) : LdI .u8 (Addr.add (Addr.add ⟨q, 0, none⟩ 18) ((d : Int).toNat * 1)) w K := by
  rw [add_mk, Nat.zero_add, addr_k]
  exact LdI.fn (o := 18 + d) h (by omega) (rmF_val hd) hk
def setB (f : Nat → Bool) (i : Nat) (v : Bool) : Nat → Bool := fun j => if j = i then v else f j
def setI (f : Nat → Int) (i : Nat) (v : Int) : Nat → Int := fun j => if j = i then v else f j
theorem RmAt.st {K : World → Prop} {o : Nat} {v : Value} {db' : Option Addr} {dl' dc' : Nat} {nxt' : Int} {hf' : Nat → Bool} {vf' : Nat → Int} (h : RmAt w q db dl dc nxt hf vf) (ho : o < 34) (h1 : [v].all Value.oneCell' = true) (hg : ∀ j, j < 34 → (if j = o then v else rmF db dl dc nxt hf vf j) = rmF db' dl' dc' nxt' hf' vf' j)
    (hk : ∀ w', w'.heap.size = w.heap.size → RmAt w' q db' dl' dc' nxt' hf' vf' → Ext [q] w w' → K w') : Sts [v] ⟨q, o, none⟩ 0 w K := by
  refine Sts.fn (g := rmF db' dl' dc' nxt' hf' vf') h (by simp; omega) h1 (fun j hj => ?_) hk
  rw [← hg j hj]
  unfold fnPut
  by_cases e : j = o
  · subst e
    rw [if_pos (by simp), if_pos rfl]
    simp
  · rw [if_neg (by simp; omega), if_neg e]
theorem RmAt.stNxt {K : World → Prop} {v : Int} (h : RmAt w q db dl dc nxt hf vf) (hk : ∀ w', w'.heap.size = w.heap.size → RmAt w' q db dl dc v hf vf → Ext [q] w w' → K w') : Sts [.int .i64 v] ⟨q, 0, none⟩ 0 w K :=
  h.st (by omega) rfl (fun j hj => by
    by_cases e : j = 0
    · subst e; rfl
    · rw [if_neg e]; unfold rmF; rw [if_neg e, if_neg e]) hk
theorem RmAt.stD {K : World → Prop} {b' : Option Addr} {l' c' : Nat} (h : RmAt w q db dl dc nxt hf vf) (hk : ∀ w', w'.heap.size = w.heap.size → RmAt w' q b' l' c' nxt hf vf → Ext [q] w w' → K w') : Sts [.slice b' l' c'] (Addr.add ⟨q, 0, none⟩ 1) 0 w K := by
  rw [add_mk, Nat.zero_add]
  exact h.st (by omega) rfl (fun j hj => by
    by_cases e : j = 1
    · subst e; rfl
    · rw [if_neg e]; unfold rmF; rw [if_neg e, if_neg e]) hk
theorem RmAt.stH {K : World → Prop} {d : Nat} {v : Bool} (h : RmAt w q db dl dc nxt hf vf) (hd : d < 16) (hk : ∀ w', w'.heap.size = w.heap.size → RmAt w' q db dl dc nxt (setB hf d v) vf → Ext [q] w w' → K w') : Sts [.bool v] ⟨q, 2 + d, none⟩ 0 w K :=
  h.st (by omega) rfl (fun j hj => by
    by_cases e : j = 2 + d
    · subst e
      rw [if_pos rfl, rmF_has hd]
      simp [setB]
    · rw [if_neg e]
      unfold rmF
      split
      · rfl
      · split
        · rfl
        · split
          · unfold setB
            rw [if_neg (by omega)]
          · rfl) hk
theorem RmAt.stV {K : World → Prop} {d : Nat} {v : Int} (h : RmAt w q db dl dc nxt hf vf) (hd : d < 16) (hk : ∀ w', w'.heap.size = w.heap.size → RmAt w' q db dl dc nxt hf (setI vf d v) → Ext [q] w w' → K w') : Sts [.int .u8 v] ⟨q, 18 + d, none⟩ 0 w K :=
  h.st (by omega) rfl (fun j hj => by
    by_cases e : j = 18 + d
    · subst e
      rw [if_pos rfl, rmF_val hd]
      simp [setI]
    · rw [if_neg e]
      unfold rmF
      split
      · rfl
      · split
        · rfl
        · split
          · rfl
          · unfold setI
            rw [if_neg (by omega)]) hk
theorem adr2 (d : Nat) : Addr.add (Addr.add ⟨q, 0, none⟩ 2) ((d : Int).toNat * 1) = ⟨q, 2 + d, none⟩ := by rw [add_mk, Nat.zero_add, addr_k]
theorem adr18 (d : Nat) : Addr.add (Addr.add ⟨q, 0, none⟩ 18) ((d : Int).toNat * 1) = ⟨q, 18 + d, none⟩ := by rw [add_mk, Nat.zero_add, addr_k]
theorem RM.len (h : RM w q db dl dc S) : S.A.length = dl := by have := h.row.1; rw [U8_length] at this; omega
theorem RM.ext {w' : World} {X : List Nat} (h : RM w q db dl dc S) (he : Ext X w w') (hx : ∀ k ∈ q :: rowBlk db, k ∉ X) : RM w' q db dl dc S := by
  obtain ⟨hf, vf, h1, h2⟩ := h.own
  exact ⟨⟨hf, vf, he.own h1 (hx q (List.mem_cons_self ..)), h2⟩, h.row.ext he fun k hk => hx k (List.mem_cons_of_mem _ hk)⟩
theorem RM.ext0 {w' : World} (h : RM w q db dl dc S) (he : Ext [] w w') : RM w' q db dl dc S := h.ext he (fun k _ h => by cases h)
theorem RM.drew (h : RM w q db dl dc S) : RM w.drew q db dl dc S := h.ext0 (Ext.drew _ _)
theorem RM.lt (h : RM w q db dl dc S) : q < w.heap.size := by
  obtain ⟨hf, vf, h1, h2⟩ := h.own
  exact Own.lt h1
theorem RM.out (h : RM w q db dl dc S) : q ∉ rowBlk db := fun hx => by
  obtain ⟨hf, vf, h1, h2⟩ := h.own
  obtain ⟨_, ho'⟩ := h.row.ty hx
  exact Own.ne_type h1 ho' (by decide) rfl
theorem RM.rd (h : RM w q db dl dc S) (hS : RbW S) : Rd w db S.A := row_rd h.row hS.isB
theorem mrNew_ok {R : Option Addr → World → Prop} (hR : ∀ q w', w.heap.size ≤ q → RM w' q none 0 0 R0s → Ext [] w w' → R (some ⟨q, 0, none⟩) w') : segm_NewRecvBuf.Call w R := by
  apply segm_NewRecvBuf.sound
  unfold segm_NewRecvBuf.B0
  refine New.mk fun p w1 e1 s1 o1 he1 => hR p w1 (by omega) ⟨⟨fun _ => false, fun _ => 0, ?_, ⟨fun d hd => rfl, fun d x h => (by cases h)⟩⟩, Row.nil _ _ _⟩ he1
  unfold RmAt
  exact o1
theorem mrNxt_ok {R : Int → World → Prop} (h : RM w q db dl dc S) (hR : R S.nxt w) : segm_RecvBuf_Nxt.Call (some ⟨q, 0, none⟩) w R := by
  apply segm_RecvBuf_Nxt.sound
  unfold segm_RecvBuf_Nxt.B0
  obtain ⟨hf, vf, h1, h2⟩ := h.own
  exact Pn.mk (h1.ldNxt hR)
theorem mrAvail_ok {R : Int → World → Prop} (h : RM w q db dl dc S) (hR : R (S.A.length : Int) w) : segm_RecvBuf_Avail.Call (some ⟨q, 0, none⟩) w R := by
  apply segm_RecvBuf_Avail.sound
  unfold segm_RecvBuf_Avail.B0
  obtain ⟨hf, vf, h1, h2⟩ := h.own
  rw [h.len] at hR
  exact Pn.mk (h1.ldD hR)
theorem mrWindow_ok {R : Int → World → Prop} (h : RM w q db dl dc S) (hS : RbW S) (hR : R (16 - (S.A.length : Int)) w) : segm_RecvBuf_Window.Call (some ⟨q, 0, none⟩) w R := by
  apply segm_RecvBuf_Window.sound
  unfold segm_RecvBuf_Window.B0
  obtain ⟨hf, vf, h1, h2⟩ := h.own
  have := h.len
  have := hS.len
  refine Pn.mk (h1.ldD ?_)
  rw [w64 (by omega) (by omega), ← h.len]
  exact hR
def heldN (S : RbS) : Nat := ((List.range 16).filter fun d => (S.hv d).isSome).length
theorem mrHeld_ok {R : Int → World → Prop} (h : RM w q db dl dc S) (hR : R (heldN S : Int) w) : segm_RecvBuf_Held.Call (some ⟨q, 0, none⟩) w R := by
  apply segm_RecvBuf_Held.sound
  unfold segm_RecvBuf_Held.B0 segm_RecvBuf_Held.L1
  obtain ⟨hf, vf, h1, h2⟩ := h.own
  refine ⟨fun mm b n d w' => ∃ k : Nat, k ≤ 16 ∧ mm = 16 - k ∧ some ⟨q, 0, none⟩ = b ∧ n = (((List.range k).filter fun d => (S.hv d).isSome).length : Int) ∧ d = (k : Int) ∧ w = w', _, ⟨0, by omega, rfl, rfl, rfl, rfl, rfl⟩, ?_⟩
  rintro mm b n d w' ⟨k, hk, rfl, rfl, rfl, rfl, rfl⟩
  have hle := List.length_filter_le (fun d => (S.hv d).isSome) (List.range k)
  rw [List.length_range] at hle
  unfold segm_RecvBuf_Held.L1b segm_RecvBuf_Held.B1
  refine Bm.ite (fun hlt => Pn.mk ⟨⟨by omega, by omega⟩, h1.ldH (by omega) ?_⟩) fun hge => ?_
  · rw [h2.has k (by omega)]
    refine Bm.mk (fun e => ⟨16 - (k + 1), by omega, k + 1, by omega, rfl, rfl, ?_, by rw [w64 (by omega) (by omega)]; omega, rfl⟩) fun e => ⟨16 - (k + 1), by omega, k + 1, by omega, rfl, rfl, ?_, by rw [w64 (by omega) (by omega)]; omega, rfl⟩
    · rw [w64 (by omega) (by omega), List.range_succ, List.filter_append, List.length_append, List.filter_cons_of_pos (p := fun d => (S.hv d).isSome) (a := k) e]
      simp
    · rw [List.range_succ, List.filter_append, List.length_append, List.filter_cons_of_neg (p := fun d => (S.hv d).isSome) (a := k) (by simpa using e)]
      simp
  · have e : k = 16 := by omega
    subst e
    exact hR
theorem mrBytes_ok {R : Option Addr → Nat → Nat → World → Prop} (h : RM w q db dl dc S) (hS : RbW S) (hR : ∀ k w', w.heap.size ≤ k → Bf w' k S.A → Ext [] w w' → R (some ⟨k, 0, none⟩) S.A.length S.A.length w') : segm_RecvBuf_Bytes.Call (some ⟨q, 0, none⟩) w R := by
  apply segm_RecvBuf_Bytes.sound
  unfold segm_RecvBuf_Bytes.B0
  obtain ⟨hf, vf, h1, h2⟩ := h.own
  have hl := h.len
  have := hS.len
  refine Pn.mk (h1.ldD (copyBytes_ok (h.rd hS) hl (by omega) fun k w' hk hs hff he => ?_))
  rw [hl] at hR
  exact hR k w' (by omega) hff he
theorem mrAhead_ok {R : Option Addr → Nat → Nat → World → Prop} (h : RM w q db dl dc S) (hS : RbW S) (hR : ∀ k w', w.heap.size ≤ k → IAt w' k (aheadL S) → Ext [] w w' → R (some ⟨k, 0, none⟩) 16 16 w') : segm_RecvBuf_Ahead.Call (some ⟨q, 0, none⟩) w R := by
  apply segm_RecvBuf_Ahead.sound
  unfold segm_RecvBuf_Ahead.B0
  obtain ⟨hf, vf, h1, h2⟩ := h.own
  refine IAt.make (n := 16) (by omega) fun k w1 e1 s1 o1 he1 => ?_
  unfold segm_RecvBuf_Ahead.L1
  refine ⟨fun mm b ob ol oc d w' => ∃ n : Nat, n ≤ 16 ∧ mm = 16 - n ∧ some ⟨q, 0, none⟩ = b ∧ some ⟨k, 0, none⟩ = ob ∧ 16 = ol ∧ 16 = oc ∧ d = (n : Int) ∧ IAt w' k ((aheadL S).take n ++ List.replicate (16 - n) 0) ∧ Ext [k] w1 w', _,
    ⟨0, by omega, rfl, rfl, rfl, rfl, rfl, rfl, by simpa using o1, Ext.refl _ _⟩, ?_⟩
  rintro mm b ob ol oc d w' ⟨n, hn, rfl, rfl, rfl, rfl, rfl, rfl, o', he'⟩
  have hx' : Ext [] w w' := he1.trans' he' (fun x hx hlt => by simp at hx; omega)
  have hL := aheadL_len S
  unfold segm_RecvBuf_Ahead.L1b segm_RecvBuf_Ahead.B1
  refine Bm.ite (fun hlt => Pn.mk ⟨⟨by omega, by omega⟩, ?_⟩) fun hge => ?_
  · have el : ((aheadL S).take n).length = n := by simp; omega
    have setl : ∀ x, ((aheadL S).take n ++ List.replicate (16 - n) 0).set n x = (aheadL S).take n ++ (x :: List.replicate (16 - (n + 1)) 0) := fun x => by
      rw [List.set_append_right _ _ (by omega), el, Nat.sub_self, show 16 - n = (16 - (n + 1)) + 1 by omega, List.replicate_succ, List.set_cons_zero]
    refine o'.st (addr_i k n) (by simp; omega) fun w2 hs2 o2 he2 => Pn.mk ⟨⟨by omega, by omega⟩, ?_⟩
    rw [setl] at o2
    have hx2 : Ext [] w w2 := hx'.trans' he2 (fun x hx hlt => by simp at hx; omega)
    have g2 : RmAt w2 q db dl dc S.nxt hf vf := hx2.own h1 (by simp)
    have nextl : ∀ x, (aheadL S)[n]? = some x → (aheadL S).take n ++ (x :: List.replicate (16 - (n + 1)) 0) = (aheadL S).take (n + 1) ++ List.replicate (16 - (n + 1)) 0 := fun x hx => by
      rw [take1 hx]
      simp
    have hgetn := aheadL_get S (d := n) (by omega)
    refine g2.ldH (by omega) ?_
    rw [h2.has n (by omega)]
    cases hv : S.hv n with
    | some x =>
      rw [hv] at hgetn
      refine Bm.pos rfl (Pn.mk ⟨⟨by omega, by omega⟩, g2.ldV (by omega) (Pn.mk ⟨⟨by omega, by omega⟩, ?_⟩)⟩)
      rw [h2.val n x hv, w64b (hS.hv n x hv).2]
      refine o2.st (addr_i k n) (by simp; omega) fun w3 hs3 o3 he3 => ⟨16 - (n + 1), by omega, n + 1, by omega, rfl, rfl, rfl, rfl, rfl, by rw [w64 (by omega) (by omega)]; omega, ?_, (he'.trans he2).trans he3⟩
      rw [List.set_append_right _ _ (by omega), el, Nat.sub_self, List.set_cons_zero, nextl x hgetn] at o3
      exact o3
    | none =>
      rw [hv] at hgetn
      refine Bm.neg rfl ⟨16 - (n + 1), by omega, n + 1, by omega, rfl, rfl, rfl, rfl, rfl, by rw [w64 (by omega) (by omega)]; omega, ?_, he'.trans he2⟩
      rw [nextl (-1) hgetn] at o2
      exact o2
  · have en : n = 16 := by omega
    subst en
    rw [List.take_of_length_le (by omega)] at o'
    simp only [Nat.sub_self, List.replicate_zero, List.append_nil] at o'
    exact hR k w' (by omega) o' hx'
theorem mrReset_ok {seq : Int} {R : World → Prop} (h : RM w q db dl dc S) (hR : RMOut w q db (resetR seq) R) : segm_RecvBuf_Reset.Call (some ⟨q, 0, none⟩) seq w R := by
  apply segm_RecvBuf_Reset.sound
  unfold segm_RecvBuf_Reset.B0
  obtain ⟨hf, vf, h1, h2⟩ := h.own
  refine seqAdd_ok (Pn.mk (h1.stNxt fun w1 hs1 g1 he1 => Pn.mk (g1.stD fun w2 hs2 g2 he2 => ?_)))
  unfold segm_RecvBuf_Reset.L1
  refine ⟨fun mm b d w' => ∃ (n : Nat) (hf' : Nat → Bool) (vf' : Nat → Int), n ≤ 16 ∧ mm = 16 - n ∧ some ⟨q, 0, none⟩ = b ∧ d = (n : Int) ∧ RmAt w' q none 0 0 (sqAdd seq 0) hf' vf' ∧ (∀ e, e < n → hf' e = false) ∧ Ext [q] w w', _, ⟨0, hf, vf, by omega, rfl, rfl, rfl, g2, fun e he => by omega, he1.trans he2⟩, ?_⟩
  rintro mm b d w' ⟨n, hf', vf', hn, rfl, rfl, rfl, g, hz, he⟩
  unfold segm_RecvBuf_Reset.L1b
  refine Bm.ite (fun hlt => Pn.mk ⟨⟨by omega, by omega⟩, Pn.mk ?_⟩) fun hge => ?_
  · rw [adr2]
    refine RmAt.stH (w := w'.drew) g (by omega) fun w3 hs3 g3 he3 => ⟨⟨by omega, by omega⟩, ?_⟩
    rw [adr18]
    refine g3.stV (by omega) fun w4 hs4 g4 he4 => ⟨16 - (n + 1), by omega, n + 1, _, _, by omega, rfl, rfl, by rw [w64 (by omega) (by omega)]; omega, g4, fun e he => ?_, ((he.trans (Ext.drew _ _)).trans he3).trans he4⟩
    unfold setB
    by_cases c : e = n
    · rw [if_pos c]
    · rw [if_neg c]; exact hz e (by omega)
  · have en : n = 16 := by omega
    subst en
    exact hR none 0 0 w' ⟨⟨hf', vf', g, ⟨fun d hd => hz d hd, fun d x h => (by cases h)⟩⟩, Row.nil _ _ _⟩ he fun k hk => by simp [rowBlk] at hk
theorem mrRead_ok {mx : Int} {R : Option Addr → Nat → Nat → World → Prop} (h : RM w q db dl dc S) (hS : RbW S) (hR : ∀ k, w.heap.size ≤ k → RMOut w q db (readA mx S) fun w' => Bf w' k (S.A.take (leastN mx S.A.length)) → R (some ⟨k, 0, none⟩) (leastN mx S.A.length) (leastN mx S.A.length) w') : segm_RecvBuf_Read.Call (some ⟨q, 0, none⟩) mx w R := by
  apply segm_RecvBuf_Read.sound
  unfold segm_RecvBuf_Read.B0
  obtain ⟨hf, vf, h1, h2⟩ := h.own
  have hl := h.len
  have hl2 := hS.len
  have hc := h.row.2.1
  have hn := leastN_le mx S.A.length
  have hq := h.lt
  generalize hN : leastN mx S.A.length = N at hn hR
  have go : segm_RecvBuf_Read.B2 (some ⟨q, 0, none⟩) (N : Int) w R := by
    unfold segm_RecvBuf_Read.B2
    refine Pn.mk (h1.ldD ⟨⟨by omega, by omega⟩, ?_⟩)
    rw [slBase0, show (N : Int).toNat - ((0 : Nat) : Int).toNat = N by omega]
    refine copyBytes_ok ((h.rd hS).take N) (by simp; omega) (by omega) fun k w1 hk hs1 hf1 he1 => ?_
    have h1' : RmAt w1 q db dl dc S.nxt hf vf := he1.own h1 (by simp)
    refine Pn.mk (h1'.ldD ⟨⟨by omega, by omega⟩, ?_⟩)
    rw [show ((dl : Nat) : Int).toNat - (N : Int).toNat = dl - N by omega]
    refine copyBytes_ok (((h.ext0 he1).rd hS).drop N (by omega)) (by simp; omega) (by omega) fun k2 w2 hk2 hs2 hf2 he2 => Pn.mk ?_
    have g2 : RmAt w2 q db dl dc S.nxt hf vf := he2.own h1' (by simp)
    refine g2.stD fun w3 hs3 g3 he3 => hR k (by omega) (some ⟨k2, 0, none⟩) (dl - N) (dl - N) w3 ⟨⟨hf, vf, g3, ⟨h2.has, h2.val⟩⟩, ?_⟩ (((he1.trans he2).nil).trans he3) (fun k' hk' => ?_) ((hf1.ext0 he2).ext he3 (by simp; omega))
    · have hf3 := hf2.ext he3 (by simp; omega)
      have hr := hf3.row
      have e : (S.A.drop N).length = dl - N := by simp; omega
      rw [e] at hr
      unfold readA
      rw [hN]
      exact hr
    · simp [rowBlk] at hk'
      exact .inr (by omega)
  have b1 : ∀ n : Int, ((min mx (S.A.length : Int)) = n) → segm_RecvBuf_Read.B1 (some ⟨q, 0, none⟩) n w R := fun n e => by
    unfold segm_RecvBuf_Read.B1
    refine Bm.ite (fun hc => ?_) fun hc => ?_
    · have : ((N : Nat) : Int) = 0 := by rw [← hN]; unfold leastN; omega
      rw [this] at go
      exact go
    · have : ((N : Nat) : Int) = n := by rw [← hN]; unfold leastN; omega
      rw [this] at go
      exact go
  refine Pn.mk (h1.ldD ?_)
  exact Bm.ite (fun hc => b1 _ (by omega)) fun hc => b1 _ (by omega)
/-- A byte that is put in its place. -/
theorem rel_set {d0 : Int} {W n d : Nat} {P : List Int} {x : Int} (hrel : RmRel { S with hv := insH S.hv d0 W P n } hf vf) (hd : d0 + (n : Int) = (d : Int)) (hW : d < W) (hx : P[n]? = some x) (hv : S.hv d = none) : RmRel { S with hv := insH S.hv d0 W P (n + 1) } (setB hf d true) (setI vf d x) := by
  rw [insH_step hd hW hx, hv]
  refine ⟨fun e he => ?_, fun e y hy => ?_⟩
  · show setB hf d true e = (if e = d then (if (none : Option Int).isSome then none else some x) else insH S.hv d0 W P n e).isSome
    unfold setB
    by_cases c : e = d
    · rw [if_pos c, if_pos c]; rfl
    · rw [if_neg c, if_neg c]; exact hrel.has e he
  · have hy' : (if e = d then (if (none : Option Int).isSome then none else some x) else insH S.hv d0 W P n e) = some y := hy
    show setI vf d x e = y
    unfold setI
    by_cases c : e = d
    · rw [if_pos c] at hy' ⊢
      simpa using hy'
    · rw [if_neg c] at hy' ⊢
      exact hrel.val e y hy'
theorem rel_keep {d0 : Int} {W n d : Nat} {P : List Int} {x y : Int} (hrel : RmRel { S with hv := insH S.hv d0 W P n } hf vf) (hd : d0 + (n : Int) = (d : Int)) (hW : d < W) (hx : P[n]? = some x) (hv : S.hv d = some y) : RmRel { S with hv := insH S.hv d0 W P (n + 1) } hf vf := by
  have e : insH S.hv d0 W P (n + 1) = insH S.hv d0 W P n := by
    rw [insH_step hd hW hx]
    funext e
    by_cases c : e = d
    · subst c
      rw [if_pos rfl, hv, insH_at hd, hv]
      rfl
    · rw [if_neg c]
  rw [e]
  exact hrel
end
end Go.Proofs.Qxb6500426a
