/-
  conn: the block on the heap; lists of segments.
-/
import Derived.Test.Qxb6500424aGreatCnB
set_option linter.unusedVariables false
set_option linter.unusedSimpArgs false
open Go.Vc
namespace Go.Proofs.Qxb6500424aGreat

def cnF (p r : Nat) (C : CS) (o : Nat) : Value := if o = 0 then .pointer (some ⟨p, 0, none⟩) else if o = 1 then .pointer (some ⟨r, 0, none⟩) else if o = 2 then .int .i64 C.st else if o = 3 then .int .i64 C.why else if o = 4 then .bool C.wc else if o = 5 then .bool C.fs else if o = 6 then .bool C.fa else if o = 7 then .bool C.pf else if o = 8 then .int .i64 C.iss else if o = 9 then .int .i64 C.pw else if o = 10 then .int .i64 C.tm else if o = 11 then .int .i64 C.rt else if o = 12 then .int .i64 C.cr else .int .i64 C.qt
structure CnR (w : World) (x p r : Nat) (C : CS) : Prop where
  own : Own w x (fnArr 14 (cnF p r C)) T_conn_Conn
  s : SR w p C.S
  b : RR w r C.B
section
variable {w w' : World} {x p r : Nat} {C : CS}
theorem CnR.extT {X : List Nat} {ts : List TypeId} (h : CnR w x p r C) (he : Ext X w w') (hX : Tys w X ts) (ht : ∀ q ∈ ts, q ≠ T_conn_Conn ∧ q ≠ T_seg_SendBuf ∧ q ≠ T_seg_RecvBuf) : CnR w' x p r C := by
  obtain ⟨X1, x1, x2⟩ := h.s
  obtain ⟨Y1, y1, y2⟩ := h.b
  exact ⟨ownT he hX h.own (fun hx => (ht _ hx).1 rfl), ⟨X1, ownT he hX x1 (fun hx => (ht _ hx).2.1 rfl), x2⟩, ⟨Y1, ownT he hX y1 (fun hx => (ht _ hx).2.2 rfl), y2⟩⟩
theorem CnR.ext {X : List Nat} (h : CnR w x p r C) (he : Ext X w w') (h1 : x ∉ X) (h2 : p ∉ X) (h3 : r ∉ X) : CnR w' x p r C := ⟨he.own h.own h1, h.s.ext he h2, h.b.ext he h3⟩
theorem CnR.ext0 (h : CnR w x p r C) (he : Ext [] w w') : CnR w' x p r C := h.ext he (by simp) (by simp) (by simp)
theorem CnR.drew (h : CnR w x p r C) : CnR w.drew x p r C := h.ext0 (Ext.drew _ _)
theorem CnR.lt (h : CnR w x p r C) : x < w.heap.size ∧ p < w.heap.size ∧ r < w.heap.size := ⟨h.own.lt, h.s.lt, h.b.lt⟩
theorem CnR.tys (h : CnR w x p r C) : Tys w [x, p, r] [T_conn_Conn, T_seg_SendBuf, T_seg_RecvBuf] := fun k hk _ => by
  obtain ⟨X1, x1, x2⟩ := h.s
  obtain ⟨Y1, y1, y2⟩ := h.b
  simp only [List.mem_cons, List.not_mem_nil, or_false] at hk
  rcases hk with rfl | rfl | rfl
  · exact ⟨_, _, h.own, by simp⟩
  · exact ⟨_, _, x1, by simp⟩
  · exact ⟨_, _, y1, by simp⟩
theorem CnR.setS {S' : SbS} (h : CnR w x p r C) (hS : SR w' p S') (he : Ext [p] w w') : CnR w' x p r { C with S := S' } := by
  obtain ⟨X1, x1, x2⟩ := h.s
  obtain ⟨Y1, y1, y2⟩ := h.b
  have hX := Tys.one x1
  exact ⟨ownT he hX h.own (by decide), hS, ⟨Y1, ownT he hX y1 (by decide), y2⟩⟩
theorem CnR.setB {B' : RbS} (h : CnR w x p r C) (hB : RR w' r B') (he : Ext [r] w w') : CnR w' x p r { C with B := B' } := by
  obtain ⟨X1, x1, x2⟩ := h.s
  obtain ⟨Y1, y1, y2⟩ := h.b
  have hX := Tys.one y1
  exact ⟨ownT he hX h.own (by decide), ⟨X1, ownT he hX x1 (by decide), x2⟩, hB⟩
theorem CnR.ldS {K : Option Addr → Prop} (h : CnR w x p r C) (hk : K (some ⟨p, 0, none⟩)) : LdP ⟨x, 0, none⟩ w K := LdP.fn (o := 0) h.own (by omega) rfl hk
theorem CnR.ldR {K : Option Addr → Prop} (h : CnR w x p r C) (hk : K (some ⟨r, 0, none⟩)) : LdP (Addr.add ⟨x, 0, none⟩ 1) w K := by
  rw [add_mk, Nat.zero_add]
  exact LdP.fn (o := 1) h.own (by omega) rfl hk
theorem CnR.ldI {o : Nat} {v : Int} {K : Int → Prop} (h : CnR w x p r C) (ho : o < 14) (hv : cnF p r C o = .int .i64 v) (hk : K v) : LdI .i64 (Addr.add ⟨x, 0, none⟩ o) w K := by
  rw [add_mk, Nat.zero_add]
  exact LdI.fn h.own ho hv hk
theorem CnR.ldB {o : Nat} {v : Bool} {K : Bool → Prop} (h : CnR w x p r C) (ho : o < 14) (hv : cnF p r C o = .bool v) (hk : K v) : LdB (Addr.add ⟨x, 0, none⟩ o) w K := by
  rw [add_mk, Nat.zero_add]
  exact LdB.fn h.own ho hv hk
theorem CnR.st {K : World → Prop} {o : Nat} {v : Value} (C' : CS) (h : CnR w x p r C) (ho : o < 14) (h1 : [v].all Value.oneCell' = true) (hg : ∀ j, j < 14 → (if j = o then v else cnF p r C j) = cnF p r C' j) (hS : C'.S = C.S) (hB : C'.B = C.B) (hk : ∀ w', w'.heap.size = w.heap.size → CnR w' x p r C' → Ext [x] w w' → K w') : Sts [v] (Addr.add ⟨x, 0, none⟩ o) 0 w K := by
  rw [add_mk, Nat.zero_add]
  refine Sts.fn (g := cnF p r C') h.own (by simp; omega) h1 (fun j hj => ?_) fun w' hs ho' he => ?_
  · rw [← hg j hj]
    unfold fnPut
    by_cases e : j = o
    · subst e
      rw [if_pos (by simp), if_pos rfl]
      simp
    · rw [if_neg (by simp; omega), if_neg e]
  · obtain ⟨X1, x1, x2⟩ := h.s
    obtain ⟨Y1, y1, y2⟩ := h.b
    have hX := Tys.one h.own
    exact hk w' hs ⟨ho', ⟨X1, ownT he hX x1 (by decide), by rw [hS]; exact x2⟩, ⟨Y1, ownT he hX y1 (by decide), by rw [hB]; exact y2⟩⟩ he
theorem CnR.stSt {K : World → Prop} {v : Int} (h : CnR w x p r C) (hk : ∀ w', w'.heap.size = w.heap.size → CnR w' x p r { C with st := v } → Ext [x] w w' → K w') : Sts [.int .i64 v] (Addr.add ⟨x, 0, none⟩ 2) 0 w K :=
  h.st { C with st := v } (by omega) rfl (fun j hj => by
    by_cases e : j = 2
    · subst e; rfl
    · rw [if_neg e]
      unfold cnF
      simp only [if_neg e]) rfl rfl hk
theorem CnR.stWhy {K : World → Prop} {v : Int} (h : CnR w x p r C) (hk : ∀ w', w'.heap.size = w.heap.size → CnR w' x p r { C with why := v } → Ext [x] w w' → K w') : Sts [.int .i64 v] (Addr.add ⟨x, 0, none⟩ 3) 0 w K :=
  h.st { C with why := v } (by omega) rfl (fun j hj => by
    by_cases e : j = 3
    · subst e; rfl
    · rw [if_neg e]
      unfold cnF
      simp only [if_neg e]) rfl rfl hk
theorem CnR.stWc {K : World → Prop} {v : Bool} (h : CnR w x p r C) (hk : ∀ w', w'.heap.size = w.heap.size → CnR w' x p r { C with wc := v } → Ext [x] w w' → K w') : Sts [.bool v] (Addr.add ⟨x, 0, none⟩ 4) 0 w K :=
  h.st { C with wc := v } (by omega) rfl (fun j hj => by
    by_cases e : j = 4
    · subst e; rfl
    · rw [if_neg e]
      unfold cnF
      simp only [if_neg e]) rfl rfl hk
theorem CnR.stFs {K : World → Prop} {v : Bool} (h : CnR w x p r C) (hk : ∀ w', w'.heap.size = w.heap.size → CnR w' x p r { C with fs := v } → Ext [x] w w' → K w') : Sts [.bool v] (Addr.add ⟨x, 0, none⟩ 5) 0 w K :=
  h.st { C with fs := v } (by omega) rfl (fun j hj => by
    by_cases e : j = 5
    · subst e; rfl
    · rw [if_neg e]
      unfold cnF
      simp only [if_neg e]) rfl rfl hk
theorem CnR.stFa {K : World → Prop} {v : Bool} (h : CnR w x p r C) (hk : ∀ w', w'.heap.size = w.heap.size → CnR w' x p r { C with fa := v } → Ext [x] w w' → K w') : Sts [.bool v] (Addr.add ⟨x, 0, none⟩ 6) 0 w K :=
  h.st { C with fa := v } (by omega) rfl (fun j hj => by
    by_cases e : j = 6
    · subst e; rfl
    · rw [if_neg e]
      unfold cnF
      simp only [if_neg e]) rfl rfl hk
theorem CnR.stPf {K : World → Prop} {v : Bool} (h : CnR w x p r C) (hk : ∀ w', w'.heap.size = w.heap.size → CnR w' x p r { C with pf := v } → Ext [x] w w' → K w') : Sts [.bool v] (Addr.add ⟨x, 0, none⟩ 7) 0 w K :=
  h.st { C with pf := v } (by omega) rfl (fun j hj => by
    by_cases e : j = 7
    · subst e; rfl
    · rw [if_neg e]
      unfold cnF
      simp only [if_neg e]) rfl rfl hk
theorem CnR.stIss {K : World → Prop} {v : Int} (h : CnR w x p r C) (hk : ∀ w', w'.heap.size = w.heap.size → CnR w' x p r { C with iss := v } → Ext [x] w w' → K w') : Sts [.int .i64 v] (Addr.add ⟨x, 0, none⟩ 8) 0 w K :=
  h.st { C with iss := v } (by omega) rfl (fun j hj => by
    by_cases e : j = 8
    · subst e; rfl
    · rw [if_neg e]
      unfold cnF
      simp only [if_neg e]) rfl rfl hk
theorem CnR.stPw {K : World → Prop} {v : Int} (h : CnR w x p r C) (hk : ∀ w', w'.heap.size = w.heap.size → CnR w' x p r { C with pw := v } → Ext [x] w w' → K w') : Sts [.int .i64 v] (Addr.add ⟨x, 0, none⟩ 9) 0 w K :=
  h.st { C with pw := v } (by omega) rfl (fun j hj => by
    by_cases e : j = 9
    · subst e; rfl
    · rw [if_neg e]
      unfold cnF
      simp only [if_neg e]) rfl rfl hk
theorem CnR.stTm {K : World → Prop} {v : Int} (h : CnR w x p r C) (hk : ∀ w', w'.heap.size = w.heap.size → CnR w' x p r { C with tm := v } → Ext [x] w w' → K w') : Sts [.int .i64 v] (Addr.add ⟨x, 0, none⟩ 10) 0 w K :=
  h.st { C with tm := v } (by omega) rfl (fun j hj => by
    by_cases e : j = 10
    · subst e; rfl
    · rw [if_neg e]
      unfold cnF
      simp only [if_neg e]) rfl rfl hk
theorem CnR.stRt {K : World → Prop} {v : Int} (h : CnR w x p r C) (hk : ∀ w', w'.heap.size = w.heap.size → CnR w' x p r { C with rt := v } → Ext [x] w w' → K w') : Sts [.int .i64 v] (Addr.add ⟨x, 0, none⟩ 11) 0 w K :=
  h.st { C with rt := v } (by omega) rfl (fun j hj => by
    by_cases e : j = 11
    · subst e; rfl
    · rw [if_neg e]
      unfold cnF
      simp only [if_neg e]) rfl rfl hk
theorem CnR.stCr {K : World → Prop} {v : Int} (h : CnR w x p r C) (hk : ∀ w', w'.heap.size = w.heap.size → CnR w' x p r { C with cr := v } → Ext [x] w w' → K w') : Sts [.int .i64 v] (Addr.add ⟨x, 0, none⟩ 12) 0 w K :=
  h.st { C with cr := v } (by omega) rfl (fun j hj => by
    by_cases e : j = 12
    · subst e; rfl
    · rw [if_neg e]
      unfold cnF
      simp only [if_neg e]) rfl rfl hk
theorem CnR.stQt {K : World → Prop} {v : Int} (h : CnR w x p r C) (hk : ∀ w', w'.heap.size = w.heap.size → CnR w' x p r { C with qt := v } → Ext [x] w w' → K w') : Sts [.int .i64 v] (Addr.add ⟨x, 0, none⟩ 13) 0 w K :=
  h.st { C with qt := v } (by omega) rfl (fun j hj => by
    by_cases e : j = 13
    · subst e; rfl
    · rw [if_neg e]
      have : j = 0 ∨ j = 1 ∨ j = 2 ∨ j = 3 ∨ j = 4 ∨ j = 5 ∨ j = 6 ∨ j = 7 ∨ j = 8 ∨ j = 9 ∨ j = 10 ∨ j = 11 ∨ j = 12 := by omega
      rcases this with rfl | rfl | rfl | rfl | rfl | rfl | rfl | rfl | rfl | rfl | rfl | rfl | rfl <;> rfl) rfl rfl hk
end
/-! ### lists of segments -/
def segC (e : SegV × Nat) : List Value := [.int .i64 e.1.1.sp, .int .i64 e.1.1.dp, .int .i64 e.1.1.sq, .int .i64 e.1.1.ak, .int .i64 e.1.1.fl, .int .i64 e.1.1.wn, .slice (some ⟨e.2, 0, none⟩) e.1.2.length e.1.2.length]
theorem segC_len (e : SegV × Nat) : (segC e).length = 7 := rfl
structure SL (w : World) (b : Option Addr) (l c lo : Nat) (E : List (SegV × Nat)) : Prop where
  row : Row w b l c 7 T_api_Segment (E.flatMap segC)
  dat : ∀ e ∈ E, Bf w e.2 e.1.2
  asc : E.Pairwise (fun a b => a.2 < b.2)
  ge : ∀ e ∈ E, lo ≤ e.2
  blk : ∀ k ∈ rowBlk b, lo ≤ k
  cap : c ≤ 9223372036854775807
section
variable {w w' : World} {b : Option Addr} {l c lo : Nat} {E : List (SegV × Nat)}
theorem SL.len (h : SL w b l c lo E) : E.length = l := by
  have h1 := h.row.1
  have h2 := flat_length segC_len E
  omega
theorem SL.nil (w : World) (lo : Nat) : SL w none 0 0 lo [] := ⟨Row.nil _ _ _, fun e he => (by cases he), .nil, fun e he => (by cases he), fun k hk => (by cases hk), by omega⟩
theorem SL.new {k : Nat} (h : Own w k #[] T_api_Segment) (hk : lo ≤ k) : SL w (some ⟨k, 0, none⟩) 0 0 lo [] :=
  ⟨⟨rfl, Nat.le_refl _, .inr ⟨k, #[], rfl, h, by simp, rfl⟩⟩, fun e he => (by cases he), .nil, fun e he => (by cases he), fun y hy => (by simp [rowBlk] at hy; omega), by omega⟩
/-- What lies below is turned. -/
theorem SL.keep {X : List Nat} (h : SL w b l c lo E) (he : Ext X w w') (hX : ∀ y ∈ X, y < lo ∨ w.heap.size ≤ y) : SL w' b l c lo E := by
  refine ⟨h.row.ext he (fun k hk hx => ?_), fun e hm => (h.dat e hm).ext he (fun hx => ?_), h.asc, h.ge, h.blk, h.cap⟩
  · have h1 := h.blk k hk
    have h2 := h.row.lt k hk
    rcases hX k hx with z | z <;> omega
  · have h1 := h.ge e hm
    have h2 := (h.dat e hm).lt
    rcases hX _ hx with z | z <;> omega
theorem SL.ext0 (h : SL w b l c lo E) (he : Ext [] w w') : SL w' b l c lo E := h.keep he (fun y hy => by cases hy)
theorem push1_ok {s k : Nat} {g : SegV} {T : TypeId} {K : Option Addr → Nat → World → Prop} (h : SL w b l c lo E) (hs : Own w s (segC (g, k)).toArray T) (hk : Bf w k g.2) (hlo : lo ≤ k) (hw : lo ≤ w.heap.size) (hgt : ∀ e ∈ E, e.2 < k) (hl : l ≤ 100)
    (hK : ∀ b' c' w', SL w' b' (l + 1) c' lo (E ++ [(g, k)]) → Ext (rowBlk b) w w' → K b' c' w') :
    LdI .i64 ⟨s, 0, none⟩ w fun x0 => LdI .i64 ⟨s, 1, none⟩ w fun x1 => LdI .i64 ⟨s, 2, none⟩ w fun x2 => LdI .i64 ⟨s, 3, none⟩ w fun x3 => LdI .i64 ⟨s, 4, none⟩ w fun x4 => LdI .i64 ⟨s, 5, none⟩ w fun x5 => LdL ⟨s, 6, none⟩ w fun xb xl xc =>
      New (.cells #[.int .i64 x0, .int .i64 x1, .int .i64 x2, .int .i64 x3, .int .i64 x4, .int .i64 x5, .slice xb xl xc] T_api_Segment) w fun nb w1 =>
      Append T_api_Segment (.agg #[.int .i64 0, .int .i64 0, .int .i64 0, .int .i64 0, .int .i64 0, .int .i64 0, .slice none 0 0]) 7 72 b l c (some ⟨nb, 0, none⟩) 1 w1 K := by
  refine LdI.mk hs rfl (LdI.mk hs rfl (LdI.mk hs rfl (LdI.mk hs rfl (LdI.mk hs rfl (LdI.mk hs rfl (LdL.mk hs rfl (New.mk fun nb w1 hnb hs1 onb he1 => ?_)))))))
  have h1 := h.ext0 he1
  refine Vc.Append.mkC (e := T_api_Segment) (news := segC (g, k)) h1.row (CellsAt.own onb (fun j v hj => by simpa [segC] using hj)) rfl rfl rfl (by omega) (by omega) fun b' c' w2 hrow2 hE2 hb2 hcc => ?_
  have hz1 := he1.size
  have hkl := hk.lt
  have nin : ∀ {y : Nat}, y < w1.heap.size → (∃ v, Bf w1 y v) → y ∉ rowBlk b := fun {y} _ hy hx => by
    obtain ⟨v, hv⟩ := hy
    obtain ⟨cs, ho⟩ := h1.row.ty hx
    exact Own.ne_type hv.1 ho (by decide) rfl
  refine hK b' c' w2 ⟨?_, fun e he => ?_, ?_, fun e he => ?_, fun y hy => ?_, by have := h.cap; omega⟩ (he1.nil.trans hE2)
  · rw [List.flatMap_append]
    simpa using hrow2
  · rcases List.mem_append.1 he with q | q
    · have hd := h1.dat e q
      exact hd.ext hE2 (nin hd.lt ⟨_, hd⟩)
    · simp at q
      subst q
      have hd := hk.ext0 he1
      exact hd.ext hE2 (nin hd.lt ⟨_, hd⟩)
  · rw [List.pairwise_append]
    exact ⟨h.asc, by simp, fun a ha b hb => by simp at hb; subst hb; exact hgt a ha⟩
  · rcases List.mem_append.1 he with q | q
    · exact h.ge e q
    · simp at q; subst q; exact hlo
  · rcases hb2 y hy with z | z
    · exact h.blk y z
    · omega
/-- Two lists laid one behind the other. -/
theorem SL.cat {b2 : Option Addr} {l2 c2 lo2 : Nat} {E2 : List (SegV × Nat)} {K : Option Addr → Nat → World → Prop} (h : SL w b l c lo E) (h2 : SL w b2 l2 c2 lo2 E2) (hlo : lo ≤ lo2) (hw : lo ≤ w.heap.size) (hlt : ∀ e ∈ E, e.2 < lo2) (hb : ∀ k ∈ rowBlk b, k < lo2) (hl : l ≤ 100) (hl2 : l2 ≤ 100)
    (hK : ∀ b' c' w', SL w' b' (l + l2) c' lo (E ++ E2) → Ext (rowBlk b) w w' → K b' c' w') :
    Append T_api_Segment (.agg #[.int .i64 0, .int .i64 0, .int .i64 0, .int .i64 0, .int .i64 0, .int .i64 0, .slice none 0 0]) 7 72 b l c b2 l2 w K := by
  have hlen := h2.len
  have hf := flat_length segC_len E2
  refine Vc.Append.mkC (e := T_api_Segment) (news := E2.flatMap segC) h.row h2.row.cells (by rw [hf, hlen]) rfl (List.all_eq_true.2 fun v hv => ?_) (by omega) (by omega) fun b' c' w2 hrow2 hE2 hb2 hcc => ?_
  · obtain ⟨e, _, he⟩ := List.mem_flatMap.1 hv
    simp only [segC, List.mem_cons, List.not_mem_nil, or_false] at he
    rcases he with rfl | rfl | rfl | rfl | rfl | rfl | rfl <;> rfl
  have nin : ∀ {y : Nat}, (∃ v, Bf w y v) → y ∉ rowBlk b := fun {y} hy hx => by
    obtain ⟨v, hv⟩ := hy
    obtain ⟨cs, ho⟩ := h.row.ty hx
    exact Own.ne_type hv.1 ho (by decide) rfl
  refine hK b' c' w2 ⟨by rw [List.flatMap_append]; exact hrow2, fun e he => ?_, ?_, fun e he => ?_, fun y hy => ?_, by have := h.cap; omega⟩ hE2
  · rcases List.mem_append.1 he with q | q
    · exact (h.dat e q).ext hE2 (nin ⟨_, h.dat e q⟩)
    · exact (h2.dat e q).ext hE2 (nin ⟨_, h2.dat e q⟩)
  · rw [List.pairwise_append]
    exact ⟨h.asc, h2.asc, fun a ha b hb => by have := hlt a ha; have := h2.ge b hb; omega⟩
  · rcases List.mem_append.1 he with q | q
    · exact h.ge e q
    · have := h2.ge e q; omega
  · rcases hb2 y hy with z | z
    · exact h.blk y z
    · omega
/-- A segment set down and read back. -/
theorem retC {t k : Nat} {g : SegV} {C : Array Value} {T : TypeId} {K : Int → Int → Int → Int → Int → Int → Option Addr → Nat → Nat → World → Prop} (ho : Own w t C T) (hC : C.size = 7)
    (hK : ∀ w', w'.heap.size = w.heap.size → Ext [t] w w' → K g.1.sp g.1.dp g.1.sq g.1.ak g.1.fl g.1.wn (some ⟨k, 0, none⟩) g.2.length g.2.length w') :
    Sts [.int .i64 g.1.sp, .int .i64 g.1.dp, .int .i64 g.1.sq, .int .i64 g.1.ak, .int .i64 g.1.fl, .int .i64 g.1.wn, .slice (some ⟨k, 0, none⟩) g.2.length g.2.length] ⟨t, 0, none⟩ 0 w fun w1 =>
    LdI .i64 ⟨t, 0, none⟩ w1 fun r0 => LdI .i64 ⟨t, 1, none⟩ w1 fun r1 => LdI .i64 ⟨t, 2, none⟩ w1 fun r2 => LdI .i64 ⟨t, 3, none⟩ w1 fun r3 => LdI .i64 ⟨t, 4, none⟩ w1 fun r4 => LdI .i64 ⟨t, 5, none⟩ w1 fun r5 => LdL ⟨t, 6, none⟩ w1 fun rb rl rc => K r0 r1 r2 r3 r4 r5 rb rl rc w1 :=
  Sts.full ho (by simp [hC]) rfl fun w1 hs1 o1 he1 => LdI.mk o1 rfl (LdI.mk o1 rfl (LdI.mk o1 rfl (LdI.mk o1 rfl (LdI.mk o1 rfl (LdI.mk o1 rfl (LdL.mk o1 rfl (hK w1 hs1 he1)))))))
theorem one_ok {k : Nat} {g : SegV} {R : Option Addr → Nat → Nat → World → Prop} (hk : Bf w k g.2) (hlo : lo ≤ k) (hR : ∀ nb w', SL w' (some ⟨nb, 0, none⟩) 1 1 lo [(g, k)] → Ext [] w w' → R (some ⟨nb, 0, none⟩) 1 1 w') : conn_one.Call g.1.sp g.1.dp g.1.sq g.1.ak g.1.fl g.1.wn (some ⟨k, 0, none⟩) g.2.length g.2.length w R := by
  apply conn_one.sound
  unfold conn_one.B0
  refine New.mk fun s w1 hs hs1 o1 he1 => LdI.mk o1 rfl (LdI.mk o1 rfl (LdI.mk o1 rfl (LdI.mk o1 rfl (LdI.mk o1 rfl (LdI.mk o1 rfl (LdL.mk o1 rfl (New.mk fun nb w2 hnb hs2 o2 he2 => ?_)))))))
  have E := he1.trans he2
  have := hk.lt
  have hz := he1.size
  refine hR nb w2 ⟨⟨by simp [segC], Nat.le_refl _, .inr ⟨nb, _, rfl, o2, by simp, by simp [segC]⟩⟩, fun e he => ?_, by simp, fun e he => ?_, fun y hy => ?_, by omega⟩ E
  · simp at he; subst he; exact hk.ext0 E
  · simp at he; subst he; exact hlo
  · simp [rowBlk] at hy; omega
end
end Go.Proofs.Qxb6500424aGreat
