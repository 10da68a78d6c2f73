/-
  sync: the core on the heap; an event's state.
-/
import Derived.Test.Qxb6500430aGreatSyA
import Derived.Test.Qxb6500430aGreatRlH
set_option linter.unusedVariables false
set_option linter.unusedSimpArgs false
open Go.Vc
namespace Go.Proofs.Qxb6500430aGreat

structure SyR where
  l : Nat
  e : Nat
  cm : Int
  nx : Nat → Int
  mt : Nat → Int
  last : Int
  lt : Int
  bx : Nat → Value
  nb : Int
def syF (X : SyR) (o : Nat) : Value := if o = 0 then .pointer (some ⟨X.l, 0, none⟩) else if o = 1 then .pointer (some ⟨X.e, 0, none⟩) else if o = 2 then .int .i64 X.cm else if o < 6 then .int .i64 (X.nx (o - 3)) else if o < 9 then .int .i64 (X.mt (o - 6)) else if o = 9 then .int .i64 X.last else if o = 10 then .int .i64 X.lt else if o < 41 then X.bx (o - 11) else .int .i64 X.nb
def SyAt (w : World) (s : Nat) (X : SyR) : Prop := Own w s (fnArr 42 (syF X)) T_sync_Sync
theorem syF_nx {X : SyR} {p : Nat} (hp : p < 3) : syF X (3 + p) = .int .i64 (X.nx p) := by
  unfold syF
  rw [if_neg (by omega), if_neg (by omega), if_neg (by omega), if_pos (by omega), show 3 + p - 3 = p by omega]
theorem syF_mt {X : SyR} {p : Nat} (hp : p < 3) : syF X (6 + p) = .int .i64 (X.mt p) := by
  unfold syF
  rw [if_neg (by omega), if_neg (by omega), if_neg (by omega), if_neg (by omega), if_pos (by omega), show 6 + p - 6 = p by omega]
theorem syF_bx {X : SyR} {p : Nat} (hp : p < 30) : syF X (11 + p) = X.bx p := by
  unfold syF
  rw [if_neg (by omega), if_neg (by omega), if_neg (by omega), if_neg (by omega), if_neg (by omega), if_neg (by omega), if_neg (by omega), if_pos (by omega), show 11 + p - 11 = p by omega]
section
variable {w w' : World} {s : Nat} {X : SyR}
theorem SyAt.ldL {K : Option Addr → Prop} (h : SyAt w s X) (hk : K (some ⟨X.l, 0, none⟩)) : LdP ⟨s, 0, none⟩ w K := LdP.fn (o := 0) h (by omega) rfl hk
theorem SyAt.ldE {K : Option Addr → Prop} (h : SyAt w s X) (hk : K (some ⟨X.e, 0, none⟩)) : LdP (Addr.add ⟨s, 0, none⟩ 1) w K := by
  rw [add_mk]
  exact LdP.fn (o := 1) h (by omega) rfl hk
theorem SyAt.ldI {o : Nat} {v : Int} {K : Int → Prop} (h : SyAt w s X) (ho : o < 42) (hv : syF X o = .int .i64 v) (hk : K v) : LdI .i64 (Addr.add ⟨s, 0, none⟩ o) w K := by
  rw [add_mk, Nat.zero_add]
  exact LdI.fn h ho hv hk
theorem SyAt.ldNx {p : Nat} {K : Int → Prop} (h : SyAt w s X) (hp : p < 3) (hk : K (X.nx p)) : LdI .i64 (Addr.add (Addr.add ⟨s, 0, none⟩ 3) ((p : Int).toNat * 1)) w K := by
  rw [adk]
  exact LdI.fn h (by omega) (syF_nx hp) hk
theorem SyAt.ldMt {p : Nat} {K : Int → Prop} (h : SyAt w s X) (hp : p < 3) (hk : K (X.mt p)) : LdI .i64 (Addr.add (Addr.add ⟨s, 0, none⟩ 6) ((p : Int).toNat * 1)) w K := by
  rw [adk]
  exact LdI.fn h (by omega) (syF_mt hp) hk
theorem SyAt.st {K : World → Prop} {o : Nat} {v : Value} (X' : SyR) (h : SyAt w s X) (ho : o < 42) (h1 : [v].all Value.oneCell' = true) (hg : ∀ j, j < 42 → (if j = o then v else syF X j) = syF X' j) (hk : ∀ w', w'.heap.size = w.heap.size → SyAt w' s X' → Ext [s] w w' → K w') : Sts [v] ⟨s, o, none⟩ 0 w K := by
  refine Sts.fn (g := syF X') h (by simp; omega) h1 (fun j hj => ?_) hk
  rw [← hg j hj]
  unfold fnPut
  by_cases e : j = o
  · subst e
    rw [if_pos (by simp), if_pos rfl]
    simp
  · rw [if_neg (by simp; omega), if_neg e]
theorem SyAt.stCm {K : World → Prop} {v : Int} (h : SyAt w s X) (hk : ∀ w', w'.heap.size = w.heap.size → SyAt w' s { X with cm := v } → Ext [s] w w' → K w') : Sts [.int .i64 v] (Addr.add ⟨s, 0, none⟩ 2) 0 w K := by
  rw [add_mk, Nat.zero_add]
  exact h.st _ (by omega) rfl (fun j hj => by
    by_cases e : j = 2
    · subst e; rfl
    · rw [if_neg e]; unfold syF; simp only [if_neg e]) hk
theorem SyAt.stLast {K : World → Prop} {v : Int} (h : SyAt w s X) (hk : ∀ w', w'.heap.size = w.heap.size → SyAt w' s { X with last := v } → Ext [s] w w' → K w') : Sts [.int .i64 v] (Addr.add ⟨s, 0, none⟩ 9) 0 w K := by
  rw [add_mk, Nat.zero_add]
  exact h.st _ (by omega) rfl (fun j hj => by
    by_cases e : j = 9
    · subst e; rfl
    · rw [if_neg e]; unfold syF; simp only [if_neg e]) hk
theorem SyAt.stLt {K : World → Prop} {v : Int} (h : SyAt w s X) (hk : ∀ w', w'.heap.size = w.heap.size → SyAt w' s { X with lt := v } → Ext [s] w w' → K w') : Sts [.int .i64 v] (Addr.add ⟨s, 0, none⟩ 10) 0 w K := by
  rw [add_mk, Nat.zero_add]
  exact h.st _ (by omega) rfl (fun j hj => by
    by_cases e : j = 10
    · subst e; rfl
    · rw [if_neg e]; unfold syF; simp only [if_neg e]) hk
theorem SyAt.stNb {K : World → Prop} {v : Int} (h : SyAt w s X) (hk : ∀ w', w'.heap.size = w.heap.size → SyAt w' s { X with nb := v } → Ext [s] w w' → K w') : Sts [.int .i64 v] (Addr.add ⟨s, 0, none⟩ 41) 0 w K := by
  rw [add_mk, Nat.zero_add]
  exact h.st _ (by omega) rfl (fun j hj => by
    by_cases e : j = 41
    · subst e; rfl
    · rw [if_neg e]
      have h41 : j < 41 := by omega
      unfold syF
      simp only [if_pos h41]) hk
theorem SyAt.stNx {K : World → Prop} {p : Nat} {v : Int} (h : SyAt w s X) (hp : p < 3) (hk : ∀ w', w'.heap.size = w.heap.size → SyAt w' s { X with nx := upN X.nx p v } → Ext [s] w w' → K w') : Sts [.int .i64 v] (Addr.add (Addr.add ⟨s, 0, none⟩ 3) ((p : Int).toNat * 1)) 0 w K := by
  rw [adk]
  exact h.st _ (by omega) rfl (fun j hj => by
    by_cases e : j = 3 + p
    · rw [if_pos e, e, syF_nx hp]
      show _ = Value.int .i64 (upN X.nx p v p)
      unfold upN
      rw [if_pos rfl]
    · rw [if_neg e]
      by_cases c : 3 ≤ j ∧ j < 6
      · obtain ⟨q, rfl⟩ : ∃ q, j = 3 + q := ⟨j - 3, by omega⟩
        rw [syF_nx (by omega), syF_nx (by omega)]
        show _ = Value.int .i64 (upN X.nx p v q)
        unfold upN
        rw [if_neg (by omega)]
      · have : j < 3 ∨ 6 ≤ j := by omega
        rcases this with c | c
        · have : j = 0 ∨ j = 1 ∨ j = 2 := by omega
          rcases this with rfl | rfl | rfl <;> rfl
        · unfold syF
          simp only [if_neg (show ¬ (j < 6) by omega)]) hk
theorem SyAt.stMt {K : World → Prop} {p : Nat} {v : Int} (h : SyAt w s X) (hp : p < 3) (hk : ∀ w', w'.heap.size = w.heap.size → SyAt w' s { X with mt := upN X.mt p v } → Ext [s] w w' → K w') : Sts [.int .i64 v] (Addr.add (Addr.add ⟨s, 0, none⟩ 6) ((p : Int).toNat * 1)) 0 w K := by
  rw [adk]
  exact h.st _ (by omega) rfl (fun j hj => by
    by_cases e : j = 6 + p
    · rw [if_pos e, e, syF_mt hp]
      show _ = Value.int .i64 (upN X.mt p v p)
      unfold upN
      rw [if_pos rfl]
    · rw [if_neg e]
      by_cases c : 6 ≤ j ∧ j < 9
      · obtain ⟨q, rfl⟩ : ∃ q, j = 6 + q := ⟨j - 6, by omega⟩
        rw [syF_mt (by omega), syF_mt (by omega)]
        show _ = Value.int .i64 (upN X.mt p v q)
        unfold upN
        rw [if_neg (by omega)]
      · unfold syF
        by_cases c6 : j < 6
        · simp only [if_pos c6]
        · simp only [if_neg (show ¬ (j < 9) by omega)]) hk
end
/-! ### messages -/
abbrev ME := MsgV × Option Addr × Nat
def entC (e : EntV) : List Value := [.int .i64 e.1, .string e.2]
theorem entC_len (e : EntV) : (entC e).length = 2 := rfl
def EA (w : World) (b : Option Addr) (l c : Nat) (E : List EntV) : Prop := Row w b l c 2 T_api_Entry (E.flatMap entC)
def msgC (m : MsgV) (b : Option Addr) (l c : Nat) : List Value := [.int .i64 m.kind, .int .i64 m.fr, .int .i64 m.to, .int .i64 m.term, .int .i64 m.idx, .int .i64 m.lt, .int .i64 m.cm, .bool m.ok, .slice b l c, .string m.data]
def meC (x : ME) : List Value := msgC x.1 x.2.1 x.1.ents.length x.2.2
theorem meC_len (x : ME) : (meC x).length = 10 := rfl
theorem EA.len {w : World} {b : Option Addr} {l c : Nat} {E : List EntV} (h : EA w b l c E) : E.length = l := by
  have h1 := h.1
  have h2 := flat_length entC_len E
  omega
theorem EA.nil (w : World) : EA w none 0 0 [] := Row.nil _ _ _
/-- The messages' entries lie apart, above lo. -/
structure BoxD (w : World) (lo : Nat) (B : List ME) : Prop where
  dat : ∀ x ∈ B, EA w x.2.1 x.1.ents.length x.2.2 x.1.ents
  apart : B.Pairwise fun a b => ∀ k ∈ rowBlk a.2.1, k ∉ rowBlk b.2.1
  ge : ∀ x ∈ B, ∀ k ∈ rowBlk x.2.1, lo ≤ k
theorem BoxD.nil (w : World) (lo : Nat) : BoxD w lo [] := ⟨fun x hx => (by cases hx), .nil, fun x hx => (by cases hx)⟩
theorem BoxD.ext {w w' : World} {lo : Nat} {B : List ME} {Z : List Nat} (h : BoxD w lo B) (he : Ext Z w w') (hZ : ∀ x ∈ B, ∀ k ∈ rowBlk x.2.1, k ∉ Z) : BoxD w' lo B :=
  ⟨fun x hx => (h.dat x hx).ext he (hZ x hx), h.apart, h.ge⟩
theorem BoxD.extT {w w' : World} {lo : Nat} {B : List ME} {ts : List TypeId} (h : BoxD w lo B) (he : ExtT w w' ts) (ht : T_api_Entry ∉ ts) : BoxD w' lo B :=
  ⟨fun x hx => he.row (h.dat x hx) ht, h.apart, h.ge⟩
def BoxOk (bx : Nat → Value) (B : List ME) : Prop := ∀ i x, B[i]? = some x → ∀ j, j < 10 → bx (i * 10 + j) = (meC x).getD j undef
/-! ### an event -/
abbrev CT : List TypeId := [T_sync_Sync, T_elect_Elect, T_rlog_Log, T_store_Store, T_diskm_Disk, T_string, T_diskm_half]
structure EvX (w0 : World) (s l t d e : Nat) (D0 : DiskS) (F0 : List Nat) (N : Int) (L0 : LogS) (w : World) (X : SyR) (L : LogS) (es : El.ES) (B : List ME) (S : List LogS) : Prop where
  own : SyAt w s X
  xl : X.l = l
  xe : X.e = e
  el : El.RealAt w e es
  cor : ∃ D F A, Real w l t d D F A L ∧ Path D (L0 :: S) (N + (S.length : Int)) ∧ D.log.length ≤ D0.log.length + 20 * S.length ∧ Grew w0 F0 F ∧ (S = [] → D = D0)
  fin : L = finL L0 S
  bd : BoxD w w0.heap.size B
  ext : Ext (s :: e :: l :: t :: F0) w0 w
theorem finL_mem : ∀ (S : List LogS) (L : LogS), finL L S ∈ L :: S
  | [], L => by simp [finL]
  | a :: S, L => by
    have e : finL L (a :: S) = finL a S := by unfold finL; cases S <;> rfl
    rw [e]
    exact List.mem_cons_of_mem _ (finL_mem S a)
section
variable {w0 w w' : World} {s l t d e : Nat} {D0 : DiskS} {F0 : List Nat} {N : Int} {L0 : LogS} {X X' : SyR} {L L' : LogS} {es es' : El.ES} {B : List ME} {S T : List LogS}
theorem Real.extC {ts : List TypeId} {D : DiskS} {F : List Nat} {A : AbsS} (h : Real w l t d D F A L) (he : ExtT w w' ts) (ht : ∀ q ∈ ts, q ≠ T_rlog_Log ∧ q ≠ T_store_Store ∧ q ≠ T_diskm_Disk ∧ q ≠ T_string ∧ q ≠ T_diskm_half) : Real w' l t d D F A L := by
  obtain ⟨Z, hz, hT⟩ := he
  exact h.extY hz hT ht
/-- Blocks of other types, none of them older than the event. -/
theorem EvX.other {Z : List Nat} {ts : List TypeId} (h : EvX w0 s l t d e D0 F0 N L0 w X L es B S) (he : Ext Z w w') (hT : Tys w Z ts) (ht : ∀ q ∈ ts, q ∉ CT ∧ q ≠ T_api_Entry) (hg : ∀ y ∈ Z, w0.heap.size ≤ y) : EvX w0 s l t d e D0 F0 N L0 w' X L es B S := by
  obtain ⟨D, F, A, r, p, q, g, z⟩ := h.cor
  have hno : ∀ {T : TypeId}, T ∈ CT → T ∉ ts := fun hc hx => (ht _ hx).1 hc
  refine ⟨ownT he hT h.own (hno (by simp)), h.xl, h.xe, ownT he hT h.el (hno (by simp)), ⟨D, F, A, r.extY he hT (fun q hq => ?_), p, q, g, z⟩, h.fin, h.bd.extT (.of he hT) (fun hx => (ht _ hx).2 rfl), h.ext.trans' he (fun y hy hl => by have := hg y hy; omega)⟩
  have := (ht q hq).1
  simp only [CT, List.mem_cons, List.not_mem_nil, or_false, not_or] at this
  exact ⟨this.2.2.1, this.2.2.2.1, this.2.2.2.2.1, this.2.2.2.2.2.1, this.2.2.2.2.2.2⟩
theorem EvX.ext0 (h : EvX w0 s l t d e D0 F0 N L0 w X L es B S) (he : Ext [] w w') : EvX w0 s l t d e D0 F0 N L0 w' X L es B S :=
  h.other (ts := []) he (Tys.nil _ _) (fun q hq => by cases hq) (fun y hy => by cases hy)
/-- A block of entries that no message of the box holds. -/
theorem EvX.entry {k : Nat} {cs : Array Value} (h : EvX w0 s l t d e D0 F0 N L0 w X L es B S) (ho : Own w k cs T_api_Entry) (he : Ext [k] w w') (hk : w0.heap.size ≤ k) (hb : ∀ x ∈ B, k ∉ rowBlk x.2.1) : EvX w0 s l t d e D0 F0 N L0 w' X L es B S := by
  obtain ⟨D, F, A, r, p, q, g, z⟩ := h.cor
  have hT := Tys.one ho
  exact ⟨ownT he hT h.own (by decide), h.xl, h.xe, ownT he hT h.el (by decide), ⟨D, F, A, r.extY he hT (fun q hq => by simp at hq; subst hq; decide), p, q, g, z⟩, h.fin, h.bd.ext he (fun x hx j hj => by simp; intro e; subst e; exact hb x hx hj), h.ext.trans' he (fun y hy hl => by simp at hy; omega)⟩
/-- The core's own record turned. -/
theorem EvX.st (h : EvX w0 s l t d e D0 F0 N L0 w X L es B S) (ho : SyAt w' s X') (hl : X'.l = X.l) (hx : X'.e = X.e) (he : Ext [s] w w') : EvX w0 s l t d e D0 F0 N L0 w' X' L es B S := by
  obtain ⟨D, F, A, r, p, q, g, z⟩ := h.cor
  have hT := Tys.one h.own
  exact ⟨ho, by rw [hl, h.xl], by rw [hx, h.xe], ownT he hT h.el (by decide), ⟨D, F, A, r.extY he hT (fun q hq => by simp at hq; subst hq; decide), p, q, g, z⟩, h.fin, h.bd.extT (.of he hT) (by decide), h.ext.trans (he.mono fun y hy _ => by simp at hy; simp [hy])⟩
/-- The election rule turned. -/
theorem EvX.turn (h : EvX w0 s l t d e D0 F0 N L0 w X L es B S) (ho : El.RealAt w' e es') (he : Ext [e] w w') : EvX w0 s l t d e D0 F0 N L0 w' X L es' B S := by
  obtain ⟨D, F, A, r, p, q, g, z⟩ := h.cor
  have hT := Tys.one h.el
  exact ⟨ownT he hT h.own (by decide), h.xl, h.xe, ho, ⟨D, F, A, r.extY he hT (fun q hq => by simp at hq; subst hq; decide), p, q, g, z⟩, h.fin, h.bd.extT (.of he hT) (by decide), h.ext.trans (he.mono fun y hy _ => by simp at hy; simp [hy])⟩
/-- The log turned. -/
theorem EvX.did {D : DiskS} {F : List Nat} {A : AbsS} (h : EvX w0 s l t d e D0 F0 N L0 w X L es B S) (r : Real w l t d D F A L) (q : D.log.length ≤ D0.log.length + 20 * S.length) (g : Grew w0 F0 F) (z : S = [] → D = D0) (p : Path D (L0 :: S) (N + (S.length : Int)))
    (dd : Did w l t d D F (N + (S.length : Int)) (L0 :: S) T (finL L T) w') : EvX w0 s l t d e D0 F0 N L0 w' X (finL L T) es B (S ++ T) ∧ ExtT w w' CT := by
  obtain ⟨⟨D', F', A', r', p', q', g', z'⟩, he⟩ := dd
  have hT := r.tys
  have hz := h.ext.size
  refine ⟨⟨ownT he hT h.own (by decide), h.xl, h.xe, ownT he hT h.el (by decide), ⟨D', F', A', r', ?_, ?_, g.trans hz g', fun hS => ?_⟩, by rw [h.fin, finL_app], h.bd.extT (.of he hT) (by decide), h.ext.trans' he (fun y hy hlt => ?_)⟩, (ExtT.of he hT).mono (fun t ht => by
    simp only [List.mem_cons, List.not_mem_nil, or_false] at ht
    rcases ht with e | e | e | e | e <;> subst e <;> decide)⟩
  · rcases T with _ | ⟨a, T⟩
    · rw [z' rfl, List.append_nil]
      exact p
    · refine p'.mono (T := L0 :: (S ++ a :: T)) (fun x hx => by simpa using hx) ?_ rfl
      simp
      omega
  · rcases T with _ | ⟨a, T⟩
    · rw [z' rfl, List.append_nil]
      exact q
    · simp
      omega
  · have h1 := List.append_eq_nil_iff.1 hS
    rw [z' h1.2, z h1.1]
  · rcases List.mem_cons.1 hy with e | e
    · simp [e]
    · rcases List.mem_cons.1 e with e | e
      · simp [e]
      · rcases g y e with z | z
        · simp [z]
        · omega
end
/-- The record that shows Y. -/
def syX (l e : Nat) (Y : YS) (bx : Nat → Value) (n : Nat) : SyR := ⟨l, e, Y.cm, Y.nx, Y.mt, Y.L.last, Y.lastT, bx, n⟩
def Ev (w0 : World) (s l t d e : Nat) (D0 : DiskS) (F0 : List Nat) (N : Int) (L0 : LogS) (w : World) (Y : YS) (B : List ME) (S : List LogS) : Prop := ∃ bx, EvX w0 s l t d e D0 F0 N L0 w (syX l e Y bx B.length) Y.L Y.e B S ∧ BoxOk bx B
section
variable {w0 w w' : World} {s l t d e : Nat} {D0 : DiskS} {F0 : List Nat} {N : Int} {L0 : LogS} {Y : YS} {B : List ME} {S T : List LogS}
theorem Ev.other {Z : List Nat} {ts : List TypeId} (h : Ev w0 s l t d e D0 F0 N L0 w Y B S) (he : Ext Z w w') (hT : Tys w Z ts) (ht : ∀ q ∈ ts, q ∉ CT ∧ q ≠ T_api_Entry) (hg : ∀ y ∈ Z, w0.heap.size ≤ y) : Ev w0 s l t d e D0 F0 N L0 w' Y B S := by
  obtain ⟨bx, h, hb⟩ := h
  exact ⟨bx, h.other he hT ht hg, hb⟩
theorem Ev.ext0 (h : Ev w0 s l t d e D0 F0 N L0 w Y B S) (he : Ext [] w w') : Ev w0 s l t d e D0 F0 N L0 w' Y B S := by
  obtain ⟨bx, h, hb⟩ := h
  exact ⟨bx, h.ext0 he, hb⟩
theorem Ev.entry {k : Nat} {cs : Array Value} (h : Ev w0 s l t d e D0 F0 N L0 w Y B S) (ho : Own w k cs T_api_Entry) (he : Ext [k] w w') (hk : w0.heap.size ≤ k) (hb : ∀ x ∈ B, k ∉ rowBlk x.2.1) : Ev w0 s l t d e D0 F0 N L0 w' Y B S := by
  obtain ⟨bx, h, h2⟩ := h
  exact ⟨bx, h.entry ho he hk hb, h2⟩
theorem Ev.sz (h : Ev w0 s l t d e D0 F0 N L0 w Y B S) : w0.heap.size ≤ w.heap.size := by
  obtain ⟨bx, h, _⟩ := h
  exact h.ext.size
theorem Ev.bd (h : Ev w0 s l t d e D0 F0 N L0 w Y B S) : BoxD w w0.heap.size B := by
  obtain ⟨bx, h, _⟩ := h
  exact h.bd
theorem Ev.ext (h : Ev w0 s l t d e D0 F0 N L0 w Y B S) : Ext (s :: e :: l :: t :: F0) w0 w := by
  obtain ⟨bx, h, _⟩ := h
  exact h.ext
theorem Ev.turn {es' : El.ES} (h : Ev w0 s l t d e D0 F0 N L0 w Y B S) (ho : El.RealAt w' e es') (he : Ext [e] w w') : Ev w0 s l t d e D0 F0 N L0 w' { Y with e := es' } B S ∧ ExtT w w' CT := by
  obtain ⟨bx, h, hb⟩ := h
  exact ⟨⟨bx, h.turn ho he, hb⟩, (ExtT.of he (Tys.one h.el)).mono (fun t ht => by simp at ht; subst ht; decide)⟩
end
end Go.Proofs.Qxb6500430aGreat
