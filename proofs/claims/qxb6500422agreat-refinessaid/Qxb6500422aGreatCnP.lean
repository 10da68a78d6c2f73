/-
  connlaw: the law's state.
-/
import Derived.Test.Qxb6500422aGreatCnO
set_option linter.unusedVariables false
set_option linter.unusedSimpArgs false
open Go.Vc
namespace Go.Proofs.Qxb6500422aGreat

/-! ### lists of slices that the law keeps -/
def InK (k : Nat) (vs : List Value) : Prop := ∃ n c, Value.slice (some ⟨k, 0, none⟩) n c ∈ vs
def KpT (w : World) (t : TypeId) (G : Nat → Nat → Array Value → Prop) (vs : List Value) : Prop := ∀ (j : Nat) (v : Value), vs[j]? = some v → ∃ k n cs, v = .slice (some ⟨k, 0, none⟩) n n ∧ n ≤ 9223372036854775807 ∧ Own w k cs t ∧ G j n cs
structure Ls (w : World) (T t : TypeId) (G : Nat → Nat → Array Value → Prop) (x : KL) : Prop where
  row : Row w x.b x.n x.c 1 T x.vs
  kep : KpT w t G x.vs
def lfoot (x : KL) (k : Nat) : Prop := k ∈ rowBlk x.b ∨ InK k x.vs
section
variable {w w' : World} {T t : TypeId} {G : Nat → Nat → Array Value → Prop} {x : KL} {k : Nat}
theorem KpT.own {vs : List Value} (h : KpT w t G vs) (hk : InK k vs) : ∃ cs, Own w k cs t := by
  obtain ⟨n, c, hv⟩ := hk
  obtain ⟨j, hj⟩ := List.getElem?_of_mem hv
  obtain ⟨k', n', cs, e, _, ho, _⟩ := h j _ hj
  simp only [Value.slice.injEq, Option.some.injEq, Addr.mk.injEq, and_true] at e
  exact ⟨cs, by rw [e.1]; exact ho⟩
theorem Ls.ty (h : Ls w T t G x) (hk : lfoot x k) : ∃ cs, Own w k cs T ∨ Own w k cs t := by
  rcases hk with q | q
  · obtain ⟨cs, ho⟩ := h.row.ty q
    exact ⟨cs, .inl ho⟩
  · obtain ⟨cs, ho⟩ := h.kep.own q
    exact ⟨cs, .inr ho⟩
theorem Ls.len (h : Ls w T t G x) : x.vs.length = x.n := by have := h.row.1; omega
theorem Ls.nil (w : World) (T t : TypeId) (G : Nat → Nat → Array Value → Prop) : Ls w T t G KL.nil := ⟨Row.nil _ _ _, fun j v hv => by simp [KL.nil] at hv⟩
theorem Ls.ext {Y : List Nat} (h : Ls w T t G x) (he : Ext Y w w') (hY : ∀ y ∈ Y, y < w.heap.size → ¬ lfoot x y) : Ls w' T t G x := by
  refine ⟨h.row.ext he (fun y hy hx => hY y hx (h.row.lt y hy) (.inl hy)), fun j v hv => ?_⟩
  obtain ⟨k, n, cs, e, hn, ho, hg⟩ := h.kep j v hv
  exact ⟨k, n, cs, e, hn, he.own ho (fun hx => hY k hx ho.lt (.inr ⟨n, n, by rw [← e]; exact List.mem_of_getElem? hv⟩)), hg⟩
theorem Ls.extT {Y : List Nat} {ts : List TypeId} (h : Ls w T t G x) (he : Ext Y w w') (hY : Tys w Y ts) (h1 : T ∉ ts) (h2 : t ∉ ts) : Ls w' T t G x :=
  h.ext he fun y hy hl hf => by
    obtain ⟨cs, t', ho, ht⟩ := hY y hy hl
    obtain ⟨cs', q⟩ := h.ty hf
    rcases q with q | q
    · rw [← (q.unique ho).2] at ht; exact h1 ht
    · rw [← (q.unique ho).2] at ht; exact h2 ht
theorem Ls.push {n : Nat} {cs : Array Value} {K : Option Addr → Nat → World → Prop} (h : Ls w T t G x) (hT : t ≠ T) (ho : Own w k cs t) (hg : G x.n n cs) (hn : n ≤ 9223372036854775807) (hxn : x.n ≤ 999999999)
    (hK : ∀ b' c' w', Ls w' T t G ⟨b', x.n + 1, c', x.vs ++ [.slice (some ⟨k, 0, none⟩) n n]⟩ → Ext (rowBlk x.b) w w' → (∀ y ∈ rowBlk b', y ∈ rowBlk x.b ∨ w.heap.size ≤ y) → K b' c' w') :
    New (.cells #[.slice (some ⟨k, 0, none⟩) n n] T) w fun nb w2 => Append T (.slice none 0 0) 1 24 x.b x.n x.c (some ⟨nb, 0, none⟩) 1 w2 K := by
  refine New.mk fun nb w2 hnb hs2 onb he2 => ?_
  have h2 := h.ext he2 (fun y hy => by cases hy)
  have ho2 := he2.own ho (by simp)
  have hlen := h.len
  refine Vc.Append.mk (e := T) (news := [.slice (some ⟨k, 0, none⟩) n n]) h2.row (CellsAt.own onb (fun j v hj => by simpa using hj)) rfl rfl rfl (by omega) (by omega) fun b' c' w3 hrow3 hE3 hb3 => ?_
  have t3 : Tys w2 (rowBlk x.b) [T] := Tys.row h2.row
  have hz := he2.size
  refine hK b' c' w3 ⟨hrow3, fun j v hv => ?_⟩ (he2.nil.trans hE3) (fun y hy => (hb3 y hy).imp id (fun z => by omega))
  have hv' : (x.vs ++ [Value.slice (some ⟨k, 0, none⟩) n n])[j]? = some v := hv
  by_cases hj : j < x.vs.length
  · rw [List.getElem?_append_left hj] at hv'
    obtain ⟨k', n', cs', e, hn', ho', hg'⟩ := h2.kep j v hv'
    exact ⟨k', n', cs', e, hn', ownT hE3 t3 ho' (by simpa using hT), hg'⟩
  · rw [List.getElem?_append_right (by omega)] at hv'
    have hj0 : j - x.vs.length = 0 := by
      cases hz : j - x.vs.length with
      | zero => rfl
      | succ q => rw [hz] at hv'; simp at hv'
    rw [hj0] at hv'
    simp at hv'
    have ej : j = x.n := by omega
    subst ej
    exact ⟨k, n, cs, hv'.symm, hn, ownT hE3 t3 ho2 (by simpa using hT), hg⟩
theorem lfoot_push {b' : Option Addr} {c' n k y : Nat} (h : lfoot ⟨b', x.n + 1, c', x.vs ++ [.slice (some ⟨k, 0, none⟩) n n]⟩ y) : y ∈ rowBlk b' ∨ lfoot x y ∨ y = k := by
  rcases h with q | ⟨m, c, q⟩
  · exact .inl q
  · rcases List.mem_append.1 q with q | q
    · exact .inr (.inl (.inr ⟨m, c, q⟩))
    · simp at q
      exact .inr (.inr q.1)
end
/-! ### the two connections -/
structure DS where
  x : Nat → Nat
  p : Nat → Nat
  r : Nat → Nat
  m : Nat → Nat
  C : Nat → CS
  X : Nat → MC
structure Duo (w : World) (D : DS) : Prop where
  cr : ∀ c, c < 2 → CnR w (D.x c) (D.p c) (D.r c) (D.C c)
  ok : ∀ c, c < 2 → CsOk (D.C c)
  mm : ∀ c, c < 2 → MM w (D.m c) (D.X c) (D.C c)
  nx : D.x 0 ≠ D.x 1
  np : D.p 0 ≠ D.p 1
  nr : D.r 0 ≠ D.r 1
  nm : D.m 0 ≠ D.m 1
def DS.foot (D : DS) (k : Nat) : Prop := ∃ c, c < 2 ∧ (k = D.x c ∨ k = D.p c ∨ k = D.r c ∨ k = D.m c ∨ k ∈ (D.X c).blks)
def DS.upd (D : DS) (c : Nat) (C' : CS) (X' : MC) : DS := { D with C := fun i => if i = c then C' else D.C i, X := fun i => if i = c then X' else D.X i }
section
variable {w w' : World} {D : DS} {k : Nat}
theorem MM.blty {m : Nat} {X : MC} {C : CS} (h : MM w m X C) (hk : k ∈ X.blks) : ∃ cs, Own w k cs T_uint8 := by
  rcases List.mem_append.1 hk with q | q
  · exact h.q.ty q
  · exact h.a.ty q
theorem Duo.ty (h : Duo w D) (hk : D.foot k) : ∃ cs t, Own w k cs t ∧ t ∈ [T_conn_Conn, T_seg_SendBuf, T_seg_RecvBuf, T_connm_Conn, T_uint8] := by
  obtain ⟨c, hc, q⟩ := hk
  have h1 := h.cr c hc
  have h2 := h.mm c hc
  rcases q with rfl | rfl | rfl | rfl | q
  · exact ⟨_, _, h1.own, by simp⟩
  · obtain ⟨X, q, _⟩ := h1.s
    exact ⟨_, _, q, by simp⟩
  · obtain ⟨X, q, _⟩ := h1.b
    exact ⟨_, _, q, by simp⟩
  · exact ⟨_, _, h2.own, by simp⟩
  · obtain ⟨cs, ho⟩ := h2.blty q
    exact ⟨_, _, ho, by simp⟩
theorem Duo.ext {Y : List Nat} (h : Duo w D) (he : Ext Y w w') (hY : ∀ y ∈ Y, y < w.heap.size → ¬ D.foot y) : Duo w' D := by
  have no : ∀ {y}, D.foot y → y ∉ Y := fun {y} hf hx => by
    obtain ⟨cs, t, ho, _⟩ := h.ty hf
    exact hY y hx ho.lt hf
  refine ⟨fun c hc => (h.cr c hc).ext he (no ⟨c, hc, .inl rfl⟩) (no ⟨c, hc, .inr (.inl rfl)⟩) (no ⟨c, hc, .inr (.inr (.inl rfl))⟩), h.ok, fun c hc => (h.mm c hc).ext he (no ⟨c, hc, .inr (.inr (.inr (.inl rfl)))⟩) (fun k hk => no ⟨c, hc, .inr (.inr (.inr (.inr hk)))⟩), h.nx, h.np, h.nr, h.nm⟩
/-- One of the two turned. -/
theorem Duo.turn {c : Nat} {C' : CS} {X' : MC} (hc : c < 2) (h : Duo w D) (cr : CnR w' (D.x c) (D.p c) (D.r c) C') (ok : CsOk C') (mm : MM w' (D.m c) X' C') (he : Ext [D.x c, D.p c, D.r c, D.m c] w w') : Duo w' (D.upd c C' X') := by
  have hc1 := h.cr c hc
  have hm1 := h.mm c hc
  obtain ⟨S1, s1, _⟩ := hc1.s
  obtain ⟨B1, b1, _⟩ := hc1.b
  have other : ∀ i, i < 2 → i ≠ c → CnR w' (D.x i) (D.p i) (D.r i) (D.C i) ∧ MM w' (D.m i) (D.X i) (D.C i) := fun i hi hne => by
    have hci := h.cr i hi
    have hmi := h.mm i hi
    obtain ⟨S2, s2, _⟩ := hci.s
    obtain ⟨B2, b2, _⟩ := hci.b
    have nx : D.x i ≠ D.x c ∧ D.p i ≠ D.p c ∧ D.r i ≠ D.r c ∧ D.m i ≠ D.m c := by
      have h1 := h.nx
      have h2 := h.np
      have h3 := h.nr
      have h4 := h.nm
      have : (i = 0 ∧ c = 1) ∨ (i = 1 ∧ c = 0) := by omega
      rcases this with ⟨rfl, rfl⟩ | ⟨rfl, rfl⟩
      · exact ⟨h1, h2, h3, h4⟩
      · exact ⟨h1.symm, h2.symm, h3.symm, h4.symm⟩
    refine ⟨hci.ext he ?_ ?_ ?_, hmi.ext he ?_ (fun k hk => ?_)⟩
    · simp only [List.mem_cons, List.not_mem_nil, or_false, not_or]
      exact ⟨nx.1, Own.ne_type hci.own s1 (by decide), Own.ne_type hci.own b1 (by decide), Own.ne_type hci.own hm1.own (by decide)⟩
    · simp only [List.mem_cons, List.not_mem_nil, or_false, not_or]
      exact ⟨Own.ne_type s2 hc1.own (by decide), nx.2.1, Own.ne_type s2 b1 (by decide), Own.ne_type s2 hm1.own (by decide)⟩
    · simp only [List.mem_cons, List.not_mem_nil, or_false, not_or]
      exact ⟨Own.ne_type b2 hc1.own (by decide), Own.ne_type b2 s1 (by decide), nx.2.2.1, Own.ne_type b2 hm1.own (by decide)⟩
    · simp only [List.mem_cons, List.not_mem_nil, or_false, not_or]
      exact ⟨Own.ne_type hmi.own hc1.own (by decide), Own.ne_type hmi.own s1 (by decide), Own.ne_type hmi.own b1 (by decide), nx.2.2.2⟩
    · obtain ⟨cs, ho⟩ := hmi.blty hk
      simp only [List.mem_cons, List.not_mem_nil, or_false, not_or]
      exact ⟨Own.ne_type ho hc1.own (by decide), Own.ne_type ho s1 (by decide), Own.ne_type ho b1 (by decide), Own.ne_type ho hm1.own (by decide)⟩
  refine ⟨fun i hi => ?_, fun i hi => ?_, fun i hi => ?_, h.nx, h.np, h.nr, h.nm⟩
  · show CnR w' (D.x i) (D.p i) (D.r i) (if i = c then C' else D.C i)
    by_cases e : i = c
    · rw [if_pos e, e]; exact cr
    · rw [if_neg e]; exact (other i hi e).1
  · show CsOk (if i = c then C' else D.C i)
    by_cases e : i = c
    · rw [if_pos e]; exact ok
    · rw [if_neg e]; exact h.ok i hi
  · show MM w' (D.m i) (if i = c then X' else D.X i) (if i = c then C' else D.C i)
    by_cases e : i = c
    · rw [if_pos e, if_pos e, e]; exact mm
    · rw [if_neg e, if_neg e]; exact (other i hi e).2
theorem DS.upd_foot {c y : Nat} {C' : CS} {X' : MC} (hc : c < 2) (h : (D.upd c C' X').foot y) : D.foot y ∨ y ∈ X'.blks := by
  obtain ⟨i, hi, q⟩ := h
  have q' : y = D.x i ∨ y = D.p i ∨ y = D.r i ∨ y = D.m i ∨ y ∈ (if i = c then X' else D.X i).blks := q
  by_cases e : i = c
  · rw [if_pos e] at q'
    rcases q' with q | q | q | q | q
    · exact .inl ⟨i, hi, .inl q⟩
    · exact .inl ⟨i, hi, .inr (.inl q)⟩
    · exact .inl ⟨i, hi, .inr (.inr (.inl q))⟩
    · exact .inl ⟨i, hi, .inr (.inr (.inr (.inl q)))⟩
    · exact .inr q
  · rw [if_neg e] at q'
    exact .inl ⟨i, hi, q'⟩
end
/-! ### what the law keeps -/
abbrev T_mine : TypeId := 43
abbrev T_ints : TypeId := 55
abbrev T_outs : TypeId := 42
def rcO (j : Nat) : List Value := [.int .i64 0, .int .i64 0, .int .i64 (-1 - (j : Int)), .int .i64 0, .int .i64 0, .int .i64 0, .slice none 0 0]
def GB (j n : Nat) (cs : Array Value) : Prop := cs = fnArr n fun i => .int .u8 (stampV j i)
def GI (j n : Nat) (cs : Array Value) : Prop := cs = ((List.replicate n (-1 - (j : Int))).map iv).toArray
def GO (j n : Nat) (cs : Array Value) : Prop := n * 7 ≤ cs.size ∧ Stamped cs n 7 (rcO j)
structure KS where
  pb : Option Addr
  pl : Nat
  pc : Nat
  P : List (SegV × Nat)
  M : KL
  I : KL
  O : KL
structure Kps (w : World) (K : KS) : Prop where
  prow : Row w K.pb K.pl K.pc 7 T_api_Segment (K.P.flatMap segC)
  pdat : ∀ e ∈ K.P, Bf w e.2 e.1.2 ∧ e.1.2.length ≤ 16
  mine : Ls w T_mine T_uint8 GB K.M
  ints : Ls w T_ints T_int GI K.I
  outs : Ls w T_outs T_api_Segment GO K.O
  sep : ∀ y ∈ rowBlk K.pb, ¬ InK y K.O.vs
def KS.foot (K : KS) (k : Nat) : Prop := k ∈ rowBlk K.pb ∨ (∃ e ∈ K.P, k = e.2) ∨ lfoot K.M k ∨ lfoot K.I k ∨ lfoot K.O k
section
variable {w w' : World} {K : KS} {k : Nat}
theorem Kps.ty (h : Kps w K) (hk : K.foot k) : ∃ cs t, Own w k cs t ∧ t ∈ [T_api_Segment, T_uint8, T_mine, T_ints, T_int, T_outs] := by
  rcases hk with q | ⟨e, he, rfl⟩ | q | q | q
  · obtain ⟨cs, ho⟩ := h.prow.ty q
    exact ⟨_, _, ho, by simp⟩
  · exact ⟨_, _, (h.pdat e he).1.1, by simp⟩
  · obtain ⟨cs, ho | ho⟩ := h.mine.ty q
    · exact ⟨_, _, ho, by simp⟩
    · exact ⟨_, _, ho, by simp⟩
  · obtain ⟨cs, ho | ho⟩ := h.ints.ty q
    · exact ⟨_, _, ho, by simp⟩
    · exact ⟨_, _, ho, by simp⟩
  · obtain ⟨cs, ho | ho⟩ := h.outs.ty q
    · exact ⟨_, _, ho, by simp⟩
    · exact ⟨_, _, ho, by simp⟩
theorem Kps.ext {Y : List Nat} (h : Kps w K) (he : Ext Y w w') (hY : ∀ y ∈ Y, y < w.heap.size → ¬ K.foot y) : Kps w' K :=
  ⟨h.prow.ext he (fun y hy hx => hY y hx (h.prow.lt y hy) (.inl hy)), fun e hm => ⟨(h.pdat e hm).1.ext he (fun hx => hY e.2 hx (h.pdat e hm).1.lt (.inr (.inl ⟨e, hm, rfl⟩))), (h.pdat e hm).2⟩,
    h.mine.ext he (fun y hy hl hf => hY y hy hl (.inr (.inr (.inl hf)))), h.ints.ext he (fun y hy hl hf => hY y hy hl (.inr (.inr (.inr (.inl hf))))), h.outs.ext he (fun y hy hl hf => hY y hy hl (.inr (.inr (.inr (.inr hf))))), h.sep⟩
theorem Kps.extT {Y : List Nat} {ts : List TypeId} (h : Kps w K) (he : Ext Y w w') (hY : Tys w Y ts) (ht : ∀ t ∈ ts, t ∉ [T_api_Segment, T_uint8, T_mine, T_ints, T_int, T_outs]) : Kps w' K :=
  h.ext he fun y hy hl hf => by
    obtain ⟨cs, t, ho, h1⟩ := hY y hy hl
    obtain ⟨cs', t', ho', h2⟩ := h.ty hf
    rw [(ho'.unique ho).2] at h2
    exact ht t h1 h2
end
/-! ### all of it -/
def pt (k : Nat) : Value := .pointer (some ⟨k, 0, none⟩)
def lcells (D : DS) (K : KS) (dr : Hd) (qu : Bool) : Array Value := #[pt (D.x 0), pt (D.x 1), pt (D.m 0), pt (D.m 1), pt (D.p 0), pt (D.r 0), pt (D.p 1), pt (D.r 1), .slice K.pb K.pl K.pc,
  .int .i64 dr.sp, .int .i64 dr.dp, .int .i64 dr.sq, .int .i64 dr.ak, .int .i64 dr.fl, .int .i64 dr.wn, .slice none 0 0, .bool qu, K.M.val, K.I.val, K.O.val]
def LF (a : Nat) (D : DS) (K : KS) (k : Nat) : Prop := k = a ∨ D.foot k ∨ K.foot k
structure LX (w0 w : World) (a : Nat) (D : DS) (K : KS) (dr : Hd) (qu : Bool) (N : Nat) : Prop where
  own : Own w a (lcells D K dr qu) T_connlaw_World
  duo : Duo w D
  kps : Kps w K
  bp : K.pl ≤ N
  bm : K.M.n ≤ N
  bi : K.I.n ≤ N
  bo : K.O.n ≤ N
  ge : ∀ k, LF a D K k → w0.heap.size ≤ k
  ext : Ext [] w0 w
section
variable {w0 w w' : World} {a : Nat} {D : DS} {K : KS} {dr : Hd} {qu : Bool} {N k : Nat}
theorem LX.lt (h : LX w0 w a D K dr qu N) (hk : LF a D K k) : k < w.heap.size := by
  rcases hk with rfl | q | q
  · exact h.own.lt
  · obtain ⟨cs, t, ho, _⟩ := h.duo.ty q
    exact ho.lt
  · obtain ⟨cs, t, ho, _⟩ := h.kps.ty q
    exact ho.lt
theorem LX.fresh (h : LX w0 w a D K dr qu N) (hk : w.heap.size ≤ k) : ¬ LF a D K k := fun q => by have := h.lt q; omega
theorem LX.keep {Y : List Nat} (h : LX w0 w a D K dr qu N) (he : Ext Y w w') (hY : ∀ y ∈ Y, y < w.heap.size → ¬ LF a D K y) (hg : ∀ y ∈ Y, w0.heap.size ≤ y) : LX w0 w' a D K dr qu N :=
  ⟨he.own h.own (fun hx => hY a hx h.own.lt (.inl rfl)), h.duo.ext he (fun y hy hl hf => hY y hy hl (.inr (.inl hf))), h.kps.ext he (fun y hy hl hf => hY y hy hl (.inr (.inr hf))), h.bp, h.bm, h.bi, h.bo, h.ge, h.ext.trans' he (fun y hy hl => by have := hg y hy; omega)⟩
theorem LX.ext0 (h : LX w0 w a D K dr qu N) (he : Ext [] w w') : LX w0 w' a D K dr qu N := h.keep he (fun y hy => by cases hy) (fun y hy => by cases hy)
theorem LX.drew (h : LX w0 w a D K dr qu N) : LX w0 w.drew a D K dr qu N := h.ext0 (Ext.drew _ _)
theorem LX.mono {M : Nat} (h : LX w0 w a D K dr qu N) (hm : N ≤ M) : LX w0 w a D K dr qu M := ⟨h.own, h.duo, h.kps, by have := h.bp; omega, by have := h.bm; omega, by have := h.bi; omega, by have := h.bo; omega, h.ge, h.ext⟩
theorem LX.sz (h : LX w0 w a D K dr qu N) : w0.heap.size ≤ w.heap.size := h.ext.size
theorem LX.turn {c : Nat} {C' : CS} {X' : MC} (hc : c < 2) (h : LX w0 w a D K dr qu N) (cr : CnR w' (D.x c) (D.p c) (D.r c) C') (ok : CsOk C') (mm : MM w' (D.m c) X' C') (hb : ∀ k ∈ X'.blks, k ∈ (D.X c).blks ∨ w.heap.size ≤ k) (he : Ext [D.x c, D.p c, D.r c, D.m c] w w') : LX w0 w' a (D.upd c C' X') K dr qu N := by
  have hc1 := h.duo.cr c hc
  have hm1 := h.duo.mm c hc
  obtain ⟨S1, s1, _⟩ := hc1.s
  obtain ⟨B1, b1, _⟩ := hc1.b
  have hT : Tys w [D.x c, D.p c, D.r c, D.m c] [T_conn_Conn, T_seg_SendBuf, T_seg_RecvBuf, T_connm_Conn] := fun y hy _ => by
    simp only [List.mem_cons, List.not_mem_nil, or_false] at hy
    rcases hy with rfl | rfl | rfl | rfl
    · exact ⟨_, _, hc1.own, by simp⟩
    · exact ⟨_, _, s1, by simp⟩
    · exact ⟨_, _, b1, by simp⟩
    · exact ⟨_, _, hm1.own, by simp⟩
  refine ⟨ownT he hT h.own (by decide), h.duo.turn hc cr ok mm he, h.kps.extT he hT (by decide), h.bp, h.bm, h.bi, h.bo, fun y hy => ?_, ?_⟩
  · rcases hy with q | q | q
    · exact h.ge y (.inl q)
    · rcases DS.upd_foot hc q with q | q
      · exact h.ge y (.inr (.inl q))
      · rcases hb y q with z | z
        · exact h.ge y (.inr (.inl ⟨c, hc, .inr (.inr (.inr (.inr z)))⟩))
        · have := h.sz; omega
    · exact h.ge y (.inr (.inr q))
  · refine h.ext.trans' he (fun y hy hl => ?_)
    have : w0.heap.size ≤ y := h.ge y (.inr (.inl ⟨c, hc, ?_⟩))
    · omega
    · simp only [List.mem_cons, List.not_mem_nil, or_false] at hy
      rcases hy with q | q | q | q
      · exact .inl q
      · exact .inr (.inl q)
      · exact .inr (.inr (.inl q))
      · exact .inr (.inr (.inr (.inl q)))
/-- One cell of the law's own record laid anew. -/
theorem LX.store {w1 : World} {Y : List Nat} {s : Nat} {v : Value} {K' : KS} {dr' : Hd} {N' : Nat} {Q : World → Prop} (h : LX w0 w a D K dr qu N) (he : Ext Y w w1) (hY : ∀ y ∈ Y, y < w.heap.size → y ≠ a ∧ ¬ D.foot y) (hg : ∀ y ∈ Y, w0.heap.size ≤ y) (hk : Kps w1 K')
    (hf : ∀ y, K'.foot y → K.foot y ∨ w0.heap.size ≤ y) (b1 : K'.pl ≤ N') (b2 : K'.M.n ≤ N') (b3 : K'.I.n ≤ N') (b4 : K'.O.n ≤ N') (hput : (lcells D K dr qu).setIfInBounds s v = lcells D K' dr' qu) (hs : s < 20) (h1 : [v].all Value.oneCell' = true)
    (hQ : ∀ w2, w2.heap.size = w1.heap.size → LX w0 w2 a D K' dr' qu N' → Ext [a] w1 w2 → Q w2) : Sts [v] ⟨a, s, none⟩ 0 w1 Q := by
  have o1 := he.own h.own (fun hx => (hY a hx h.own.lt).1 rfl)
  refine Sts.mk o1 (by simp [lcells]; omega) h1 fun w2 hs2 o2 he2 => hQ w2 hs2 ?_ he2
  have o2' : Own w2 a (lcells D K' dr' qu) T_connlaw_World := by
    rw [← hput]; exact o2
  have t1 : Tys w1 [a] [T_connlaw_World] := Tys.one o1
  have d1 := h.duo.ext he (fun y hy hl => (hY y hy hl).2)
  have ga := h.ge a (.inl rfl)
  refine ⟨o2', d1.ext he2 (fun y hy hl hf' => ?_), hk.extT he2 t1 (by decide), b1, b2, b3, b4, fun y hy => ?_, (h.ext.trans' he (fun y hy hl => by have := hg y hy; omega)).trans' he2 (fun y hy hl => by simp at hy; omega)⟩
  · simp at hy
    subst hy
    obtain ⟨cs, t, ho, ht⟩ := d1.ty hf'
    rw [(ho.unique o1).2] at ht
    exact absurd ht (by decide)
  · rcases hy with q | q | q
    · exact h.ge y (.inl q)
    · exact h.ge y (.inr (.inl q))
    · rcases hf y q with q | q
      · exact h.ge y (.inr (.inr q))
      · exact q
/-! ### reading -/
theorem LX.ldX {c : Nat} {R : Option Addr → Prop} (hc : c < 2) (h : LX w0 w a D K dr qu N) (hk : R (some ⟨D.x c, 0, none⟩)) : LdP (Addr.add ⟨a, 0, none⟩ ((c : Int).toNat * 1)) w R := by
  rw [addr_i]
  have : c = 0 ∨ c = 1 := by omega
  rcases this with rfl | rfl
  · exact LdP.mk h.own rfl hk
  · exact LdP.mk h.own rfl hk
theorem LX.ldM {c : Nat} {R : Option Addr → Prop} (hc : c < 2) (h : LX w0 w a D K dr qu N) (hk : R (some ⟨D.m c, 0, none⟩)) : LdP (Addr.add (Addr.add ⟨a, 0, none⟩ 2) ((c : Int).toNat * 1)) w R := by
  rw [add_mk, addr_k]
  have : c = 0 ∨ c = 1 := by omega
  rcases this with rfl | rfl
  · exact LdP.mk h.own rfl hk
  · exact LdP.mk h.own rfl hk
theorem LX.ldP {c : Nat} {R : Option Addr → Prop} (hc : c < 2) (h : LX w0 w a D K dr qu N) (hk : R (some ⟨D.p c, 0, none⟩)) : LdP (Addr.add (Addr.add ⟨a, 0, none⟩ 4) ((c : Int).toNat * 2)) w R := by
  rw [add_mk, Int.toNat_natCast, add_mk]
  have : c = 0 ∨ c = 1 := by omega
  rcases this with rfl | rfl
  · exact LdP.mk h.own rfl hk
  · exact LdP.mk h.own rfl hk
theorem LX.ldR {c : Nat} {R : Option Addr → Prop} (hc : c < 2) (h : LX w0 w a D K dr qu N) (hk : R (some ⟨D.r c, 0, none⟩)) : LdP ((Addr.add (Addr.add ⟨a, 0, none⟩ 4) ((c : Int).toNat * 2)).add 1) w R := by
  rw [add_mk, Int.toNat_natCast, add_mk, add_mk]
  have : c = 0 ∨ c = 1 := by omega
  rcases this with rfl | rfl
  · exact LdP.mk h.own rfl hk
  · exact LdP.mk h.own rfl hk
theorem LX.ldL {s : Nat} {b : Option Addr} {l c : Nat} {R : Option Addr → Nat → Nat → Prop} (h : LX w0 w a D K dr qu N) (hs : (lcells D K dr qu)[s]? = some (.slice b l c)) (hk : R b l c) : LdL (Addr.add ⟨a, 0, none⟩ s) w R := by
  rw [add_mk, Nat.zero_add]
  exact LdL.mk h.own hs hk
theorem LX.ldQ (h : LX w0 w a D K dr qu N) {R : Bool → Prop} (hk : R qu) : LdB (Addr.add ⟨a, 0, none⟩ 16) w R := by
  rw [add_mk]
  exact LdB.mk h.own rfl hk
/-- The draft's cells. -/
theorem LX.ldDraft {R : Int → Int → Int → Int → Int → Int → Option Addr → Nat → Nat → Prop} (h : LX w0 w a D K dr qu N) (hk : R dr.sp dr.dp dr.sq dr.ak dr.fl dr.wn none 0 0) :
    LdI .i64 (Addr.add ⟨a, 0, none⟩ 9) w fun x0 => LdI .i64 ((Addr.add ⟨a, 0, none⟩ 9).add 1) w fun x1 => LdI .i64 ((Addr.add ⟨a, 0, none⟩ 9).add 2) w fun x2 => LdI .i64 ((Addr.add ⟨a, 0, none⟩ 9).add 3) w fun x3 => LdI .i64 ((Addr.add ⟨a, 0, none⟩ 9).add 4) w fun x4 => LdI .i64 ((Addr.add ⟨a, 0, none⟩ 9).add 5) w fun x5 => LdL ((Addr.add ⟨a, 0, none⟩ 9).add 6) w fun x6 x7 x8 => R x0 x1 x2 x3 x4 x5 x6 x7 x8 := by
  simp only [add_mk]
  exact LdI.mk h.own rfl (LdI.mk h.own rfl (LdI.mk h.own rfl (LdI.mk h.own rfl (LdI.mk h.own rfl (LdI.mk h.own rfl (LdL.mk h.own rfl hk))))))
end
end Go.Proofs.Qxb6500422aGreat
