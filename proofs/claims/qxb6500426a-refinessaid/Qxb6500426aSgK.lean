/-
  seglaw: the law's small functions, and its state.
-/
import Derived.Test.Qxb6500426aSgJ
set_option linter.unusedVariables false
set_option linter.unusedSimpArgs false
open Go.Vc
namespace Go.Proofs.Qxb6500426a

/-! ### Scribble, SameSeg, SameInts, Stamp -/
theorem scribble_ok {w : World} {k l c : Nat} {v : List Int} {R : World → Prop} (h : Bf w k v) (hl : l ≤ v.length) (hb : l ≤ 281474976710656)
    (hR : ∀ w', w'.heap.size = w.heap.size → (∃ v', Bf w' k v') → Ext [k] w w' → R w') : seglaw_Scribble.Call (some ⟨k, 0, none⟩) l c w R := by
  apply seglaw_Scribble.sound
  unfold seglaw_Scribble.B0 seglaw_Scribble.L1
  refine ⟨fun m b' l' c' i w' => ∃ (n : Nat) (v' : List Int), n ≤ l ∧ m = l - n ∧ some ⟨k, 0, none⟩ = b' ∧ l = l' ∧ i = (n : Int) ∧ Bf w' k v' ∧ v'.length = v.length ∧ w'.heap.size = w.heap.size ∧ Ext [k] w w', _, ⟨0, v, by omega, rfl, rfl, rfl, rfl, h, rfl, rfl, Ext.refl _ _⟩, ?_⟩
  rintro m b' l' c' i w' ⟨n, v', hn, rfl, rfl, rfl, rfl, h', hl', hs', he'⟩
  unfold seglaw_Scribble.L1b
  refine Bm.ite (fun hlt => ?_) fun hge => hR w' hs' ⟨v', h'⟩ he'
  obtain ⟨x, hx⟩ := get_lt (L := v') (n := n) (by omega)
  obtain ⟨kk, o, e, hc⟩ := (h'.rd0).at hx
  simp only [Option.some.injEq, Addr.mk.injEq, and_true] at e
  obtain ⟨rfl, rfl⟩ := e
  refine Pn.mk ⟨⟨by omega, by omega⟩, LdI.cell (n := x) (by rw [addr_k]; exact hc) (Pn.mk ⟨⟨by omega, by omega⟩, ?_⟩)⟩
  rw [addr_i]
  refine h'.set (by omega) (wrap8_isB _) fun w2 hs2 h2 he2 => ⟨l - (n + 1), by omega, n + 1, _, by omega, rfl, rfl, rfl, by rw [w64 (by omega) (by omega)]; omega, h2, by simpa using hl', by omega, he'.trans he2⟩
theorem sameSeg_ok {w : World} {H : Hd} {ab bb : Option Addr} {al ac bl bc : Nat} {D : List Int} {R : Bool → World → Prop} (ha : Rd w ab D) (hb : Rd w bb D) (hal : D.length = al) (hbl : D.length = bl) (hl : al ≤ 281474976710656)
    (hR : ∀ w', Ext [] w w' → R true w') : seglaw_SameSeg.Call H.sp H.dp H.sq H.ak H.fl H.wn ab al ac H.sp H.dp H.sq H.ak H.fl H.wn bb bl bc w R := by
  apply seglaw_SameSeg.sound
  unfold seglaw_SameSeg.B0
  refine New.mk fun a w1 e1 s1 o1 he1 => New.mk fun b w2 e2 s2 o2 he2 => ?_
  have o1' := he2.own o1 (by simp)
  have hx := he1.trans he2
  refine LdI.mk o1' rfl (LdI.mk o2 rfl (Bm.neg (by simp) (LdI.mk o1' rfl (LdI.mk o2 rfl (Bm.neg (by simp) (LdI.mk o1' rfl (LdI.mk o2 rfl (Bm.neg (by simp) (LdI.mk o1' rfl (LdI.mk o2 rfl (Bm.neg (by simp) (LdI.mk o1' rfl (LdI.mk o2 rfl (Bm.neg (by simp) (LdI.mk o1' rfl (LdI.mk o2 rfl ?_))))))))))))))))
  unfold seglaw_SameSeg.B1
  refine Bm.neg (by simp) (LdL.mk o1' rfl (LdL.mk o2 rfl (sameBytes_ok (ha.ext0 hx) (hb.ext0 hx) hal hbl hl fun w3 he3 _ => ?_)))
  rw [decide_eq_true rfl]
  exact hR w3 (hx.trans he3)
theorem sameInts_ok {w : World} {ra rb : Nat} {L : List Int} {n c1 c2 : Nat} {R : Bool → World → Prop} (ha : IAt w ra L) (hb : IAt w rb L) (hn : L.length = n) (hl : n ≤ 1000)
    (hR : ∀ w', Ext [] w w' → R true w') : seglaw_SameInts.Call (some ⟨ra, 0, none⟩) n c1 (some ⟨rb, 0, none⟩) n c2 w R := by
  apply seglaw_SameInts.sound
  unfold seglaw_SameInts.B0
  refine Bm.neg (by simp) ?_
  unfold seglaw_SameInts.L1
  refine ⟨fun m a' l' c' b' l2' c2' i w' => ∃ k : Nat, k ≤ n ∧ m = n - k ∧ some ⟨ra, 0, none⟩ = a' ∧ n = l' ∧ some ⟨rb, 0, none⟩ = b' ∧ n = l2' ∧ i = (k : Int) ∧ Ext [] w w', _, ⟨0, by omega, rfl, rfl, rfl, rfl, rfl, rfl, Ext.refl _ _⟩, ?_⟩
  rintro m a' l' c' b' l2' c2' i w' ⟨k, hk, rfl, rfl, rfl, rfl, rfl, rfl, he'⟩
  unfold seglaw_SameInts.L1b
  refine Bm.ite (fun hlt => ?_) fun hge => hR w' he'
  obtain ⟨x, hx⟩ := get_lt (L := L) (n := k) (by omega)
  have hed : Ext [] w w'.drew := he'.trans (Ext.drew _ _)
  exact Pn.mk ⟨⟨by omega, by omega⟩, (ha.ext hed (by simp)).ld (addr_i ra k) hx (Pn.mk ⟨⟨by omega, by omega⟩, (hb.ext hed (by simp)).ld (addr_i rb k) hx (Bm.neg (by simp) ⟨n - (k + 1), by omega, k + 1, by omega, rfl, rfl, rfl, rfl, rfl, by rw [w64 (by omega) (by omega)]; omega, hed⟩)⟩)⟩
def st8 (J : Int) : Int := IntKind.u8.wrap (BitVec.ofInt IntKind.u8.bits (IntKind.u8.wrap (J.tmod 256)) ^^^ BitVec.ofInt IntKind.u8.bits (165 : Int)).toNat
theorem st8_isB (J : Int) : 0 ≤ st8 J ∧ st8 J < 256 := wrap8_isB _
def stampV (j i : Nat) : Int := st8 (if i % 4 = 1 then ((j / 256 : Nat) : Int) else if i % 4 = 2 then ((j / 65536 : Nat) : Int) else if i % 4 = 3 then ((j / 16777216 : Nat) : Int) else (j : Int))
theorem tdiv_nat (j k : Nat) : ((j : Nat) : Int).tdiv ((k : Nat) : Int) = ((j / k : Nat) : Int) := by
  rw [Int.tdiv_eq_ediv_of_nonneg (by omega)]
  simp
theorem stamp_ok {w : World} {j i : Nat} {R : Int → World → Prop} (hj : j ≤ 1000000000) (hR : R (stampV j i) w) : seglaw_Stamp.Call (j : Int) (i : Int) w R := by
  apply seglaw_Stamp.sound
  unfold seglaw_Stamp.B0
  refine ⟨by decide, ?_⟩
  rw [tmod_pos _ (by omega)]
  unfold stampV at hR
  have d1 := tdiv_nat j 256
  have d2 := tdiv_nat j 65536
  have d3 := tdiv_nat j 16777216
  refine Bm.mk (fun e => ⟨by decide, ?_⟩) fun e => Bm.mk (fun e2 => ⟨by decide, ?_⟩) fun e2 => Bm.mk (fun e3 => ⟨by decide, ?_⟩) fun e3 => ?_
  · have e' : (i : Int) % 4 = 1 := by simpa using e
    rw [if_pos (by omega)] at hR
    show seglaw_Stamp.B1 (IntKind.i64.wrap (((j : Nat) : Int).tdiv ((256 : Nat) : Int))) w R
    rw [d1, w64 (by omega) (by omega)]
    exact ⟨by decide, hR⟩
  · have e' : ¬ (i : Int) % 4 = 1 := by simpa using e
    have e2' : (i : Int) % 4 = 2 := by simpa using e2
    rw [if_neg (by omega), if_pos (by omega)] at hR
    show seglaw_Stamp.B1 (IntKind.i64.wrap (((j : Nat) : Int).tdiv ((65536 : Nat) : Int))) w R
    rw [d2, w64 (by omega) (by omega)]
    exact ⟨by decide, hR⟩
  · have e' : ¬ (i : Int) % 4 = 1 := by simpa using e
    have e2' : ¬ (i : Int) % 4 = 2 := by simpa using e2
    have e3' : (i : Int) % 4 = 3 := by simpa using e3
    rw [if_neg (by omega), if_neg (by omega), if_pos (by omega)] at hR
    show seglaw_Stamp.B1 (IntKind.i64.wrap (((j : Nat) : Int).tdiv ((16777216 : Nat) : Int))) w R
    rw [d3, w64 (by omega) (by omega)]
    exact ⟨by decide, hR⟩
  · have e' : ¬ (i : Int) % 4 = 1 := by simpa using e
    have e2' : ¬ (i : Int) % 4 = 2 := by simpa using e2
    have e3' : ¬ (i : Int) % 4 = 3 := by simpa using e3
    rw [if_neg (by omega), if_neg (by omega), if_neg (by omega)] at hR
    exact ⟨by decide, hR⟩
/-! ### the law's state -/
structure LawS where
  x : Nat
  s : Nat
  r : Nat
  m : Nat
  dr : Hd
  lb : Option Addr
  ll : Nat
  lc : Nat
  LV : List Int
  sd : Hd
  pb : Option Addr
  pl : Nat
  pc : Nat
  PV : List Int
  src : Int
  dst : Int
  kb : Option Addr
  kn : Nat
  kc : Nat
  vs : List Value
  ib : Option Addr
  jn : Nat
  ic : Nat
  us : List Value
  db : Option Addr
  dl : Nat
  dc : Nat
  eb : Option Addr
  el : Nat
  ec : Nat
  Sb : SbS
  Rb : RbS
def pt (k : Nat) : Value := .pointer (some ⟨k, 0, none⟩)
def LawS.cells (σ : LawS) (qu : Bool) : Array Value := #[pt σ.x, pt σ.s, pt σ.r, pt σ.m, .int .i64 σ.dr.sp, .int .i64 σ.dr.dp, .int .i64 σ.dr.sq, .int .i64 σ.dr.ak, .int .i64 σ.dr.fl, .int .i64 σ.dr.wn, .slice none 0 0, .slice σ.lb σ.ll σ.lc,
  .int .i64 σ.sd.sp, .int .i64 σ.sd.dp, .int .i64 σ.sd.sq, .int .i64 σ.sd.ak, .int .i64 σ.sd.fl, .int .i64 σ.sd.wn, .slice σ.pb σ.pl σ.pc, .int .i64 σ.src, .int .i64 σ.dst, .bool qu, .slice σ.kb σ.kn σ.kc, .slice σ.ib σ.jn σ.ic]
abbrev T_mine : TypeId := 37
abbrev T_ints : TypeId := 49
/-- The kept slices bear their stamps. -/
def KB (w : World) (vs : List Value) : Prop := ∀ (j : Nat) (v : Value), vs[j]? = some v → ∃ k n, v = .slice (some ⟨k, 0, none⟩) n n ∧ n ≤ 281474976710656 ∧ Own w k (fnArr n fun i => .int .u8 (stampV j i)) T_uint8
def KI (w : World) (vs : List Value) : Prop := ∀ (j : Nat) (v : Value), vs[j]? = some v → ∃ k n, v = .slice (some ⟨k, 0, none⟩) n n ∧ n ≤ 1000 ∧ IAt w k (List.replicate n (-1 - (j : Int)))
structure LawAt (w : World) (a : Nat) (σ : LawS) (qu : Bool) : Prop where
  own : Own w a (σ.cells qu) T_seglaw_World
  sx : SR w σ.x σ.Sb
  sm : SM w σ.s σ.db σ.dl σ.dc σ.Sb
  sok : SbOk σ.Sb
  rx : RR w σ.r σ.Rb
  rm : RM w σ.m σ.eb σ.el σ.ec σ.Rb
  rok : RbOk σ.Rb
  last : Row w σ.lb σ.ll σ.lc 1 T_uint8 (U8 σ.LV) ∧ IsB σ.LV
  sent : Row w σ.pb σ.pl σ.pc 1 T_uint8 (U8 σ.PV) ∧ IsB σ.PV
  good : σ.LV = [] ∨ (EncOk σ.src σ.dst σ.sd σ.PV.length ∧ σ.LV = encSeg σ.src σ.dst σ.sd σ.PV)
  mine : Row w σ.kb σ.kn σ.kc 1 T_mine σ.vs
  kept : KB w σ.vs
  ints : Row w σ.ib σ.jn σ.ic 1 T_ints σ.us
  kint : KI w σ.us
/-- The block k is none of the bytes that the law holds. -/
structure KNot (k : Nat) (σ : LawS) : Prop where
  d : k ∉ rowBlk σ.db
  e : k ∉ rowBlk σ.eb
  l : k ∉ rowBlk σ.lb
  p : k ∉ rowBlk σ.pb
  v : KeptNot k σ.vs
section
variable {w w' : World} {a : Nat} {σ : LawS} {qu : Bool}
theorem LawAt.fresh {k : Nat} (h : LawAt w a σ qu) (hk : w.heap.size ≤ k) : KNot k σ := by
  refine ⟨fun hx => ?_, fun hx => ?_, fun hx => ?_, fun hx => ?_, fun b n c hv e => ?_⟩
  · have := h.sm.row.lt k hx; omega
  · have := h.rm.row.lt k hx; omega
  · have := h.last.1.lt k hx; omega
  · have := h.sent.1.lt k hx; omega
  · obtain ⟨j, hj⟩ := List.getElem?_of_mem hv
    obtain ⟨k', n', e', _, ho⟩ := h.kept j _ hj
    simp only [Value.slice.injEq, Option.some.injEq, Addr.mk.injEq, and_true] at e'
    have := ho.lt
    omega
/-- What the stretch has not written stands. -/
theorem LawAt.keep {X : List Nat} {ts : List TypeId} (h : LawAt w a σ qu) (he : Ext X w w') (hX : Tys w X ts) (ht : ∀ t ∈ ts, t ≠ T_seglaw_World ∧ t ≠ T_seg_SendBuf ∧ t ≠ T_segm_SendBuf ∧ t ≠ T_seg_RecvBuf ∧ t ≠ T_segm_RecvBuf ∧ t ≠ T_uint8 ∧ t ≠ T_int ∧ t ≠ T_mine ∧ t ≠ T_ints) : LawAt w' a σ qu := by
  have no : ∀ t, (t = T_seglaw_World ∨ t = T_seg_SendBuf ∨ t = T_segm_SendBuf ∨ t = T_seg_RecvBuf ∨ t = T_segm_RecvBuf ∨ t = T_uint8 ∨ t = T_int ∨ t = T_mine ∨ t = T_ints) → t ∉ ts := fun t hc hx => by
    have := ht t hx
    rcases hc with e | e | e | e | e | e | e | e | e
    · exact this.1 e
    · exact this.2.1 e
    · exact this.2.2.1 e
    · exact this.2.2.2.1 e
    · exact this.2.2.2.2.1 e
    · exact this.2.2.2.2.2.1 e
    · exact this.2.2.2.2.2.2.1 e
    · exact this.2.2.2.2.2.2.2.1 e
    · exact this.2.2.2.2.2.2.2.2 e
  obtain ⟨X1, x1, x2⟩ := h.sx
  obtain ⟨Y1, y1, y2⟩ := h.rx
  obtain ⟨hf, vf, r1, r2⟩ := h.rm.own
  refine ⟨ownT he hX h.own (no _ (by simp)), ⟨X1, ownT he hX x1 (no _ (by simp)), x2⟩, ⟨ownT he hX h.sm.own (no _ (by simp)), rowT h.sm.row he hX (no _ (by simp))⟩, h.sok, ⟨Y1, ownT he hX y1 (no _ (by simp)), y2⟩, ⟨⟨hf, vf, ownT he hX r1 (no _ (by simp)), r2⟩, rowT h.rm.row he hX (no _ (by simp))⟩, h.rok,
    ⟨rowT h.last.1 he hX (no _ (by simp)), h.last.2⟩, ⟨rowT h.sent.1 he hX (no _ (by simp)), h.sent.2⟩, h.good, rowT h.mine he hX (no _ (by simp)), fun j v hv => ?_, rowT h.ints he hX (no _ (by simp)), fun j v hv => ?_⟩
  · obtain ⟨k, n, e, hn, ho⟩ := h.kept j v hv
    exact ⟨k, n, e, hn, ownT he hX ho (no _ (by simp))⟩
  · obtain ⟨k, n, e, hn, ho⟩ := h.kint j v hv
    exact ⟨k, n, e, hn, ownT he hX ho (no _ (by simp))⟩
theorem LawAt.ext0 (h : LawAt w a σ qu) (he : Ext [] w w') : LawAt w' a σ qu := h.keep he (Tys.nil _ []) (fun t ht => by cases ht)
/-- A block of bytes written that is none of the law's. -/
theorem LawAt.u8 {k : Nat} {cs : Array Value} (h : LawAt w a σ qu) (ho : Own w k cs T_uint8) (hn : KNot k σ) (he : Ext [k] w w') : LawAt w' a σ qu := by
  have hX := Tys.one ho
  have row8 : ∀ {b : Option Addr} {l c : Nat} {vs : List Value}, Row w b l c 1 T_uint8 vs → k ∉ rowBlk b → Row w' b l c 1 T_uint8 vs := fun hr hk => hr.ext he (fun y hy hx => by simp at hx; subst hx; exact hk hy)
  obtain ⟨X1, x1, x2⟩ := h.sx
  obtain ⟨Y1, y1, y2⟩ := h.rx
  obtain ⟨hf, vf, r1, r2⟩ := h.rm.own
  refine ⟨ownT he hX h.own (by decide), ⟨X1, ownT he hX x1 (by decide), x2⟩, ⟨ownT he hX h.sm.own (by decide), row8 h.sm.row hn.d⟩, h.sok, ⟨Y1, ownT he hX y1 (by decide), y2⟩, ⟨⟨hf, vf, ownT he hX r1 (by decide), r2⟩, row8 h.rm.row hn.e⟩, h.rok,
    ⟨row8 h.last.1 hn.l, h.last.2⟩, ⟨row8 h.sent.1 hn.p, h.sent.2⟩, h.good, rowT h.mine he hX (by decide), fun j v hv => ?_, rowT h.ints he hX (by decide), fun j v hv => ?_⟩
  · obtain ⟨k', n, e, hn', ho'⟩ := h.kept j v hv
    refine ⟨k', n, e, hn', he.own ho' ?_⟩
    simp
    exact hn.v k' n n (by rw [← e]; exact List.mem_of_getElem? hv)
  · obtain ⟨k', n, e, hn', ho'⟩ := h.kint j v hv
    exact ⟨k', n, e, hn', ownT he hX ho' (by decide)⟩
theorem LawAt.kl (h : LawAt w a σ qu) : σ.vs.length = σ.kn := by have := h.mine.1; omega
theorem LawAt.il (h : LawAt w a σ qu) : σ.us.length = σ.jn := by have := h.ints.1; omega
theorem LawAt.ldX {K : Option Addr → Prop} (h : LawAt w a σ qu) (hk : K (some ⟨σ.x, 0, none⟩)) : LdP ⟨a, 0, none⟩ w K := LdP.mk h.own rfl hk
theorem LawAt.ldS {K : Option Addr → Prop} (h : LawAt w a σ qu) (hk : K (some ⟨σ.s, 0, none⟩)) : LdP (Addr.add ⟨a, 0, none⟩ 1) w K := by
  rw [add_mk]
  exact LdP.mk h.own rfl hk
theorem LawAt.ldR {K : Option Addr → Prop} (h : LawAt w a σ qu) (hk : K (some ⟨σ.r, 0, none⟩)) : LdP (Addr.add ⟨a, 0, none⟩ 2) w K := by
  rw [add_mk]
  exact LdP.mk h.own rfl hk
theorem LawAt.ldM {K : Option Addr → Prop} (h : LawAt w a σ qu) (hk : K (some ⟨σ.m, 0, none⟩)) : LdP (Addr.add ⟨a, 0, none⟩ 3) w K := by
  rw [add_mk]
  exact LdP.mk h.own rfl hk
theorem LawAt.ldLast {K : Option Addr → Nat → Nat → Prop} (h : LawAt w a σ qu) (hk : K σ.lb σ.ll σ.lc) : LdL (Addr.add ⟨a, 0, none⟩ 11) w K := by
  rw [add_mk]
  exact LdL.mk h.own rfl hk
theorem LawAt.ldSrc {K : Int → Prop} (h : LawAt w a σ qu) (hk : K σ.src) : LdI .i64 (Addr.add ⟨a, 0, none⟩ 19) w K := by
  rw [add_mk]
  exact LdI.mk h.own rfl hk
theorem LawAt.ldDst {K : Int → Prop} (h : LawAt w a σ qu) (hk : K σ.dst) : LdI .i64 (Addr.add ⟨a, 0, none⟩ 20) w K := by
  rw [add_mk]
  exact LdI.mk h.own rfl hk
theorem LawAt.ldKept {K : Option Addr → Nat → Nat → Prop} (h : LawAt w a σ qu) (hk : K σ.kb σ.kn σ.kc) : LdL (Addr.add ⟨a, 0, none⟩ 22) w K := by
  rw [add_mk]
  exact LdL.mk h.own rfl hk
theorem LawAt.ldInts {K : Option Addr → Nat → Nat → Prop} (h : LawAt w a σ qu) (hk : K σ.ib σ.jn σ.ic) : LdL (Addr.add ⟨a, 0, none⟩ 23) w K := by
  rw [add_mk]
  exact LdL.mk h.own rfl hk
/-! ### with its bounds -/
def foot (a : Nat) (σ : LawS) : List Nat := a :: σ.x :: σ.s :: σ.r :: σ.m :: (rowBlk σ.kb ++ rowBlk σ.ib)
structure LX (w0 w : World) (a : Nat) (σ : LawS) (qu : Bool) (N : Nat) : Prop where
  at' : LawAt w a σ qu
  kn : σ.kn ≤ N
  jn : σ.jn ≤ N
  ge : ∀ k ∈ foot a σ, w0.heap.size ≤ k
  ext : Ext [] w0 w
variable {w0 : World} {N : Nat}
theorem LX.ext0 (h : LX w0 w a σ qu N) (he : Ext [] w w') : LX w0 w' a σ qu N := ⟨h.at'.ext0 he, h.kn, h.jn, h.ge, h.ext.trans he⟩
theorem LX.mono {M : Nat} (h : LX w0 w a σ qu N) (hm : N ≤ M) : LX w0 w a σ qu M := ⟨h.at', by have := h.kn; omega, by have := h.jn; omega, h.ge, h.ext⟩
theorem LX.u8 {k : Nat} {cs : Array Value} (h : LX w0 w a σ qu N) (ho : Own w k cs T_uint8) (hn : KNot k σ) (hk : w0.heap.size ≤ k) (he : Ext [k] w w') : LX w0 w' a σ qu N :=
  ⟨h.at'.u8 ho hn he, h.kn, h.jn, h.ge, h.ext.trans' he (fun y hy hl => by simp at hy; omega)⟩
/-- The send buffers turned on both sides. -/
theorem LX.send {w1 w2 : World} {S' : SbS} {db' : Option Addr} {dl' dc' : Nat} (h : LX w0 w a σ qu N) (hS : SbOk S') (h1 : SR w1 σ.x S') (he1 : Ext [σ.x] w w1) (h2 : SM w2 σ.s db' dl' dc' S') (he2 : Ext [σ.s] w1 w2) : LX w0 w2 a { σ with Sb := S', db := db', dl := dl', dc := dc' } qu N := by
  obtain ⟨X0, x0, _⟩ := h.at'.sx
  obtain ⟨X1, x1, x2⟩ := h1
  have t1 : Tys w [σ.x] [T_seg_SendBuf] := Tys.one x0
  have t2 : Tys w1 [σ.s] [T_segm_SendBuf] := Tys.one (ownT he1 t1 h.at'.sm.own (by decide))
  obtain ⟨Y1, y1, y2⟩ := h.at'.rx
  obtain ⟨hf, vf, r1, r2⟩ := h.at'.rm.own
  refine ⟨⟨ownT he2 t2 (ownT he1 t1 h.at'.own (by decide)) (by decide), ⟨X1, ownT he2 t2 x1 (by decide), x2⟩, h2, hS, ⟨Y1, ownT he2 t2 (ownT he1 t1 y1 (by decide)) (by decide), y2⟩, ⟨⟨hf, vf, ownT he2 t2 (ownT he1 t1 r1 (by decide)) (by decide), r2⟩, rowT (rowT h.at'.rm.row he1 t1 (by decide)) he2 t2 (by decide)⟩, h.at'.rok,
    ⟨rowT (rowT h.at'.last.1 he1 t1 (by decide)) he2 t2 (by decide), h.at'.last.2⟩, ⟨rowT (rowT h.at'.sent.1 he1 t1 (by decide)) he2 t2 (by decide), h.at'.sent.2⟩, h.at'.good, rowT (rowT h.at'.mine he1 t1 (by decide)) he2 t2 (by decide), fun j v hv => ?_, rowT (rowT h.at'.ints he1 t1 (by decide)) he2 t2 (by decide), fun j v hv => ?_⟩, h.kn, h.jn, h.ge, ?_⟩
  · obtain ⟨k, n, e, hn, ho⟩ := h.at'.kept j v hv
    exact ⟨k, n, e, hn, ownT he2 t2 (ownT he1 t1 ho (by decide)) (by decide)⟩
  · obtain ⟨k, n, e, hn, ho⟩ := h.at'.kint j v hv
    exact ⟨k, n, e, hn, ownT he2 t2 (ownT he1 t1 ho (by decide)) (by decide)⟩
  · have g1 := h.ge σ.x (by simp [foot])
    have g2 := h.ge σ.s (by simp [foot])
    exact (h.ext.trans' he1 (fun y hy hl => by simp at hy; omega)).trans' he2 (fun y hy hl => by simp at hy; omega)
theorem LX.recv {w1 w2 : World} {S' : RbS} {db' : Option Addr} {dl' dc' : Nat} (h : LX w0 w a σ qu N) (hS : RbOk S') (h1 : RR w1 σ.r S') (he1 : Ext [σ.r] w w1) (h2 : RM w2 σ.m db' dl' dc' S') (he2 : Ext [σ.m] w1 w2) : LX w0 w2 a { σ with Rb := S', eb := db', el := dl', ec := dc' } qu N := by
  obtain ⟨X0, x0, x00⟩ := h.at'.rx
  obtain ⟨X1, x1, x2⟩ := h1
  obtain ⟨hf, vf, r1, r2⟩ := h.at'.rm.own
  have t1 : Tys w [σ.r] [T_seg_RecvBuf] := Tys.one x0
  have t2 : Tys w1 [σ.m] [T_segm_RecvBuf] := Tys.one (ownT he1 t1 r1 (by decide))
  obtain ⟨Y1, y1, y2⟩ := h.at'.sx
  refine ⟨⟨ownT he2 t2 (ownT he1 t1 h.at'.own (by decide)) (by decide), ⟨Y1, ownT he2 t2 (ownT he1 t1 y1 (by decide)) (by decide), y2⟩, ⟨ownT he2 t2 (ownT he1 t1 h.at'.sm.own (by decide)) (by decide), rowT (rowT h.at'.sm.row he1 t1 (by decide)) he2 t2 (by decide)⟩, h.at'.sok, ⟨X1, ownT he2 t2 x1 (by decide), x2⟩, h2, hS,
    ⟨rowT (rowT h.at'.last.1 he1 t1 (by decide)) he2 t2 (by decide), h.at'.last.2⟩, ⟨rowT (rowT h.at'.sent.1 he1 t1 (by decide)) he2 t2 (by decide), h.at'.sent.2⟩, h.at'.good, rowT (rowT h.at'.mine he1 t1 (by decide)) he2 t2 (by decide), fun j v hv => ?_, rowT (rowT h.at'.ints he1 t1 (by decide)) he2 t2 (by decide), fun j v hv => ?_⟩, h.kn, h.jn, h.ge, ?_⟩
  · obtain ⟨k, n, e, hn, ho⟩ := h.at'.kept j v hv
    exact ⟨k, n, e, hn, ownT he2 t2 (ownT he1 t1 ho (by decide)) (by decide)⟩
  · obtain ⟨k, n, e, hn, ho⟩ := h.at'.kint j v hv
    exact ⟨k, n, e, hn, ownT he2 t2 (ownT he1 t1 ho (by decide)) (by decide)⟩
  · have g1 := h.ge σ.r (by simp [foot])
    have g2 := h.ge σ.m (by simp [foot])
    exact (h.ext.trans' he1 (fun y hy hl => by simp at hy; omega)).trans' he2 (fun y hy hl => by simp at hy; omega)
end
end Go.Proofs.Qxb6500426a
