/-
  hostlaw: the law's world in memory.
-/
import Derived.Test.Qxb6500424aGreatHnH
import Derived.Test.Qxb6500424aGreatHrE
set_option linter.unusedVariables false
set_option linter.unusedSimpArgs false
open Go.Vc
namespace Go.Proofs.Qxb6500424aGreat

/-! ### lists of slices that the law keeps -/
def InK (k : Nat) (vs : List Value) : Prop := ∃ n c, Value.slice (some ⟨k, 0, none⟩) n c ∈ vs
def KpT (w : World) (t : TypeId) (G : Nat → Nat → Array Value → Prop) (vs : List Value) : Prop := ∀ (j : Nat) (v : Value), vs[j]? = some v → ∃ k n cs, v = .slice (some ⟨k, 0, none⟩) n n ∧ n ≤ 9223372036854775807 ∧ Own w k cs t ∧ G j n cs
structure Ls (w : World) (T t : TypeId) (G : Nat → Nat → Array Value → Prop) (x : KL) : Prop where
  row : Row w x.b x.n x.c 1 T x.vs
  kep : KpT w t G x.vs
def lfoot (x : KL) (k : Nat) : Prop := k ∈ rowBlk x.b ∨ InK k x.vs
section
variable {w w' : World} {T t : TypeId} {G : Nat → Nat → Array Value → Prop} {x : KL} {k : Nat}
theorem KpT.own {vs : List Value} (h : KpT w t G vs) (hk : InK k vs) : ∃ cs, Own w k cs t := by
  obtain ⟨n, c, hv⟩ := hk
  obtain ⟨j, hj⟩ := List.getElem?_of_mem hv
  obtain ⟨k', n', cs, e, _, ho, _⟩ := h j _ hj
  simp only [Value.slice.injEq, Option.some.injEq, Addr.mk.injEq, and_true] at e
  exact ⟨cs, by rw [e.1]; exact ho⟩
theorem Ls.ty (h : Ls w T t G x) (hk : lfoot x k) : ∃ cs, Own w k cs T ∨ Own w k cs t := by
  rcases hk with q | q
  · obtain ⟨cs, ho⟩ := h.row.ty q
    exact ⟨cs, .inl ho⟩
  · obtain ⟨cs, ho⟩ := h.kep.own q
    exact ⟨cs, .inr ho⟩
theorem Ls.len (h : Ls w T t G x) : x.vs.length = x.n := by have := h.row.1; omega
theorem Ls.nil (w : World) (T t : TypeId) (G : Nat → Nat → Array Value → Prop) : Ls w T t G KL.nil := ⟨Row.nil _ _ _, fun j v hv => by simp [KL.nil] at hv⟩
theorem Ls.ext {Y : List Nat} (h : Ls w T t G x) (he : Ext Y w w') (hY : ∀ y ∈ Y, y < w.heap.size → ¬ lfoot x y) : Ls w' T t G x := by
  refine ⟨h.row.ext he (fun y hy hx => hY y hx (h.row.lt y hy) (.inl hy)), fun j v hv => ?_⟩
  obtain ⟨k, n, cs, e, hn, ho, hg⟩ := h.kep j v hv
  exact ⟨k, n, cs, e, hn, he.own ho (fun hx => hY k hx ho.lt (.inr ⟨n, n, by rw [← e]; exact List.mem_of_getElem? hv⟩)), hg⟩
theorem Ls.extT {ts : List TypeId} (h : Ls w T t G x) (he : ExtT w w' ts) (h1 : T ∉ ts) (h2 : t ∉ ts) : Ls w' T t G x := by
  obtain ⟨Y, he, hY⟩ := he
  refine h.ext he fun y hy hl hf => ?_
  obtain ⟨cs, t', ho, ht⟩ := hY y hy hl
  obtain ⟨cs', q⟩ := h.ty hf
  rcases q with q | q
  · rw [← (q.unique ho).2] at ht; exact h1 ht
  · rw [← (q.unique ho).2] at ht; exact h2 ht
theorem Ls.mono {G' : Nat → Nat → Array Value → Prop} (h : Ls w T t G x) (hG : ∀ j n cs, j < x.n → G j n cs → G' j n cs) : Ls w T t G' x := by
  refine ⟨h.row, fun j v hv => ?_⟩
  obtain ⟨k, n, cs, e, hn, ho, hg⟩ := h.kep j v hv
  exact ⟨k, n, cs, e, hn, ho, hG j n cs (by have := (List.getElem?_eq_some_iff.1 hv).1; have := h.len; omega) hg⟩
theorem Ls.push {n : Nat} {cs : Array Value} {K : Option Addr → Nat → World → Prop} (h : Ls w T t G x) (hT : t ≠ T) (ho : Own w k cs t) (hg : G x.n n cs) (hn : n ≤ 9223372036854775807) (hxn : x.n ≤ 4398046511104)
    (hK : ∀ b' c' w', Ls w' T t G ⟨b', x.n + 1, c', x.vs ++ [.slice (some ⟨k, 0, none⟩) n n]⟩ → Ext (rowBlk x.b) w w' → (∀ y ∈ rowBlk b', y ∈ rowBlk x.b ∨ w.heap.size ≤ y) → K b' c' w') :
    New (.cells #[.slice (some ⟨k, 0, none⟩) n n] T) w fun nb w2 => Append T (.slice none 0 0) 1 24 x.b x.n x.c (some ⟨nb, 0, none⟩) 1 w2 K := by
  refine New.mk fun nb w2 hnb hs2 onb he2 => ?_
  have h2 := h.ext he2 (fun y hy => by cases hy)
  have ho2 := he2.own ho (by simp)
  have hlen := h.len
  refine Vc.Append.mk (e := T) (news := [.slice (some ⟨k, 0, none⟩) n n]) h2.row (CellsAt.own onb (fun j v hj => by simpa using hj)) rfl rfl rfl (by omega) (by omega) fun b' c' w3 hrow3 hE3 hb3 => ?_
  have t3 : Tys w2 (rowBlk x.b) [T] := Tys.row h2.row
  have hz := he2.size
  refine hK b' c' w3 ⟨hrow3, fun j v hv => ?_⟩ (he2.nil.trans hE3) (fun y hy => (hb3 y hy).imp id (fun z => by omega))
  have hv' : (x.vs ++ [Value.slice (some ⟨k, 0, none⟩) n n])[j]? = some v := hv
  by_cases hj : j < x.vs.length
  · rw [List.getElem?_append_left hj] at hv'
    obtain ⟨k', n', cs', e, hn', ho', hg'⟩ := h2.kep j v hv'
    exact ⟨k', n', cs', e, hn', ownT hE3 t3 ho' (by simpa using hT), hg'⟩
  · rw [List.getElem?_append_right (by omega)] at hv'
    have hj0 : j - x.vs.length = 0 := by
      cases hz : j - x.vs.length with
      | zero => rfl
      | succ q => rw [hz] at hv'; simp at hv'
    rw [hj0] at hv'
    simp at hv'
    have ej : j = x.n := by omega
    subst ej
    exact ⟨k, n, cs, hv'.symm, hn, ownT hE3 t3 ho2 (by simpa using hT), hg⟩
theorem InK_push {vs : List Value} {y n : Nat} (h : InK y (vs ++ [.slice (some ⟨k, 0, none⟩) n n])) : InK y vs ∨ y = k := by
  obtain ⟨n', c', hm⟩ := h
  rcases List.mem_append.1 hm with q | q
  · exact .inl ⟨n', c', q⟩
  · simp at q
    exact .inr q.1
end

/-! ### the stamps -/
def st8 (J : Int) : Int := IntKind.u8.wrap (BitVec.ofInt IntKind.u8.bits (IntKind.u8.wrap (J.tmod 256)) ^^^ BitVec.ofInt IntKind.u8.bits (165 : Int)).toNat
def stampV (j i : Nat) : Int := st8 (if i % 4 = 1 then ((j / 256 : Nat) : Int) else if i % 4 = 2 then ((j / 65536 : Nat) : Int) else if i % 4 = 3 then ((j / 16777216 : Nat) : Int) else (j : Int))
def tokV (j : Nat) : List Int := [stampV j 0, stampV j 1, stampV j 2, stampV j 3]
def GB (j n : Nat) (cs : Array Value) : Prop := cs = fnArr n fun i => .int .u8 (stampV j i)
def GI (j n : Nat) (cs : Array Value) : Prop := cs = ((List.replicate n (-1 - (j : Int))).map Sk.iv).toArray
def GO (tok : List Nat) (j n : Nat) (cs : Array Value) : Prop := ∀ i, i < n → cs[i]? = some (.slice (some ⟨tok.getD j 0, 0, none⟩) 4 4)

/-! ### the world's cells -/
structure LH where
  BH : Nat → HB
  BQ : Nat → HB
  H : Nat → HS
  J : Nat → HS
  qu : Bool
structure LR where
  wp : Nat
  W : List (FL × Nat)
  np : Nat
  N : List PEM
  del : Nat → Int
  sb : Nat → Option Addr
  sn : Nat → List Int
  sc : Nat → Nat
  rb : Option Addr
  rc : Nat
  R : List Wt
  I : KL
  O : KL
  M : KL
  tok : List Nat
  x : List (Nat × Array Value)
structure LC where
  calm : Int
  top : Nat → Int
  lost : Nat → Int
  out : Nat → Int
  tk : Int
  fl : Bool
  sp : Int
def pt (k : Nat) : Value := .pointer (some ⟨k, 0, none⟩)
def belowF (B : HB) (o : Nat) : Value := if o = 0 then pt B.lk else if o = 1 then pt B.ip else if o < 6 then pt (B.cx (o - 2)) else pt B.tb
def lawF (m : LH) (r : LR) (k : LC) (o : Nat) : Value :=
  if o < 3 then pt (m.BH o).hp
  else if o < 24 then belowF (m.BH ((o - 3) / 7)) ((o - 3) % 7)
  else if o < 27 then .pointer (if m.qu = true then some ⟨(m.BQ (o - 24)).hp, 0, none⟩ else none)
  else if o = 27 then .bool m.qu else if o = 28 then .int .i64 k.calm
  else if o = 29 then pt r.wp else if o = 30 then pt r.np
  else if o < 34 then .int .i64 (k.top (o - 31))
  else if o < 37 then .slice (r.sb (o - 34)) (r.sn (o - 34)).length (r.sc (o - 34))
  else if o < 40 then .int .i64 (k.lost (o - 37)) else if o < 43 then .int .i64 (k.out (o - 40))
  else if o = 43 then .int .i64 k.tk else if o = 44 then .bool k.fl else if o = 45 then .int .i64 k.sp
  else if o = 46 then .slice r.rb r.R.length r.rc else if o = 47 then r.I.val else if o = 48 then r.O.val else r.M.val
def wtC (r : Wt) : List Value := [.int .i64 (r.1 : Int), .int .i64 r.2.1, .int .i64 r.2.2]
theorem wtC_len (r : Wt) : (wtC r).length = 3 := rfl
abbrev T_mine : TypeId := 81
abbrev T_ints : TypeId := 46
abbrev T_outs : TypeId := 51

/-! ### the hosts -/
structure LHost (lo : Nat) (w : World) (m : LH) : Prop where
  H : ∀ c, c < 3 → HostAt w (m.BH c) (m.H c)
  J : m.qu = true → ∀ c, c < 3 → HostAt w (m.BQ c) (m.J c)
  dHH : ∀ c d, c < 3 → d < 3 → c ≠ d → ∀ y ∈ (m.BH c).all, y ∉ (m.BH d).all
  dQQ : m.qu = true → ∀ c d, c < 3 → d < 3 → c ≠ d → ∀ y ∈ (m.BQ c).all, y ∉ (m.BQ d).all
  dHQ : m.qu = true → ∀ c d, c < 3 → d < 3 → ∀ y ∈ (m.BH c).all, y ∉ (m.BQ d).all
  geH : ∀ c, c < 3 → ∀ y ∈ (m.BH c).all, lo ≤ y
  geQ : m.qu = true → ∀ c, c < 3 → ∀ y ∈ (m.BQ c).all, lo ≤ y
section
variable {lo : Nat} {w w' : World} {m : LH} {c : Nat} {h' : HS}
theorem HostAt.extT {B : HB} {h : HS} {ts : List TypeId} (k : HostAt w B h) (he : ExtT w w' ts) (ht : ∀ t ∈ hostTys, t ∉ ts) : HostAt w' B h := by
  obtain ⟨X, h1, h2⟩ := he
  exact k.keep h1 (k.notin h2 ht)
theorem LHost.extT {ts : List TypeId} (h : LHost lo w m) (he : ExtT w w' ts) (ht : ∀ t ∈ hostTys, t ∉ ts) : LHost lo w' m :=
  ⟨fun c hc => (h.H c hc).extT he ht, fun q c hc => (h.J q c hc).extT he ht, h.dHH, h.dQQ, h.dHQ, h.geH, h.geQ⟩
theorem LHost.ext0 (h : LHost lo w m) (he : Ext [] w w') : LHost lo w' m := h.extT (ExtT.nil he []) (fun t _ q => by cases q)
def LH.setH (m : LH) (c : Nat) (h' : HS) : LH := { m with H := updS m.H c h' }
def LH.setJ (m : LH) (c : Nat) (h' : HS) : LH := { m with J := updS m.J c h' }
theorem LHost.host (h : LHost lo w m) (hc : c < 3) (k : HostAt w' (m.BH c) h') (he : Ext (m.BH c).all w w') : LHost lo w' (m.setH c h') := by
  refine ⟨fun d hd => ?_, fun q d hd => ?_, h.dHH, h.dQQ, h.dHQ, h.geH, h.geQ⟩
  · show HostAt w' (m.BH d) (updS m.H c h' d)
    by_cases e : d = c
    · rw [e, updS_at]; exact k
    · rw [updS_ne e]; exact (h.H d hd).keep he (fun y hy => h.dHH d c hd hc e y hy)
  · exact (h.J q d hd).keep he (fun y hy hy2 => h.dHQ q c d hc hd y hy2 hy)
theorem LHost.twin (h : LHost lo w m) (hc : c < 3) (hq : m.qu = true) (k : HostAt w' (m.BQ c) h') (he : Ext (m.BQ c).all w w') : LHost lo w' (m.setJ c h') := by
  refine ⟨fun d hd => (h.H d hd).keep he (fun y hy => h.dHQ hq d c hd hc y hy), fun q d hd => ?_, h.dHH, h.dQQ, h.dHQ, h.geH, h.geQ⟩
  show HostAt w' (m.BQ d) (updS m.J c h' d)
  by_cases e : d = c
  · rw [e, updS_at]; exact k
  · rw [updS_ne e]; exact (h.J q d hd).keep he (fun y hy => h.dQQ hq d c hd hc e y hy)
end

/-! ### the rest -/
/-- Bytes that nobody may write. -/
def PU (r : LR) (k : Nat) : Prop := InK k r.M.vs ∨ k ∈ r.tok ∨ ∃ x ∈ r.N, k ∈ rowBlk x.sb ∨ k ∈ rowBlk x.rb
def U8F (r : LR) (k : Nat) : Prop := PU r k ∨ ∃ e ∈ r.W, e.2 = k
def F81 (r : LR) (k : Nat) : Prop := k ∈ rowBlk r.M.b ∨ InK k r.O.vs
def IF (r : LR) (k : Nat) : Prop := InK k r.I.vs ∨ ∃ c, c < 3 ∧ k ∈ rowBlk (r.sb c)
structure LRest (lo : Nat) (w : World) (r : LR) : Prop where
  W : WireAt lo w r.wp r.W
  N : NetAt lo w r.np r.N r.del
  sn : ∀ c, c < 3 → Row w (r.sb c) (r.sn c).length (r.sc c) 1 T_int ((r.sn c).map Sk.iv)
  R : Row w r.rb r.R.length r.rc 3 T_hostlaw_Waiting (r.R.flatMap wtC)
  I : Ls w T_ints T_int GI r.I
  M : Ls w T_mine T_uint8 GB r.M
  O : Ls w T_outs T_mine (GO r.tok) r.O
  tl : r.tok.length = r.O.n
  tok : ∀ j k, r.tok[j]? = some k → Bf w k (tokV j)
  sepW : ∀ e ∈ r.W, ¬ PU r e.2
  sepM : ∀ k ∈ rowBlk r.M.b, ¬ InK k r.O.vs
  geR : ∀ k ∈ rowBlk r.rb, lo ≤ k
  geI : ∀ k ∈ rowBlk r.I.b, lo ≤ k
  geM : ∀ k ∈ rowBlk r.M.b, lo ≤ k
  geO : ∀ k ∈ rowBlk r.O.b, lo ≤ k
  x : ∀ e ∈ r.x, Own w e.1 e.2 45
def restTys : List TypeId := [45, T_wirem_Wire, T_wirem_Flight, T_hostm_Net, T_hostm_End, T_hostlaw_Waiting, T_ints, T_outs]
section
variable {lo : Nat} {w w' : World} {r : LR} {k : Nat}
theorem LRest.u8 (h : LRest lo w r) (hk : U8F r k) : ∃ cs, Own w k cs T_uint8 := by
  rcases hk with (q | q | ⟨x, hx, q | q⟩) | ⟨e, he, rfl⟩
  · exact h.M.kep.own q
  · obtain ⟨j, hj⟩ := List.mem_iff_getElem?.1 q
    exact ⟨_, (h.tok j k hj).1⟩
  · exact (h.N.S x hx).row.ty q
  · exact (h.N.R x hx).row.ty q
  · exact ⟨_, (h.W.dat e he).1⟩
theorem LRest.t81 (h : LRest lo w r) (hk : F81 r k) : ∃ cs, Own w k cs T_mine := by
  rcases hk with q | q
  · exact h.M.row.ty q
  · exact h.O.kep.own q
theorem LRest.int (h : LRest lo w r) (hk : IF r k) : ∃ cs, Own w k cs T_int := by
  rcases hk with q | ⟨c, hc, q⟩
  · exact h.I.kep.own q
  · exact (h.sn c hc).ty q
theorem LRest.fresh (h : LRest lo w r) (hk : w.heap.size ≤ k) : ¬ U8F r k ∧ ¬ F81 r k ∧ ¬ IF r k :=
  ⟨fun q => by obtain ⟨_, ho⟩ := h.u8 q; have := ho.lt; omega, fun q => by obtain ⟨_, ho⟩ := h.t81 q; have := ho.lt; omega, fun q => by obtain ⟨_, ho⟩ := h.int q; have := ho.lt; omega⟩
theorem LRest.alien {cs : Array Value} {t : TypeId} (h : LRest lo w r) (ho : Own w k cs t) (ht : t ∉ [T_uint8, T_int, T_mine]) : ¬ U8F r k ∧ ¬ F81 r k ∧ ¬ IF r k := by
  refine ⟨fun q => ?_, fun q => ?_, fun q => ?_⟩
  · obtain ⟨_, o⟩ := h.u8 q; exact ht (by rw [(ho.unique o).2]; decide)
  · obtain ⟨_, o⟩ := h.t81 q; exact ht (by rw [(ho.unique o).2]; decide)
  · obtain ⟨_, o⟩ := h.int q; exact ht (by rw [(ho.unique o).2]; decide)
/-- What is written is none of the law's. -/
theorem LRest.keep {Y : List Nat} (h : LRest lo w r) (he : Ext Y w w') (hY : ∀ y ∈ Y, y < w.heap.size → (∃ cs t, Own w y cs t ∧ t ∉ restTys) ∧ ¬ U8F r y ∧ ¬ F81 r y ∧ ¬ IF r y) : LRest lo w' r := by
  have own : ∀ {b : Nat} {c : Array Value} {t : TypeId}, Own w b c t → t ∈ restTys → Own w' b c t := fun ho ht => he.own ho fun q => by
    obtain ⟨⟨cs, t, o, hn⟩, _⟩ := hY _ q ho.lt
    rw [← (ho.unique o).2] at hn
    exact hn ht
  have row : ∀ {b : Option Addr} {l c sz : Nat} {t : TypeId} {vs : List Value}, Row w b l c sz t vs → t ∈ restTys → Row w' b l c sz t vs := fun hr ht => hr.ext he fun y hy q => by
    obtain ⟨⟨cs, t, o, hn⟩, _⟩ := hY _ q (hr.lt y hy)
    obtain ⟨cs', o'⟩ := hr.ty hy
    rw [← (o'.unique o).2] at hn
    exact hn ht
  have u8 : ∀ {y : Nat}, U8F r y → y ∉ Y := fun q hy => by
    obtain ⟨_, ho⟩ := h.u8 q
    exact (hY _ hy ho.lt).2.1 q
  have bytes : ∀ {b : Option Addr} {c : Nat} {v : List Int}, BytesAt w b c v → (∀ y ∈ rowBlk b, U8F r y) → BytesAt w' b c v := fun hb q => ⟨hb.row.ext he fun y hy => u8 (q y hy), hb.isB⟩
  obtain ⟨b, l, c, o, rr⟩ := h.W.ex
  obtain ⟨b2, l2, c2, o2, rr2⟩ := h.N.ex
  refine ⟨⟨⟨b, l, c, own o (by decide), row rr (by decide)⟩, fun e hm => (h.W.dat e hm).ext he (u8 (.inr ⟨e, hm, rfl⟩)), h.W.nd, h.W.len, h.W.ge.same o (own o (by decide)), h.W.geD⟩,
    ⟨⟨b2, l2, c2, own o2 (by decide), row rr2 (by decide)⟩, fun x hx => bytes (h.N.S x hx) fun y hy => .inl (.inr (.inr ⟨x, hx, .inl hy⟩)), fun x hx => bytes (h.N.R x hx) fun y hy => .inl (.inr (.inr ⟨x, hx, .inr hy⟩)), h.N.ge.same o2 (own o2 (by decide))⟩,
    fun c hc => (h.sn c hc).ext he fun y hy q => (hY y q ((h.sn c hc).lt y hy)).2.2.2 (.inr ⟨c, hc, hy⟩), row h.R (by decide),
    h.I.ext he fun y hy hl q => ?_, h.M.ext he fun y hy hl q => ?_, h.O.ext he fun y hy hl q => ?_, h.tl, fun j k hj => (h.tok j k hj).ext he (u8 (.inl (.inr (.inl (List.mem_of_getElem? hj))))), h.sepW, h.sepM, h.geR, h.geI, h.geM, h.geO, fun e he => own (h.x e he) (by decide)⟩
  · rcases q with q | q
    · obtain ⟨cs, o⟩ := h.I.row.ty q
      obtain ⟨⟨cs', t, o', hn⟩, _⟩ := hY y hy hl
      rw [← (o.unique o').2] at hn
      exact hn (by decide)
    · exact (hY y hy hl).2.2.2 (.inl q)
  · rcases q with q | q
    · exact (hY y hy hl).2.2.1 (.inl q)
    · exact (hY y hy hl).2.1 (.inl (.inl q))
  · rcases q with q | q
    · obtain ⟨cs, o⟩ := h.O.row.ty q
      obtain ⟨⟨cs', t, o', hn⟩, _⟩ := hY y hy hl
      rw [← (o.unique o').2] at hn
      exact hn (by decide)
    · exact (hY y hy hl).2.2.1 (.inr q)
theorem LRest.extT {ts : List TypeId} (h : LRest lo w r) (he : ExtT w w' ts) (ht : ∀ t ∈ ts, t ∉ restTys ∧ t ∉ [T_uint8, T_int, T_mine]) : LRest lo w' r := by
  obtain ⟨Y, he, hY⟩ := he
  refine h.keep he fun y hy hl => ?_
  obtain ⟨cs, t, o, hm⟩ := hY y hy hl
  exact ⟨⟨cs, t, o, (ht t hm).1⟩, h.alien o (ht t hm).2⟩
theorem LRest.ext0 (h : LRest lo w r) (he : Ext [] w w') : LRest lo w' r := h.keep he (fun y hy => by cases hy)
end
end Go.Proofs.Qxb6500424aGreat
