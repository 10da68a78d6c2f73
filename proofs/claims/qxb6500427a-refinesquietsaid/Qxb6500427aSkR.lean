/-
  socklaw: the desk; SameInts and Untouched; the steps played on both sides.
-/
import Derived.Test.Qxb6500427aSkQ
import Derived.Test.Qxb6500427aVcG
set_option linter.unusedVariables false
set_option linter.unusedSimpArgs false
open Go.Vc
namespace Go.Proofs.Qxb6500427a

/-- The blocks of X are of the types ts. -/
def Tys (w : World) (X : List Nat) (ts : List TypeId) : Prop := ∀ k ∈ X, k < w.heap.size → ∃ cs t, Own w k cs t ∧ t ∈ ts
theorem ownT {w w' : World} {X : List Nat} {ts : List TypeId} {b : Nat} {c : Array Value} {t : TypeId} (he : Ext X w w') (hX : Tys w X ts) (h : Own w b c t) (ht : t ∉ ts) : Own w' b c t :=
  he.own h fun hb => by
    obtain ⟨cs, t', ho, ht'⟩ := hX b hb h.lt
    rw [(h.unique ho).2] at ht
    exact ht ht'
theorem RAt.extT {w w' : World} {X : List Nat} {ts : List TypeId} {x : Nat} {S : SkS} (h : RAt w x S) (he : Ext X w w') (hX : Tys w X ts) (ht : T_sock_Table ∉ ts) : RAt w' x S := by
  obtain ⟨T, F, C, occ, h1, h2⟩ := h
  exact ⟨T, F, C, occ, ownT he hX h1 ht, h2⟩
theorem rowT {w w' : World} {X : List Nat} {ts : List TypeId} {b : Option Addr} {l c sz : Nat} {t : TypeId} {vs : List Value} (h : Vc.Row w b l c sz t vs) (he : Ext X w w') (hX : Tys w X ts) (ht : t ∉ ts) : Vc.Row w' b l c sz t vs := by
  refine ⟨h.1, h.2.1, ?_⟩
  rcases h.2.2 with q | ⟨k, cs, rfl, ho, hr⟩
  · exact .inl q
  · exact .inr ⟨k, cs, rfl, ownT he hX ho ht, hr⟩
theorem MC.extT {w w' : World} {X : List Nat} {ts : List TypeId} {m : Nat} {rb : Option Addr} {rl rc : Nat} {S : SkS} (h : MC w m rb rl rc S) (he : Ext X w w') (hX : Tys w X ts) (h1 : T_sockm_Table ∉ ts) (h2 : T_sockm_row ∉ ts) : MC w' m rb rl rc S :=
  ⟨ownT he hX h.own h1, rowT h.row he hX h2⟩
theorem RAt.tys {w : World} {x : Nat} {S : SkS} (h : RAt w x S) : Tys w [x] [T_sock_Table] := fun k hk _ => by
  simp at hk
  subst hk
  obtain ⟨T, F, C, occ, h1, h2⟩ := h
  exact ⟨_, _, h1, by simp⟩
theorem MC.tys {w : World} {m : Nat} {rb : Option Addr} {rl rc : Nat} {S : SkS} (h : MC w m rb rl rc S) : Tys w (m :: rowBlk rb) [T_sockm_Table, T_sockm_row] := fun k hk _ => by
  rcases List.mem_cons.1 hk with rfl | hk
  · exact ⟨_, _, h.own, by simp⟩
  · obtain ⟨cs, ho⟩ := h.row.ty hk
    exact ⟨_, _, ho, by simp⟩
/-- The kept lists bear their stamps. -/
def KI (w : World) (vs : List Value) : Prop := ∀ (j : Nat) (v : Value), vs[j]? = some v → ∃ k n, v = .slice (some ⟨k, 0, none⟩) n n ∧ n ≤ 1000 ∧ IAt w k (List.replicate n (-1 - (j : Int)))
theorem KI.extT {w w' : World} {X : List Nat} {ts : List TypeId} {vs : List Value} (h : KI w vs) (he : Ext X w w') (hX : Tys w X ts) (ht : T_int ∉ ts) : KI w' vs := fun j v hv => by
  obtain ⟨k, n, e, hn, ho⟩ := h j v hv
  exact ⟨k, n, e, hn, ownT he hX ho ht⟩
theorem KI.fresh {w : World} {vs : List Value} (h : KI w vs) {r : Nat} (hr : w.heap.size ≤ r) : KeptNot r vs := fun b n c hv e => by
  obtain ⟨j, hj⟩ := List.getElem?_of_mem hv
  obtain ⟨k, n', e', _, ho⟩ := h j _ hj
  simp only [Value.slice.injEq, Option.some.injEq, Addr.mk.injEq, and_true] at e'
  have := ho.lt
  omega
def dArr (x m : Nat) (kb : Option Addr) (kn kc : Nat) : Array Value := #[.pointer (some ⟨x, 0, none⟩), .pointer (some ⟨m, 0, none⟩), .slice kb kn kc]
structure DK (w : World) (d x m : Nat) (rb : Option Addr) (rl rc : Nat) (S : SkS) (kb : Option Addr) (kn kc : Nat) (vs : List Value) : Prop where
  own : Own w d (dArr x m kb kn kc) T_socklaw_Desk
  re : RAt w x S
  md : MC w m rb rl rc S
  ok : SkOk S
  krow : Vc.Row w kb kn kc 1 53 vs
  kept : KI w vs
def ISafe (w w' : World) : Prop := ∀ k cs, Own w k cs T_int → Own w' k cs T_int
theorem ISafe.refl (w : World) : ISafe w w := fun _ _ h => h
theorem ISafe.trans {w w' w'' : World} (h : ISafe w w') (h' : ISafe w' w'') : ISafe w w'' := fun k cs ho => h' k cs (h k cs ho)
theorem ISafe.ext0 {w w' : World} (he : Ext [] w w') : ISafe w w' := fun k cs ho => he.own ho (by simp)
section
variable {w0 w : World} {d x m : Nat} {rb : Option Addr} {rl rc : Nat} {S : SkS} {kb : Option Addr} {kn kc : Nat} {vs : List Value} {N : Nat}
theorem DK.ext0 {w' : World} (h : DK w d x m rb rl rc S kb kn kc vs) (he : Ext [] w w') : DK w' d x m rb rl rc S kb kn kc vs :=
  ⟨he.own h.own (by simp), h.re.ext0 he, h.md.ext0 he, h.ok, h.krow.ext he (fun _ _ h => by cases h), h.kept.extT he (ts := []) (fun k hk => by cases hk) (by simp)⟩
theorem DK.out (h : DK w d x m rb rl rc S kb kn kc vs) : d ∉ rowBlk kb := fun hx => by
  obtain ⟨_, ho'⟩ := h.krow.ty hx
  exact Own.ne_type h.own ho' (by decide) rfl
theorem DK.kl (h : DK w d x m rb rl rc S kb kn kc vs) : vs.length = kn := by have := h.krow.1; omega
theorem DK.ldX {K : Option Addr → Prop} (h : DK w d x m rb rl rc S kb kn kc vs) (hk : K (some ⟨x, 0, none⟩)) : LdP ⟨d, 0, none⟩ w K := LdP.mk h.own rfl hk
theorem DK.ldM {K : Option Addr → Prop} (h : DK w d x m rb rl rc S kb kn kc vs) (hk : K (some ⟨m, 0, none⟩)) : LdP (Addr.add ⟨d, 0, none⟩ 1) w K := by
  rw [add_mk]
  exact LdP.mk h.own rfl hk
theorem DK.ldK {K : Option Addr → Nat → Nat → Prop} (h : DK w d x m rb rl rc S kb kn kc vs) (hk : K kb kn kc) : LdL (Addr.add ⟨d, 0, none⟩ 2) w K := by
  rw [add_mk]
  exact LdL.mk h.own rfl hk
theorem sameInts_ok {r : Nat} {L : List Int} {bb : Option Addr} {bc : Nat} {R : Bool → World → Prop} (h : DK w d x m rb rl rc S kb kn kc vs) (ha : IAt w r L) (hL : L.length ≤ 100) (hb : IRow w bb L.length bc L) (hbr : r ∉ rowBlk bb) (hkn : KeptNot r vs) (hN : kn ≤ 1000000000)
    (hR : ∀ kb' kn' kc' vs' w', DK w' d x m rb rl rc S kb' kn' kc' vs' → kn' ≤ kn + 1 → Ext (r :: d :: rowBlk kb) w w' → (∀ k ∈ rowBlk kb', k ∈ rowBlk kb ∨ w.heap.size ≤ k) → R true w') :
    socklaw_SameInts.Call (some ⟨d, 0, none⟩) (some ⟨r, 0, none⟩) L.length L.length bb L.length bc w R := by
  apply socklaw_SameInts.sound
  unfold socklaw_SameInts.B0
  refine Bm.neg (by simp) ?_
  unfold socklaw_SameInts.B1
  refine Bm.neg (by simp) (Pn.mk (h.ldK ?_))
  have hkl := h.kl
  have rd : r ≠ d := fun e => by subst e; exact Own.ne_type ha h.own (by decide) rfl
  have rk : r ∉ rowBlk kb := fun hx => by
    obtain ⟨_, ho'⟩ := h.krow.ty hx
    exact Own.ne_type ha ho' (by decide) rfl
  have trs : Tys w [r] [T_int] := fun k hk _ => by simp at hk; subst hk; exact ⟨_, _, ha, by simp⟩
  unfold socklaw_SameInts.L1
  refine ⟨fun mm d' ab al ac bb' bl bc' j i w' => ∃ n : Nat, n ≤ L.length ∧ mm = L.length - n ∧ some ⟨d, 0, none⟩ = d' ∧ some ⟨r, 0, none⟩ = ab ∧ L.length = al ∧ L.length = ac ∧ bb = bb' ∧ L.length = bl ∧ bc = bc' ∧ ((kn : Nat) : Int) = j ∧ i = (n : Int) ∧ IAt w' r (List.replicate n (-1 - (kn : Int)) ++ L.drop n) ∧ Ext [r] w w', _,
    ⟨0, by omega, rfl, rfl, rfl, rfl, rfl, rfl, rfl, rfl, rfl, rfl, by simpa using ha, Ext.refl _ _⟩, ?_⟩
  rintro mm d' ab al ac bb' bl bc' j i w' ⟨n, hn, rfl, rfl, rfl, rfl, rfl, rfl, rfl, rfl, rfl, rfl, ha', he'⟩
  unfold socklaw_SameInts.L1b
  refine Bm.ite (fun hlt => ?_) fun hge => ?_
  · obtain ⟨c, hc⟩ := get_lt (L := L) (n := n) (by omega)
    have hnl := (List.getElem?_eq_some_iff.1 hc).1
    have ha'd : IAt w'.drew r (List.replicate n (-1 - (kn : Int)) ++ L.drop n) := ha'
    have hc' : (List.replicate n (-1 - (kn : Int)) ++ L.drop n)[n]? = some c := by
      rw [List.getElem?_append_right (by simp)]
      simp [hc]
    have hb' := (hb.ext he' (fun k hk hx => by simp at hx; subst hx; exact hbr hk)).ext (Ext.drew [] _) (fun _ _ h => by cases h)
    obtain ⟨k, ek, cs, ho, hcs⟩ := hb'.at (i := n) (by omega) (by omega)
    subst ek
    refine Pn.mk ⟨⟨by omega, by omega⟩, ha'd.ld (addr_k r n) hc' (Pn.mk ⟨⟨by omega, by omega⟩, ?_⟩)⟩
    rw [addr_k]
    refine LdI.mk ho (n := c) (by
      have := hcs 0 (by omega)
      simp only [Nat.mul_one, Nat.add_zero] at this
      rw [this, List.getElem?_map, hc]
      rfl) (Bm.neg (by simp) (Pn.mk ⟨⟨by omega, by omega⟩, ?_⟩))
    rw [w64 (by omega) (by omega)]
    refine ha'd.st (addr_k r n) (by simp; omega) fun w2 hs2 o2 he2 => ⟨L.length - (n + 1), by omega, n + 1, by omega, rfl, rfl, rfl, rfl, rfl, rfl, rfl, rfl, rfl, by rw [w64 (by omega) (by omega)]; omega, ?_, (he'.trans (Ext.drew _ _)).trans he2⟩
    rw [List.set_append_right _ _ (by simp), List.length_replicate, Nat.sub_self, List.drop_eq_getElem_cons hnl, List.set_cons_zero] at o2
    rw [List.replicate_succ', List.append_assoc]
    exact o2
  · have en : n = L.length := by omega
    subst en
    rw [List.drop_of_length_le (Nat.le_refl _), List.append_nil] at ha'
    have own' := he'.own h.own (by simp; omega)
    have kept' : KI w' vs := fun j v hv => by
      obtain ⟨k, n', e, hn', ho⟩ := h.kept j v hv
      refine ⟨k, n', e, hn', he'.own ho ?_⟩
      simp
      exact hkn k n' n' (by rw [← e]; exact List.mem_of_getElem? hv)
    have h' : DK w' d x m rb rl rc S kb kn kc vs := ⟨own', h.re.extT he' trs (by decide), h.md.extT he' trs (by decide) (by decide), h.ok, h.krow.ext he' (fun k hk hx => by simp at hx; subst hx; exact rk hk), kept'⟩
    have hs' := he'.size
    refine Bm.ite (fun hpos => Pn.mk (h'.ldK (New.mk fun nb w2 hnb hs2 onb he2 => ?_))) fun hpos => ?_
    · have h2 := h'.ext0 he2
      refine Vc.Append.mk (news := [.slice (some ⟨r, 0, none⟩) L.length L.length]) h2.krow (CellsAt.own onb (fun j v hj => by simpa using hj)) rfl rfl rfl (by omega) (by omega) fun lb' lc' w3 hrow3 hE3 hb3 => Pn.mk ?_
      have t3 : Tys w2 (rowBlk kb) [53] := fun k hk _ => by
        obtain ⟨cs, ho⟩ := h2.krow.ty hk
        exact ⟨_, _, ho, by simp⟩
      have own3 := ownT hE3 t3 h2.own (by decide)
      rw [add_mk, Nat.zero_add]
      refine Sts.mk own3 (by simp [dArr]) rfl fun w4 hs4 o4 he4 => ?_
      have t4 : Tys w3 [d] [T_socklaw_Desk] := fun k hk _ => by simp at hk; subst hk; exact ⟨_, _, own3, by simp⟩
      have ar4 : IAt w4 r (List.replicate L.length (-1 - (kn : Int))) := ownT he4 t4 (ownT hE3 t3 (he2.own ha' (by simp)) (by decide)) (by decide)
      have krow4 := rowT hrow3 he4 t4 (by decide)
      refine hR lb' (kn + 1) lc' (vs ++ [.slice (some ⟨r, 0, none⟩) L.length L.length]) w4 ⟨o4, (h2.re.extT hE3 t3 (by decide)).extT he4 t4 (by decide), (h2.md.extT hE3 t3 (by decide) (by decide)).extT he4 t4 (by decide) (by decide), h.ok, krow4, fun j v hv => ?_⟩ (Nat.le_refl _) ?_ fun k hk => ?_
      · by_cases hj : j < vs.length
        · rw [List.getElem?_append_left hj] at hv
          obtain ⟨k, n', e, hn', ho⟩ := h2.kept j v hv
          exact ⟨k, n', e, hn', ownT he4 t4 (ownT hE3 t3 ho (by decide)) (by decide)⟩
        · rw [List.getElem?_append_right (by omega)] at hv
          have hj0 : j - vs.length = 0 := by
            cases hz : j - vs.length with
            | zero => rfl
            | succ q => rw [hz] at hv; simp at hv
          rw [hj0] at hv
          simp at hv
          have ej : j = kn := by omega
          subst ej
          exact ⟨r, L.length, hv.symm, by omega, ar4⟩
      · have f1 : Ext (r :: d :: rowBlk kb) w w2 := (he'.mono (fun x hx _ => by simp at hx; simp [hx])).trans he2.nil
        exact (f1.trans (hE3.mono (fun x hx _ => by simp [hx]))).trans (he4.mono (fun x hx _ => by simp at hx; simp [hx]))
      · rcases hb3 k hk with q | q
        · exact .inl q
        · have := he2.size; exact .inr (by omega)
    · exact hR kb kn kc vs w' h' (by omega) (he'.mono (fun x hx _ => by simp at hx; simp [hx])) fun k hk => .inl hk
theorem untouched_ok {R : Bool → World → Prop} (h : DK w d x m rb rl rc S kb kn kc vs) (hN : kn ≤ 1000000000) (hR : R true w) : socklaw_Untouched.Call (some ⟨d, 0, none⟩) w R := by
  apply socklaw_Untouched.sound
  unfold socklaw_Untouched.B0 socklaw_Untouched.L1
  have hkl := h.kl
  refine ⟨fun mm d' j w' => ∃ n : Nat, n ≤ kn ∧ mm = kn - n ∧ some ⟨d, 0, none⟩ = d' ∧ j = (n : Int) ∧ w = w', _, ⟨0, by omega, rfl, rfl, rfl, rfl⟩, ?_⟩
  rintro mm d' j w' ⟨n, hn, rfl, rfl, rfl, rfl⟩
  unfold socklaw_Untouched.L1b
  refine Pn.mk (h.ldK (Bm.ite (fun hlt => ?_) fun hge => hR))
  obtain ⟨v, hv⟩ := get_lt (L := vs) (n := n) (by omega)
  obtain ⟨k, q, e, hq, ho⟩ := h.kept n v hv
  subst e
  unfold socklaw_Untouched.L2
  refine ⟨fun mm d' j i w' => ∃ p : Nat, p ≤ q ∧ mm = q - p ∧ some ⟨d, 0, none⟩ = d' ∧ (n : Int) = j ∧ i = (p : Int) ∧ w = w', _, ⟨0, by omega, rfl, rfl, rfl, rfl, rfl⟩, ?_⟩
  rintro mm d' j i w' ⟨p, hp, rfl, rfl, rfl, rfl, rfl⟩
  have ld : ∀ {K : Option Addr → Nat → Nat → Prop}, K (some ⟨k, 0, none⟩) q q → Pn (some ⟨d, 0, none⟩) fun a => LdL (a.add 2) w fun b l c => Pn b fun a1 => (0 ≤ (n : Int) ∧ (n : Int) < ((l : Nat) : Int)) ∧ LdL (Addr.add a1 ((n : Int).toNat * 1)) w K := fun hK =>
    KL.ld (x := ⟨kb, kn, kc, vs⟩) h.own rfl h.krow (by omega) (by rw [Int.toNat_natCast]; exact hv) hK
  unfold socklaw_Untouched.L2b
  refine ld (Bm.ite (fun hlt2 => ld (Pn.mk ⟨⟨by omega, by omega⟩, ho.ld (addr_k k p) (x := -1 - (n : Int)) ?_ ?_⟩)) fun hge2 => ?_)
  · rw [List.getElem?_replicate, if_pos (by omega)]
  · rw [w64 (by omega) (by omega)]
    exact Bm.neg (by simp) ⟨q - (p + 1), by omega, p + 1, by omega, rfl, rfl, rfl, by rw [w64 (by omega) (by omega)]; omega, rfl⟩
  · exact ⟨kn - (n + 1), by omega, n + 1, by omega, rfl, rfl, by rw [w64 (by omega) (by omega)]; omega, rfl⟩
/-! ### the desk as the walk has it -/
def DX (w0 w : World) (d x m : Nat) (S : SkS) (N : Nat) : Prop :=
  ∃ rb rl rc kb kn kc vs, DK w d x m rb rl rc S kb kn kc vs ∧ kn ≤ N ∧ (∀ k ∈ d :: x :: m :: (rowBlk rb ++ rowBlk kb), w0.heap.size ≤ k) ∧ Ext [] w0 w
theorem DX.ext0 {w' : World} (h : DX w0 w d x m S N) (he : Ext [] w w') : DX w0 w' d x m S N := by
  obtain ⟨rb, rl, rc, kb, kn, kc, vs, h1, h2, h3, h4⟩ := h
  exact ⟨rb, rl, rc, kb, kn, kc, vs, h1.ext0 he, h2, h3, h4.trans he⟩
theorem DX.mono {N' : Nat} (h : DX w0 w d x m S N) (hn : N ≤ N') : DX w0 w d x m S N' := by
  obtain ⟨rb, rl, rc, kb, kn, kc, vs, h1, h2, h3, h4⟩ := h
  exact ⟨rb, rl, rc, kb, kn, kc, vs, h1, by omega, h3, h4⟩
/-- A step played on both sides. -/
theorem DX.both {S' : SkS} (h : DX w0 w d x m S N) (hS' : SkOk S') : ∃ rb rl rc, MC w m rb rl rc S ∧ RAt w x S ∧ SkOk S ∧ ∀ w1, RAt w1 x S' → Ext [x] w w1 → MC w1 m rb rl rc S ∧
    ∀ rb' rl' rc' w2, MC w2 m rb' rl' rc' S' → Ext (m :: rowBlk rb) w1 w2 → (∀ k ∈ rowBlk rb', k ∈ rowBlk rb ∨ w1.heap.size ≤ k) → DX w0 w2 d x m S' N := by
  obtain ⟨rb, rl, rc, kb, kn, kc, vs, h1, h2, h3, h4⟩ := h
  refine ⟨rb, rl, rc, h1.md, h1.re, h1.ok, fun w1 hr1 he1 => ?_⟩
  have t1 := h1.re.tys
  have m1 := h1.md.extT he1 t1 (by decide) (by decide)
  refine ⟨m1, fun rb' rl' rc' w2 hm2 he2 hb2 => ?_⟩
  have t2 := m1.tys
  have s4 := h4.size
  have s1 := he1.size
  refine ⟨rb', rl', rc', kb, kn, kc, vs, ⟨ownT he2 t2 (ownT he1 t1 h1.own (by decide)) (by decide), hr1.extT he2 t2 (by decide), hm2, hS', rowT (rowT h1.krow he1 t1 (by decide)) he2 t2 (by decide), (h1.kept.extT he1 t1 (by decide)).extT he2 t2 (by decide)⟩, h2, fun k hk => ?_, ?_⟩
  · simp only [List.mem_cons, List.mem_append] at hk h3
    rcases hk with q | q | q | q | q
    · exact h3 k (.inl q)
    · exact h3 k (.inr (.inl q))
    · exact h3 k (.inr (.inr (.inl q)))
    · rcases hb2 k q with q | q
      · exact h3 k (.inr (.inr (.inr (.inl q))))
      · omega
    · exact h3 k (.inr (.inr (.inr (.inr q))))
  · have e1 := h4.trans' he1 (fun k hk hlt => by
      simp at hk
      have := h3 x (by simp)
      omega)
    refine e1.trans' he2 (fun k hk hlt => ?_)
    have := h3 k (by simp only [List.mem_cons, List.mem_append] at hk ⊢; rcases hk with q | q; exact .inr (.inr (.inl q)); exact .inr (.inr (.inr (.inl q))))
    omega
theorem sameListen_ok {p : Int} {R : Bool → World → Prop} (h : DX w0 w d x m S N) (hb : S.nsd ≤ 4611686018427387904) (hR : ∀ w', DX w0 w' d x m (listenA p S).2 N → R true w') : socklaw_SameListen.Call (some ⟨x, 0, none⟩) (some ⟨m, 0, none⟩) p w R := by
  apply socklaw_SameListen.sound
  unfold socklaw_SameListen.B0
  have hok : SkOk S := by obtain ⟨_, _, _, _, _, _, _, h1, _⟩ := h; exact h1.ok
  obtain ⟨rb, rl, rc, hm, hr, _, next⟩ := h.both (listenA_ok hok p)
  refine realListen_ok hr hok hb fun w1 h1 he1 => ?_
  obtain ⟨m1, fin⟩ := next w1 h1 he1
  refine modListen_ok m1 hok hb fun rb' rl' rc' w2 h2 he2 hb2 => Bm.pos (by simp) ?_
  rw [beq_self_eq_true]
  exact hR w2 (fin rb' rl' rc' w2 h2 he2 hb2)
theorem sameConnect_ok {rh rp : Int} {R : Bool → World → Prop} (h : DX w0 w d x m S N) (hb : S.nsd ≤ 4611686018427387904) (hR : ∀ w', DX w0 w' d x m (connectA rh rp S).2 N → R true w') : socklaw_SameConnect.Call (some ⟨x, 0, none⟩) (some ⟨m, 0, none⟩) rh rp w R := by
  apply socklaw_SameConnect.sound
  unfold socklaw_SameConnect.B0
  have hok : SkOk S := by obtain ⟨_, _, _, _, _, _, _, h1, _⟩ := h; exact h1.ok
  obtain ⟨rb, rl, rc, hm, hr, _, next⟩ := h.both (connectA_ok hok rh rp)
  refine realConnect_ok hr hok hb fun w1 h1 he1 => ?_
  obtain ⟨m1, fin⟩ := next w1 h1 he1
  refine modConnect_ok m1 hok hb fun rb' rl' rc' w2 h2 he2 hb2 => Bm.pos (by simp) ?_
  rw [beq_self_eq_true]
  exact hR w2 (fin rb' rl' rc' w2 h2 he2 hb2)
theorem sameChild_ok {lp rh rp : Int} {R : Bool → World → Prop} (h : DX w0 w d x m S N) (hb : S.nsd ≤ 4611686018427387904) (hR : ∀ w', DX w0 w' d x m (childA lp rh rp S).2 N → R true w') : socklaw_SameChild.Call (some ⟨x, 0, none⟩) (some ⟨m, 0, none⟩) lp rh rp w R := by
  apply socklaw_SameChild.sound
  unfold socklaw_SameChild.B0
  have hok : SkOk S := by obtain ⟨_, _, _, _, _, _, _, h1, _⟩ := h; exact h1.ok
  obtain ⟨rb, rl, rc, hm, hr, _, next⟩ := h.both (childA_ok hok lp rh rp)
  refine realChild_ok hr hok hb fun w1 h1 he1 => ?_
  obtain ⟨m1, fin⟩ := next w1 h1 he1
  refine modChild_ok m1 hok hb fun rb' rl' rc' w2 h2 he2 hb2 => Bm.pos (by simp) ?_
  rw [beq_self_eq_true]
  exact hR w2 (fin rb' rl' rc' w2 h2 he2 hb2)
theorem sameReady_ok {sd : Int} {R : Bool → World → Prop} (h : DX w0 w d x m S N) (hb : S.tick ≤ 1000000000) (hR : ∀ w', DX w0 w' d x m (readyA sd S).2 N → R true w') : socklaw_SameReady.Call (some ⟨x, 0, none⟩) (some ⟨m, 0, none⟩) sd w R := by
  apply socklaw_SameReady.sound
  unfold socklaw_SameReady.B0
  have hok : SkOk S := by obtain ⟨_, _, _, _, _, _, _, h1, _⟩ := h; exact h1.ok
  obtain ⟨rb, rl, rc, hm, hr, _, next⟩ := h.both (readyA_ok hok sd)
  refine realReady_ok hr hok fun w1 h1 he1 => ?_
  obtain ⟨m1, fin⟩ := next w1 h1 he1
  refine modReady_ok m1 hok hb fun rb' rl' rc' w2 h2 he2 hb2 => ?_
  rw [beq_self_eq_true]
  exact hR w2 (fin rb' rl' rc' w2 h2 he2 hb2)
theorem sameAccept_ok {sd : Int} {R : Bool → World → Prop} (h : DX w0 w d x m S N) (hR : ∀ w', DX w0 w' d x m (acceptA sd S).2 N → R true w') : socklaw_SameAccept.Call (some ⟨x, 0, none⟩) (some ⟨m, 0, none⟩) sd w R := by
  apply socklaw_SameAccept.sound
  unfold socklaw_SameAccept.B0
  have hok : SkOk S := by obtain ⟨_, _, _, _, _, _, _, h1, _⟩ := h; exact h1.ok
  obtain ⟨rb, rl, rc, hm, hr, _, next⟩ := h.both (acceptA_ok hok sd)
  refine realAccept_ok hr hok fun w1 h1 he1 => ?_
  obtain ⟨m1, fin⟩ := next w1 h1 he1
  refine modAccept_ok m1 hok fun rb' rl' rc' w2 h2 he2 hb2 => Bm.pos (by simp) ?_
  rw [beq_self_eq_true]
  exact hR w2 (fin rb' rl' rc' w2 h2 he2 hb2)
theorem sameFree_ok {sd : Int} {R : Bool → World → Prop} (h : DX w0 w d x m S N) (hR : ∀ w', DX w0 w' d x m (freeA sd S).2 N → R true w') : socklaw_SameFree.Call (some ⟨x, 0, none⟩) (some ⟨m, 0, none⟩) sd w R := by
  apply socklaw_SameFree.sound
  unfold socklaw_SameFree.B0
  have hok : SkOk S := by obtain ⟨_, _, _, _, _, _, _, h1, _⟩ := h; exact h1.ok
  obtain ⟨rb, rl, rc, hm, hr, _, next⟩ := h.both (freeA_ok hok sd)
  refine realFree_ok hr hok fun w1 h1 he1 => ?_
  obtain ⟨m1, fin⟩ := next w1 h1 he1
  refine modFreeC_ok m1 hok fun rb' rl' rc' w2 h2 he2 hb2 => ?_
  rw [beq_self_eq_true]
  exact hR w2 (fin rb' rl' rc' w2 h2 he2 hb2)
end
end Go.Proofs.Qxb6500427a
