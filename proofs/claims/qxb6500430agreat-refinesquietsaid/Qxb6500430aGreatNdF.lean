/-
  node: the real node's steps.
-/
import Derived.Test.Qxb6500430aGreatNdE
set_option linter.unusedVariables false
set_option linter.unusedSimpArgs false
open Go.Vc
namespace Go.Proofs.Qxb6500430aGreat
open Kv
/-- Only blocks from lo on are changed. -/
def Above (lo : Nat) (w w' : World) : Prop := ∃ Z, Ext Z w w' ∧ ∀ k ∈ Z, lo ≤ k
theorem Above.of0 {lo : Nat} {w w' : World} (he : Ext [] w w') : Above lo w w' := ⟨[], he, fun k hk => by cases hk⟩
theorem Above.of {lo : Nat} {w w' : World} {Z : List Nat} (he : Ext Z w w') (hz : ∀ k ∈ Z, lo ≤ k) : Above lo w w' := ⟨Z, he, hz⟩
theorem Above.trans {lo : Nat} {w w' w'' : World} (h : Above lo w w') (h' : Above lo w' w'') : Above lo w w'' := by
  obtain ⟨Z, e, z⟩ := h
  obtain ⟨Z', e', z'⟩ := h'
  refine ⟨Z ++ Z', (e.mono fun k hk _ => List.mem_append.2 (.inl hk)).trans (e'.mono fun k hk _ => List.mem_append.2 (.inr hk)), fun k hk => ?_⟩
  rcases List.mem_append.1 hk with y | y
  · exact z k y
  · exact z' k y
theorem Above.base {w0 w w' : World} (h : Ext [] w0 w) (ha : Above w0.heap.size w w') : Ext [] w0 w' := by
  obtain ⟨Z, e, z⟩ := ha
  exact h.trans' e (fun k hk hl => by have := z k hk; omega)
/-- A frame: by type and by age. -/
structure Fr (ts : List TypeId) (lo : Nat) (w w' : World) : Prop where
  ty : ExtT w w' ts
  ab : Above lo w w'
theorem Fr.of0 {ts : List TypeId} {lo : Nat} {w w' : World} (he : Ext [] w w') : Fr ts lo w w' := ⟨ExtT.nil he _, Above.of0 he⟩
theorem Fr.trans {ts : List TypeId} {lo : Nat} {w w' w'' : World} (h : Fr ts lo w w') (h' : Fr ts lo w' w'') : Fr ts lo w w'' := ⟨h.ty.trans h'.ty, h.ab.trans h'.ab⟩
theorem Fr.one {ts : List TypeId} {lo : Nat} {w w' : World} {k : Nat} {cs : Array Value} {T : TypeId} (ho : Own w k cs T) (he : Ext [k] w w') (hT : T ∈ ts) (hk : lo ≤ k) : Fr ts lo w w' :=
  ⟨(ExtT.of he (Tys.one ho)).mono (fun t ht => by simp only [List.mem_singleton] at ht; rw [ht]; exact hT), Above.of he (fun y hy => by simp at hy; omega)⟩
theorem Fr.size {ts : List TypeId} {lo : Nat} {w w' : World} (h : Fr ts lo w w') : w.heap.size ≤ w'.heap.size := h.ty.size
theorem Fr.mono {ts us : List TypeId} {lo : Nat} {w w' : World} (h : Fr ts lo w w') (hs : ∀ t ∈ ts, t ∈ us) : Fr us lo w w' := ⟨h.ty.mono hs, h.ab⟩
theorem Fr.fresh {ts : List TypeId} {lo : Nat} {w w1 w2 : World} {y : Nat} (h : Fr ts lo w w1) (he : Ext [y] w1 w2) (hy : w.heap.size ≤ y) (hl : lo ≤ y) : Fr ts lo w w2 :=
  ⟨extFresh h.ty he hy, h.ab.trans (Above.of he fun k hk => by simp at hk; omega)⟩
/-! ### the core amid an event -/
structure SM (w : World) (s l t d e : Nat) (D0 : DiskS) (N : Int) (L0 : LogS) (D : DiskS) (F : List Nat) (A : AbsS) (Y : YS) (S : List LogS) : Prop where
  rest : Rest w s l t d e D F A Y
  path : Path D (L0 :: S) (N + (S.length : Int))
  log : D.log.length ≤ D0.log.length + 20 * S.length
  idle : S = [] → D = D0
  fin : Y.L = finL L0 S
section
variable {w0 w w' : World} {p s kp k l t d e lo : Nat} {D0 D : DiskS} {N : Int} {L0 : LogS} {F F0 : List Nat} {A : AbsS} {Y : YS} {S : List LogS}
theorem SM.ev (h : SM w s l t d e D0 N L0 D F A Y S) : Ev w s l t d e D0 F N L0 w Y [] S := by
  obtain ⟨bx, o⟩ := h.rest.own
  exact ⟨bx, ⟨o, rfl, rfl, h.rest.el, ⟨D, F, A, h.rest.real, h.path, h.log, Grew.refl _ _, h.idle⟩, h.fin, BoxD.nil _ _, Ext.refl _ _⟩, fun i x hx => by cases hx⟩
theorem Ev.sm (h : Ev w0 s l t d e D0 F0 N L0 w Y [] S) : ∃ D F A, SM w s l t d e D0 N L0 D F A Y S ∧ Grew w0 F0 F ∧ Ext (s :: e :: l :: t :: F0) w0 w := by
  obtain ⟨D, F, A, r, pp, q, g, z⟩ := h.rest
  obtain ⟨bx, hx, _⟩ := h
  exact ⟨D, F, A, ⟨r, pp, q, z, hx.fin⟩, g, hx.ext⟩
theorem Rest.extT {ts : List TypeId} (h : Rest w s l t d e D F A Y) (he : ExtT w w' ts) (ht : ∀ q ∈ ts, q ∉ CT) : Rest w' s l t d e D F A Y := by
  obtain ⟨Z, hz, hT⟩ := he
  obtain ⟨bx, o⟩ := h.own
  have hno : ∀ {T : TypeId}, T ∈ CT → T ∉ ts := fun hc hx => ht _ hx hc
  refine ⟨⟨bx, ownT hz hT o (hno (by simp))⟩, h.real.extY hz hT (fun q hq => ?_), ownT hz hT h.el (hno (by simp))⟩
  have := ht q hq
  simp only [CT, List.mem_cons, List.not_mem_nil, or_false, not_or] at this
  exact ⟨this.2.2.1, this.2.2.2.1, this.2.2.2.2.1, this.2.2.2.2.2.1, this.2.2.2.2.2.2⟩
theorem SM.extT {ts : List TypeId} (h : SM w s l t d e D0 N L0 D F A Y S) (he : ExtT w w' ts) (ht : ∀ q ∈ ts, q ∉ CT) : SM w' s l t d e D0 N L0 D F A Y S := ⟨h.rest.extT he ht, h.path, h.log, h.idle, h.fin⟩
end
abbrev NT : List TypeId := [T_node_Node, T_kv_KV, T_node_enc] ++ CT
structure NReal (w : World) (lo p kp k s l t d e : Nat) (D0 : DiskS) (N : Int) (L0 : LogS) (D : DiskS) (F : List Nat) (A : AbsS) (n : NS) (S : List LogS) (raw : Nat → Value) (Rs : List Rep) : Prop where
  nd : NdAt w p s kp k n raw (Rs.length : Int)
  sm : SM w s l t d e D0 N L0 D F A n.Y S
  kv : Kv.RealAt w kp n.kv.A n.kv.S
  en : EncS w k
  raw : RawIs raw Rs
  rl : Rs.length ≤ 3
  ge : ∀ y ∈ p :: kp :: k :: s :: e :: l :: t :: F, lo ≤ y
section
variable {w0 w w' : World} {lo p s kp k l t d e : Nat} {D0 D : DiskS} {N : Int} {L0 : LogS} {F F0 : List Nat} {A : AbsS} {n n' : NS} {S : List LogS} {raw raw' : Nat → Value} {Rs Rs' : List Rep}
theorem NReal.gp (h : NReal w lo p kp k s l t d e D0 N L0 D F A n S raw Rs) : lo ≤ p := h.ge p (by simp)
theorem NReal.gk (h : NReal w lo p kp k s l t d e D0 N L0 D F A n S raw Rs) : lo ≤ kp := h.ge kp (by simp)
theorem NReal.kty (h : NReal w lo p kp k s l t d e D0 N L0 D F A n S raw Rs) : ∃ cs, Own w kp cs T_kv_KV := by
  obtain ⟨T, m, ho, _⟩ := h.kv
  exact ⟨_, ho.1⟩
theorem NReal.extT {ts : List TypeId} (h : NReal w lo p kp k s l t d e D0 N L0 D F A n S raw Rs) (he : ExtT w w' ts) (ht : ∀ q ∈ ts, q ∉ NT) : NReal w' lo p kp k s l t d e D0 N L0 D F A n S raw Rs := by
  have h1 : T_node_Node ∉ ts := fun q => ht _ q (by simp)
  have h2 : T_kv_KV ∉ ts := fun q => ht _ q (by simp)
  have h3 : T_node_enc ∉ ts := fun q => ht _ q (by simp)
  obtain ⟨T, m, ho, hg⟩ := h.kv
  obtain ⟨f, n0, s0, oe, he0⟩ := h.en
  exact ⟨he.own h.nd h1, h.sm.extT he (fun q hq hc => ht q hq (List.mem_append.2 (.inr hc))), ⟨T, m, ⟨he.own ho.1 h2, ho.2⟩, hg⟩, ⟨f, n0, s0, he.own oe h3, he0⟩, h.raw, h.rl, h.ge⟩
theorem NReal.ext0 (h : NReal w lo p kp k s l t d e D0 N L0 D F A n S raw Rs) (he : Ext [] w w') : NReal w' lo p kp k s l t d e D0 N L0 D F A n S raw Rs := h.extT (ExtT.nil he []) (fun q hq => by cases hq)
/-- The node's own block changed. -/
theorem NReal.st (h : NReal w lo p kp k s l t d e D0 N L0 D F A n S raw Rs) (ho : NdAt w' p s kp k n' raw' (Rs'.length : Int)) (he : Ext [p] w w') (hY : n'.Y = n.Y) (hk : n'.kv = n.kv) (hr : RawIs raw' Rs') (hl : Rs'.length ≤ 3) : NReal w' lo p kp k s l t d e D0 N L0 D F A n' S raw' Rs' := by
  have t1 := Tys.one h.nd
  obtain ⟨T, m, ho2, hg⟩ := h.kv
  obtain ⟨f, n0, s0, oe, he0⟩ := h.en
  refine ⟨ho, ?_, ?_, ⟨f, n0, s0, ownT he t1 oe (by decide), he0⟩, hr, hl, h.ge⟩
  · rw [hY]
    exact h.sm.extT (ExtT.of he t1) (by decide)
  · rw [hk]
    exact ⟨T, m, ⟨ownT he t1 ho2.1 (by decide), ho2.2⟩, hg⟩
/-- The store changed. -/
theorem NReal.kvs {kv' : KvS} (h : NReal w lo p kp k s l t d e D0 N L0 D F A n S raw Rs) (ho : Kv.RealAt w' kp kv'.A kv'.S) (he : Ext [kp] w w') : NReal w' lo p kp k s l t d e D0 N L0 D F A { n with kv := kv' } S raw Rs := by
  obtain ⟨cs, ok⟩ := h.kty
  have t1 := Tys.one ok
  obtain ⟨f, n0, s0, oe, he0⟩ := h.en
  exact ⟨ownT he t1 h.nd (by decide), h.sm.extT (ExtT.of he t1) (by decide), ho, ⟨f, n0, s0, ownT he t1 oe (by decide), he0⟩, h.raw, h.rl, h.ge⟩
/-- The core changed. -/
theorem NReal.core {D' : DiskS} {F' : List Nat} {A' : AbsS} {Y' : YS} {S' : List LogS} (h : NReal w lo p kp k s l t d e D0 N L0 D F A n S raw Rs) (sm : SM w' s l t d e D0 N L0 D' F' A' Y' S') (hid : Y'.e.id = n.Y.e.id) (x : ExtT w w' CT) (g : Grew w F F') (hlo : lo ≤ w.heap.size) : NReal w' lo p kp k s l t d e D0 N L0 D' F' A' { n with Y := Y' } S' raw Rs := by
  obtain ⟨T, m, ho2, hg⟩ := h.kv
  obtain ⟨f, n0, s0, oe, he0⟩ := h.en
  refine ⟨?_, sm, ⟨T, m, ⟨x.own ho2.1 (by decide), ho2.2⟩, hg⟩, ⟨f, n0, s0, x.own oe (by decide), he0⟩, h.raw, h.rl, fun y hy => ?_⟩
  · have := x.own h.nd (by decide)
    show Own w' p (fnArr 27 (ndG s kp k Y'.e.id n.ap n.used n.seq n.idx raw (Rs.length : Int))) T_node_Node
    rw [hid]
    exact this
  · have old := h.ge
    simp only [List.mem_cons] at hy old
    rcases hy with q | q | q | q | q | q | q | q
    · exact old y (by simp [q])
    · exact old y (by simp [q])
    · exact old y (by simp [q])
    · exact old y (by simp [q])
    · exact old y (by simp [q])
    · exact old y (by simp [q])
    · exact old y (by simp [q])
    · rcases g y q with z | z
      · exact old y (by simp [z])
      · omega
theorem NReal.frP (h : NReal w lo p kp k s l t d e D0 N L0 D F A n S raw Rs) (he : Ext [p] w w') : Fr NT lo w w' := Fr.one h.nd he (by simp) h.gp
theorem NReal.frK (h : NReal w lo p kp k s l t d e D0 N L0 D F A n S raw Rs) (he : Ext [kp] w w') : Fr NT lo w w' := by
  obtain ⟨cs, ok⟩ := h.kty
  exact Fr.one ok he (by simp) h.gk
theorem atL_size {L : LogS} (h : LogOk L) (i : Int) : (atL L i).1.2.size ≤ 24 := by
  unfold atL
  split
  · exact Nat.zero_le _
  · split
    · exact Nat.zero_le _
    · rename_i h1 h2
      unfold LogS.last at h2
      have hq : (i - L.base - 1).toNat < L.ents.length := by omega
      exact (h.ent _ (List.mem_of_getElem? (getD_some' hq))).2.2
theorem catchUp_ok {R : World → Prop} (h : NReal w lo p kp k s l t d e D0 N L0 D F A n S raw Rs) (hY : YsOk n.Y) (hR : ∀ w', NReal w' lo p kp k s l t d e D0 N L0 D F A (catchN n) S raw Rs → Fr NT lo w w' → R w') : node_Node_catchUp.Call (some ⟨p, 0, none⟩) w R := by
  apply node_Node_catchUp.sound
  unfold node_Node_catchUp.B0
  refine Pn.mk (h.nd.ldS (view_ok h.sm.rest hY.e fun v w1 hv ov he1 => Pn.mk ?_))
  have h1 := (h.ext0 he1).ext0 (Ext.drew [] w1)
  have E1 : Ext [] w w1.drew := he1.trans (Ext.drew [] w1)
  have ov1 : Own w1.drew v (viewC n.Y) T_api_SyncView := Own.drew ov
  rw [add_mk]
  refine LdI.mk ov1 rfl (Pn.mk (h1.nd.ldA ?_))
  by_cases hc : n.Y.L.base > n.ap
  · refine Bm.pos (decide_eq_true hc) (Pn.mk ?_)
    have h2 := h1.ext0 (Ext.drew [] w1.drew)
    have ov2 : Own w1.drew.drew v (viewC n.Y) T_api_SyncView := Own.drew ov1
    refine h2.nd.ldK (Pn.mk ?_)
    rw [add_mk]
    have hsn := hY.L.snap
    refine LdS.mk ov2 rfl (realRestore_ok h2.kv (by show n.Y.L.snap.size ≤ 281474976710656; omega) fun w3 k3 he3 => Pn.mk ?_)
    have h3 := h2.kvs k3 he3
    obtain ⟨cs, okk⟩ := h2.kty
    have ov3 := ownT he3 (Tys.one okk) ov2 (by decide)
    rw [add_mk]
    refine LdI.mk ov3 rfl (Pn.mk (h3.nd.stA fun w4 o4 he4 => ?_))
    have h4 := h3.st o4 he4 rfl rfl h.raw h.rl
    have hn : catchN n = { n with kv := (restoreA n.Y.L.snap n.kv).2, ap := n.Y.L.base } := by unfold catchN; rw [if_pos hc]
    refine hR w4 (by rw [hn]; exact h4) (((Fr.of0 (E1.trans (Ext.drew [] _))).trans (h2.frK he3)).trans (h3.frP he4))
  · refine Bm.neg (decide_eq_false hc) ?_
    have hn : catchN n = n := by unfold catchN; rw [if_neg hc]
    exact hR w1.drew (by rw [hn]; exact h1) (Fr.of0 E1)
theorem ext_fr {Z : List Nat} {ts : List TypeId} (he : Ext Z w w') (hz : ∀ y ∈ Z, lo ≤ y) (x : ExtT w w' ts) : Fr ts lo w w' := ⟨x, Above.of he hz⟩
theorem coreIds (h : NReal w lo p kp k s l t d e D0 N L0 D F A n S raw Rs) : ∀ y ∈ s :: e :: l :: t :: F, lo ≤ y := fun y hy => h.ge y (by
  simp only [List.mem_cons] at hy ⊢
  rcases hy with q | q | q | q | q <;> simp [q])
theorem compE_id (n : NS) : (compE n).Y.e = n.Y.e := by
  unfold compE compactY
  split <;> rfl
theorem ncompact_ok {R : World → Prop} (h : NReal w lo p kp k s l t d e D0 N L0 D F A n S raw Rs) (hY : YsOk n.Y) (hk : KvOk n.kv.A n.kv.S) (hap : 0 ≤ n.ap ∧ n.ap ≤ n.Y.cm) (hN : N + (S.length : Int) + 1 ≤ 4611686018427387904) (hlog : D0.log.length + 20 * S.length ≤ 400) (hlo : lo ≤ w.heap.size)
    (hR : ∀ D' F' A' w', NReal w' lo p kp k s l t d e D0 N L0 D' F' A' (compN n) (S ++ compS n) raw Rs → Fr NT lo w w' → R w') : node_Node_compact.Call (some ⟨p, 0, none⟩) n.Y.L.base n.Y.L.last w R := by
  apply node_Node_compact.sound
  unfold node_Node_compact.B0
  have hb := hY.L.base
  have hl : n.Y.L.last = n.Y.L.base + (n.Y.L.ents.length : Int) := rfl
  have hl2 := hY.L.last
  have hcm := hY.hi
  have no : compB n = false → R w := fun hc => by
    refine hR D F A w ?_ (Fr.of0 (Ext.refl _ _))
    unfold compN compS
    rw [hc]
    simpa using h
  refine Pn.mk (h.nd.ldA ?_)
  by_cases h0 : n.ap ≤ n.Y.L.base
  · refine Bm.pos (decide_eq_true h0) (no ?_)
    unfold compB
    exact decide_eq_false (by omega)
  refine Bm.neg (decide_eq_false h0) (Pn.mk (h.nd.ldA ?_))
  rw [w64 (x := n.ap - n.Y.L.base) (by omega) (by omega), w64 (x := n.Y.L.last - n.Y.L.base) (by omega) (by omega)]
  have b1 : ∀ tt : Bool, tt = !(compB n) → node_Node_compact.B1 (some ⟨p, 0, none⟩) tt w R := fun tt htt => by
    unfold node_Node_compact.B1
    cases hcb : compB n with
    | false =>
      rw [hcb] at htt
      exact Bm.pos htt (no hcb)
    | true =>
      rw [hcb] at htt
      refine Bm.neg htt (Pn.mk (h.nd.ldK (realSnapshot_ok h.kv hk fun w1 he1 => Pn.mk ?_)))
      have h1 := (h.ext0 he1).ext0 (Ext.drew [] w1)
      have E1 : Ext [] w w1.drew := he1.trans (Ext.drew [] w1)
      refine h1.nd.ldS (Pn.mk (h1.nd.ldA ?_))
      have hz1 := E1.size
      refine compactS_ok h1.sm.ev hN hlog fun w2 ev2 x2 => ?_
      obtain ⟨D', F', A', sm2, g2, e2⟩ := ev2.sm
      have h2 := h1.core sm2 (by rw [show (compactY n.ap (snapS n.kv.A n.kv.S) n.Y).2 = compE n from rfl, compE_id]) x2 g2 (by omega)
      refine hR D' F' A' w2 ?_ ((Fr.of0 E1).trans ((ext_fr e2 (coreIds h1) x2).mono (fun q hq => List.mem_append.2 (.inr hq))))
      unfold compN compS
      rw [hcb, if_pos rfl, if_pos rfl]
      exact h2
  refine Bm.ite (fun h4 => b1 _ ?_) fun h4 => b1 _ ?_
  · unfold compB
    by_cases h6 : n.Y.L.last - n.Y.L.base < 6
    · rw [decide_eq_true h6, decide_eq_false (by omega)]
      rfl
    · rw [decide_eq_false h6, decide_eq_true (by omega)]
      rfl
  · unfold compB
    rw [decide_eq_true (by omega)]
    rfl
theorem nreply_ok {c : Nat} {a0 : Int} {a1 : ByteArray} {R : World → Prop} (h : NReal w lo p kp k s l t d e D0 N L0 D F A n S raw Rs) (hc : c < 3) (hl : Rs.length < 3)
    (hR : ∀ raw' w', NReal w' lo p kp k s l t d e D0 N L0 D F A (clearN c n) S raw' (Rs ++ [((c : Int), n.seq c, a0, a1)]) → Fr NT lo w w' → R w') : node_Node_reply.Call (some ⟨p, 0, none⟩) (c : Int) a0 a1 w R := by
  apply node_Node_reply.sound
  unfold node_Node_reply.B0
  refine New.mk fun a w1 ha hs1 oa he1 => Pn.mk ?_
  have h1 := (h.ext0 he1).ext0 (Ext.drew [] w1)
  have E1 : Ext [] w w1.drew := he1.trans (Ext.drew [] w1)
  have oa1 : Own w1.drew a #[.int .i64 a0, .string a1] T_api_Ans := Own.drew oa
  refine h1.nd.ldN (Pn.mk ⟨⟨by omega, by omega⟩, h1.nd.ldQ hc (LdI.mk oa1 rfl (LdS.mk oa1 rfl (Pn.mk ⟨⟨by omega, by omega⟩, ?_⟩)))⟩)
  refine NdAt.stR (r := ((c : Int), n.seq c, a0, a1)) h1.nd hl h.raw rfl fun raw' w2 o2 hr2 he2 => Pn.mk (NdAt.ldN o2 (Pn.mk (NdAt.stN o2 fun w3 o3 he3 => Pn.mk ⟨⟨by omega, by omega⟩, Pn.mk (Pn.mk (NdAt.stU (NdAt.drew o3) hc fun w4 o4 he4 => ⟨⟨by omega, by omega⟩, NdAt.stQ o4 hc fun w5 o5 he5 => ⟨⟨by omega, by omega⟩, NdAt.stI o5 hc fun w6 o6 he6 => ?_⟩⟩))⟩)))
  have E : Ext [p] w1.drew w6 := (((he2.trans he3).trans ((Ext.drew [p] w3).trans he4)).trans he5).trans he6
  have hlen : (Rs ++ [((c : Int), n.seq c, a0, a1)]).length = Rs.length + 1 := by simp
  have o6' : NdAt w6 p s kp k (clearN c n) raw' ((Rs ++ [((c : Int), n.seq c, a0, a1)]).length : Int) := by
    have q : IntKind.i64.wrap ((Rs.length : Int) + 1) = (((Rs ++ [((c : Int), n.seq c, a0, a1)]).length : Nat) : Int) := by rw [w64 (by omega) (by omega), hlen]; omega
    rw [q] at o6
    exact o6
  exact hR raw' w6 (h1.st o6' E rfl rfl hr2 (by omega)) ((Fr.of0 E1).trans (h1.frP E))
theorem answer_ok {dd : ByteArray} {a0 : Int} {a1 : ByteArray} {R : World → Prop} (h : NReal w lo p kp k s l t d e D0 N L0 D F A n S raw Rs) (hu : Rs.length + uc n ≤ 3) (hd : dd.size ≤ 100)
    (hR : ∀ raw' w', NReal w' lo p kp k s l t d e D0 N L0 D F A (ansN n dd (a0, a1)).1 S raw' (Rs ++ (ansN n dd (a0, a1)).2) → Fr NT lo w w' → R w') : node_Node_answer.Call (some ⟨p, 0, none⟩) dd a0 a1 w R := by
  apply node_Node_answer.sound
  unfold node_Node_answer.B0
  refine New.mk fun a w1 ha hs1 oa he1 => decodeCmd_ok (by omega) fun w2 he2 => ⟨fun hn => ?_, fun c hc => ?_⟩
  · refine NewSet.mk rfl rfl fun c_ w4 hc4 hs4 oc he4 => Bm.pos rfl ?_
    have E := (he1.trans he2).trans he4
    refine hR raw w4 ?_ (Fr.of0 E)
    unfold ansN
    rw [hn]
    simpa using h.ext0 E
  · have hp := (decCmd_ok hc).1
    obtain ⟨y, hy⟩ : ∃ y : Nat, c.cl = y := ⟨c.cl.toNat, by omega⟩
    refine NewSet.mk rfl rfl fun c_ w4 hc4 hs4 oc he4 => Bm.neg rfl ?_
    have E := ((he1.trans he2).trans he4).trans (Ext.drew [] w4)
    have h4 := h.ext0 E
    have ocd : Own w4.drew c_ #[.int .i64 c.op, .int .i64 c.cl, .int .i64 c.seq, .string c.key, .string c.val, .string c.old] T_api_Cmd := Own.drew oc
    have oad : Own w4.drew a #[.int .i64 a0, .string a1] T_api_Ans := Own.drew ((he2.trans he4).own oa (by simp))
    have hans : ansN n dd (a0, a1) = if n.used y = true ∧ n.seq y = c.seq then (clearN y n, [((y : Int), c.seq, a0, a1)]) else (n, []) := by
      unfold ansN
      rw [hc]
      dsimp only
      rw [hy, Int.toNat_natCast]
    have no : ¬ (n.used y = true ∧ n.seq y = c.seq) → R w4.drew := fun hno => by
      refine hR raw w4.drew ?_ (Fr.of0 E)
      rw [hans, if_neg hno]
      simpa using h4
    refine LdI.mk ocd rfl (Pn.mk ?_)
    rw [hy]
    refine ⟨⟨by omega, by omega⟩, h4.nd.ldU (by omega) ?_⟩
    cases hus : n.used y with
    | false =>
      refine Bm.neg rfl ?_
      unfold node_Node_answer.B1
      exact Bm.neg rfl (no fun q => by rw [hus] at q; cases q.1)
    | true =>
      refine Bm.pos rfl (LdI.mk ocd rfl (Pn.mk ?_))
      rw [hy]
      refine ⟨⟨by omega, by omega⟩, h4.nd.ldQ (by omega) (LdI.mk ocd rfl ?_)⟩
      unfold node_Node_answer.B1
      refine Bm.mk (fun hq => ?_) fun hq => no fun q => by rw [q.2] at hq; simp at hq
      have hq' : n.seq y = c.seq := by simpa using hq
      have hup : 1 ≤ uc n := by have := uc_clear (n := n) (c := y) (by omega) hus; omega
      refine LdI.mk ocd rfl (LdI.mk oad rfl (LdS.mk oad rfl ?_))
      rw [hy]
      refine nreply_ok h4 (by omega) (by omega) fun raw' w5 h5 f5 => hR raw' w5 ?_ ((Fr.of0 E).trans f5)
      rw [hans, if_pos ⟨hus, hq'⟩]
      rw [hq'] at h5
      exact h5
end
end Go.Proofs.Qxb6500430aGreat
