/-
  nodem: the model in the heap.
-/
import Derived.Test.Qxb6500430aGreatNdJ
set_option linter.unusedVariables false
set_option linter.unusedSimpArgs false
open Go.Vc
namespace Go.Proofs.Qxb6500430aGreat
open Kv
def nmG (s kp : Nat) (ap : Int) (used : Nat → Bool) (seq idx : Nat → Int) : Nat → Value
  | 0 => .pointer (some ⟨s, 0, none⟩)
  | 1 => .pointer (some ⟨kp, 0, none⟩)
  | 2 => .int .i64 ap
  | 3 => .bool (used 0)
  | 4 => .bool (used 1)
  | 5 => .bool (used 2)
  | 6 => .int .i64 (seq 0)
  | 7 => .int .i64 (seq 1)
  | 8 => .int .i64 (seq 2)
  | 9 => .int .i64 (idx 0)
  | 10 => .int .i64 (idx 1)
  | 11 => .int .i64 (idx 2)
  | _ => undef
def nmF (s kp : Nat) (n : NS) : Nat → Value := nmG s kp n.ap n.used n.seq n.idx
def NmAt (w : World) (p s kp : Nat) (n : NS) : Prop := Own w p (fnArr 12 (nmF s kp n)) T_nodem_Node
section
variable {w w' : World} {p s kp : Nat} {n : NS}
theorem nmF_used {c : Nat} (hc : c < 3) : nmF s kp n (3 + c) = .bool (n.used c) := by match c, hc with | 0, _ | 1, _ | 2, _ => rfl
theorem nmF_seq {c : Nat} (hc : c < 3) : nmF s kp n (6 + c) = .int .i64 (n.seq c) := by match c, hc with | 0, _ | 1, _ | 2, _ => rfl
theorem nmF_idx {c : Nat} (hc : c < 3) : nmF s kp n (9 + c) = .int .i64 (n.idx c) := by match c, hc with | 0, _ | 1, _ | 2, _ => rfl
theorem NmAt.drew (h : NmAt w p s kp n) : NmAt w.drew p s kp n := Own.drew h
theorem NmAt.ldS {K : Option Addr → Prop} (h : NmAt w p s kp n) (hk : K (some ⟨s, 0, none⟩)) : LdP ⟨p, 0, none⟩ w K := LdP.fn (o := 0) h (by omega) rfl hk
theorem NmAt.ldK {K : Option Addr → Prop} (h : NmAt w p s kp n) (hk : K (some ⟨kp, 0, none⟩)) : LdP (Addr.add ⟨p, 0, none⟩ 1) w K := by
  rw [add_mk]; exact LdP.fn (o := 1) h (by omega) rfl hk
theorem NmAt.ldA {K : Int → Prop} (h : NmAt w p s kp n) (hk : K n.ap) : LdI .i64 (Addr.add ⟨p, 0, none⟩ 2) w K := by
  rw [add_mk]; exact LdI.fn (o := 2) h (by omega) rfl hk
theorem NmAt.ldU {c : Nat} {K : Bool → Prop} (h : NmAt w p s kp n) (hc : c < 3) (hk : K (n.used c)) : LdB (Addr.add (Addr.add ⟨p, 0, none⟩ 3) ((c : Int).toNat * 1)) w K := by
  rw [add_mk, add_mk, Int.toNat_natCast, Nat.mul_one, Nat.zero_add]
  exact LdB.fn h (by omega) (nmF_used hc) hk
theorem NmAt.ldQ {c : Nat} {K : Int → Prop} (h : NmAt w p s kp n) (hc : c < 3) (hk : K (n.seq c)) : LdI .i64 (Addr.add (Addr.add ⟨p, 0, none⟩ 6) ((c : Int).toNat * 1)) w K := by
  rw [add_mk, add_mk, Int.toNat_natCast, Nat.mul_one, Nat.zero_add]
  exact LdI.fn h (by omega) (nmF_seq hc) hk
theorem NmAt.ldI {c : Nat} {K : Int → Prop} (h : NmAt w p s kp n) (hc : c < 3) (hk : K (n.idx c)) : LdI .i64 (Addr.add (Addr.add ⟨p, 0, none⟩ 9) ((c : Int).toNat * 1)) w K := by
  rw [add_mk, add_mk, Int.toNat_natCast, Nat.mul_one, Nat.zero_add]
  exact LdI.fn h (by omega) (nmF_idx hc) hk
theorem NmAt.stA {v : Int} {K : World → Prop} (h : NmAt w p s kp n) (hk : ∀ w', NmAt w' p s kp { n with ap := v } → Ext [p] w w' → K w') : Sts [.int .i64 v] (Addr.add ⟨p, 0, none⟩ 2) 0 w K := by
  rw [add_mk]
  refine Sts.fn (o := 2) (g := nmF s kp { n with ap := v }) h (by simp) rfl (fun j hj => ?_) fun w' _ o' he => hk w' o' he
  rw [fnPut_one]
  match j, hj with
  | 0, _ | 1, _ | 2, _ | 3, _ | 4, _ | 5, _ | 6, _ | 7, _ | 8, _ | 9, _ | 10, _ | 11, _ => rfl
theorem NmAt.stU {c : Nat} {v : Bool} {K : World → Prop} (h : NmAt w p s kp n) (hc : c < 3) (hk : ∀ w', NmAt w' p s kp { n with used := updB n.used c v } → Ext [p] w w' → K w') : Sts [.bool v] (Addr.add (Addr.add ⟨p, 0, none⟩ 3) ((c : Int).toNat * 1)) 0 w K := by
  rw [add_mk, add_mk, Int.toNat_natCast, Nat.mul_one, Nat.zero_add]
  refine Sts.fn (g := nmF s kp { n with used := updB n.used c v }) h (by simp; omega) rfl (fun j hj => ?_) fun w' _ o' he => hk w' o' he
  rw [fnPut_one]
  match c, hc with
  | 0, _ | 1, _ | 2, _ =>
    match j, hj with
    | 0, _ | 1, _ | 2, _ | 3, _ | 4, _ | 5, _ | 6, _ | 7, _ | 8, _ | 9, _ | 10, _ | 11, _ => rfl
theorem NmAt.stQ {c : Nat} {v : Int} {K : World → Prop} (h : NmAt w p s kp n) (hc : c < 3) (hk : ∀ w', NmAt w' p s kp { n with seq := upN n.seq c v } → Ext [p] w w' → K w') : Sts [.int .i64 v] (Addr.add (Addr.add ⟨p, 0, none⟩ 6) ((c : Int).toNat * 1)) 0 w K := by
  rw [add_mk, add_mk, Int.toNat_natCast, Nat.mul_one, Nat.zero_add]
  refine Sts.fn (g := nmF s kp { n with seq := upN n.seq c v }) h (by simp; omega) rfl (fun j hj => ?_) fun w' _ o' he => hk w' o' he
  rw [fnPut_one]
  match c, hc with
  | 0, _ | 1, _ | 2, _ =>
    match j, hj with
    | 0, _ | 1, _ | 2, _ | 3, _ | 4, _ | 5, _ | 6, _ | 7, _ | 8, _ | 9, _ | 10, _ | 11, _ => rfl
theorem NmAt.stI {c : Nat} {v : Int} {K : World → Prop} (h : NmAt w p s kp n) (hc : c < 3) (hk : ∀ w', NmAt w' p s kp { n with idx := upN n.idx c v } → Ext [p] w w' → K w') : Sts [.int .i64 v] (Addr.add (Addr.add ⟨p, 0, none⟩ 9) ((c : Int).toNat * 1)) 0 w K := by
  rw [add_mk, add_mk, Int.toNat_natCast, Nat.mul_one, Nat.zero_add]
  refine Sts.fn (g := nmF s kp { n with idx := upN n.idx c v }) h (by simp; omega) rfl (fun j hj => ?_) fun w' _ o' he => hk w' o' he
  rw [fnPut_one]
  match c, hc with
  | 0, _ | 1, _ | 2, _ =>
    match j, hj with
    | 0, _ | 1, _ | 2, _ | 3, _ | 4, _ | 5, _ | 6, _ | 7, _ | 8, _ | 9, _ | 10, _ | 11, _ => rfl
end
abbrev MNT : List TypeId := [T_nodem_Node, T_kvm_KV] ++ MT
structure NMod (w : World) (lo p kp s q me : Nat) (M : MSt) (n : NS) : Prop where
  nd : NmAt w p s kp n
  mr : MRest w s q me M n.Y
  kv : Kv.ModAt w kp n.kv.A n.kv.S
  ge : ∀ y ∈ p :: kp :: s :: me :: M.foot q, lo ≤ y
section
variable {w0 w w' : World} {lo p s kp q me : Nat} {M : MSt} {n n' : NS}
theorem NMod.gp (h : NMod w lo p kp s q me M n) : lo ≤ p := h.ge p (by simp)
theorem NMod.gk (h : NMod w lo p kp s q me M n) : lo ≤ kp := h.ge kp (by simp)
theorem NMod.kty (h : NMod w lo p kp s q me M n) : ∃ cs, Own w kp cs T_kvm_KV := ⟨_, h.kv.1⟩
theorem MRest.extT {Y : YS} {ts : List TypeId} (h : MRest w s q me M Y) (he : ExtT w w' ts) (ht : ∀ q ∈ ts, q ∉ MT) : MRest w' s q me M Y := by
  obtain ⟨Z, hz, hT⟩ := he
  have hno : ∀ {T : TypeId}, T ∈ MT → T ∉ ts := fun hc hx => ht _ hx hc
  refine ⟨ownT hz hT h.own (hno (by simp)), ownT hz hT h.el (hno (by simp)), h.md.extY hz hT (fun t hx => ?_), h.A⟩
  have := ht t hx
  simp only [MT, List.mem_cons, List.not_mem_nil, or_false, not_or] at this
  exact ⟨this.2.2.1, this.2.2.2.1, this.2.2.2.2⟩
theorem NMod.extT {ts : List TypeId} (h : NMod w lo p kp s q me M n) (he : ExtT w w' ts) (ht : ∀ q ∈ ts, q ∉ MNT) : NMod w' lo p kp s q me M n := by
  have h1 : T_nodem_Node ∉ ts := fun q => ht _ q (by simp)
  have h2 : T_kvm_KV ∉ ts := fun q => ht _ q (by simp)
  exact ⟨he.own h.nd h1, h.mr.extT he (fun q hq hc => ht q hq (List.mem_append.2 (.inr hc))), ⟨he.own h.kv.1 h2, h.kv.2⟩, h.ge⟩
theorem NMod.ext0 (h : NMod w lo p kp s q me M n) (he : Ext [] w w') : NMod w' lo p kp s q me M n := h.extT (ExtT.nil he []) (fun q hq => by cases hq)
theorem NMod.st (h : NMod w lo p kp s q me M n) (ho : NmAt w' p s kp n') (he : Ext [p] w w') (hY : n'.Y = n.Y) (hk : n'.kv = n.kv) : NMod w' lo p kp s q me M n' := by
  have t1 := Tys.one h.nd
  refine ⟨ho, ?_, ?_, h.ge⟩
  · rw [hY]
    exact h.mr.extT (ExtT.of he t1) (by decide)
  · rw [hk]
    exact ⟨ownT he t1 h.kv.1 (by decide), h.kv.2⟩
theorem NMod.kvs {kv' : KvS} (h : NMod w lo p kp s q me M n) (ho : Kv.ModAt w' kp kv'.A kv'.S) (he : Ext [kp] w w') : NMod w' lo p kp s q me M { n with kv := kv' } := by
  have t1 := Tys.one h.kv.1
  exact ⟨ownT he t1 h.nd (by decide), h.mr.extT (ExtT.of he t1) (by decide), ho, h.ge⟩
theorem NMod.frP (h : NMod w lo p kp s q me M n) (he : Ext [p] w w') : Fr MNT lo w w' := Fr.one h.nd he (by simp) h.gp
theorem NMod.frK (h : NMod w lo p kp s q me M n) (he : Ext [kp] w w') : Fr MNT lo w w' := Fr.one h.kv.1 he (by simp) h.gk
/-- The core's event. -/
theorem NMod.evt {Y' : YS} {S' : List LogS} (h : NMod w lo p kp s q me M n) (hv : Mv w s q me M n.Y.L w' Y' S') (x : ExtT w w' MT) (hlo : lo ≤ w.heap.size) : ∃ M', NMod w' lo p kp s q me M' { n with Y := Y' } ∧ M'.A0 = M.A0 ∧ M'.H.map (·.2) = M.H.map (·.2) ++ S'.map gs ∧ Fr MNT lo w w' := by
  obtain ⟨M', m1, mA0, mH, mg, me'⟩ := hv.rest
  refine ⟨M', ⟨x.own h.nd (by decide), m1, ⟨x.own h.kv.1 (by decide), h.kv.2⟩, fun y hy => ?_⟩, mA0, mH, ?_⟩
  · have old := h.ge
    simp only [List.mem_cons] at hy old
    rcases hy with z | z | z | z | z
    · exact old y (by simp [z])
    · exact old y (by simp [z])
    · exact old y (by simp [z])
    · exact old y (by simp [z])
    · rcases mg y z with u | u
      · exact old y (by simp [u])
      · omega
  · exact (ext_fr me' (fun y hy => h.ge y (by simp only [List.mem_cons] at hy ⊢; rcases hy with z | z | z <;> simp [z])) x).mono (fun q hq => List.mem_append.2 (.inr hq))
theorem mcatch_ok {R : World → Prop} (h : NMod w lo p kp s q me M n) (hY : YsOk n.Y) (hR : ∀ w', NMod w' lo p kp s q me M (catchN n) → Fr MNT lo w w' → R w') : nodem_Node_catchUp.Call (some ⟨p, 0, none⟩) w R := by
  apply nodem_Node_catchUp.sound
  unfold nodem_Node_catchUp.B0
  refine Pn.mk (h.nd.ldS (mview_ok h.mr hY.L fun v w1 hv ov he1 => Pn.mk ?_))
  have h1 := (h.ext0 he1).ext0 (Ext.drew [] w1)
  have E1 : Ext [] w w1.drew := he1.trans (Ext.drew [] w1)
  have ov1 : Own w1.drew v (viewC n.Y) T_api_SyncView := Own.drew ov
  rw [add_mk]
  refine LdI.mk ov1 rfl (Pn.mk (h1.nd.ldA ?_))
  by_cases hc : n.Y.L.base > n.ap
  · refine Bm.pos (decide_eq_true hc) (Pn.mk ?_)
    have h2 := h1.ext0 (Ext.drew [] w1.drew)
    have ov2 : Own w1.drew.drew v (viewC n.Y) T_api_SyncView := Own.drew ov1
    refine h2.nd.ldK (Pn.mk ?_)
    rw [add_mk]
    have hsn := hY.L.snap
    refine LdS.mk ov2 rfl (modRestore_ok h2.kv (by show n.Y.L.snap.size ≤ 281474976710656; omega) fun w3 k3 he3 => Pn.mk ?_)
    have h3 := h2.kvs k3 he3
    have ov3 := ownT he3 (Tys.one h2.kv.1) ov2 (by decide)
    rw [add_mk]
    refine LdI.mk ov3 rfl (Pn.mk (h3.nd.stA fun w4 o4 he4 => ?_))
    have h4 := h3.st o4 he4 rfl rfl
    have hn : catchN n = { n with kv := (restoreA n.Y.L.snap n.kv).2, ap := n.Y.L.base } := by unfold catchN; rw [if_pos hc]
    refine hR w4 (by rw [hn]; exact h4) (((Fr.of0 (E1.trans (Ext.drew [] _))).trans (h2.frK he3)).trans (h3.frP he4))
  · refine Bm.neg (decide_eq_false hc) ?_
    have hn : catchN n = n := by unfold catchN; rw [if_neg hc]
    exact hR w1.drew (by rw [hn]; exact h1) (Fr.of0 E1)
/-! ### what the event gathers -/
structure DAcc (w : World) (lo dd t4 : Nat) (rb : Option Addr) (rc : Nat) (Rs : List Rep) : Prop where
  od : Own w dd #[.int .i64 0, .slice none 0 0, .slice rb Rs.length rc] T_api_Did
  ot : Own w t4 #[.int .i64 0, .slice none 0 0, .slice none 0 0] T_api_Did
  row : Row w rb Rs.length rc 4 T_api_Reply (Rs.flatMap repC)
  ge : ∀ y ∈ rowBlk rb, lo ≤ y
  ne : t4 ≠ dd
  dl : lo ≤ dd
theorem DAcc.extT {lo dd t4 : Nat} {rb : Option Addr} {rc : Nat} {Rs : List Rep} {ts : List TypeId} (h : DAcc w lo dd t4 rb rc Rs) (he : ExtT w w' ts) (h1 : T_api_Did ∉ ts) (h2 : T_api_Reply ∉ ts) : DAcc w' lo dd t4 rb rc Rs := ⟨he.own h.od h1, he.own h.ot h1, he.row h.row h2, h.ge, h.ne, h.dl⟩
theorem DAcc.ext0 {lo dd t4 : Nat} {rb : Option Addr} {rc : Nat} {Rs : List Rep} (h : DAcc w lo dd t4 rb rc Rs) (he : Ext [] w w') : DAcc w' lo dd t4 rb rc Rs := h.extT (ExtT.nil he []) (by simp) (by simp)
/-- An answer more. -/
theorem DAcc.add {dd t4 nb : Nat} {rb : Option Addr} {rc : Nat} {Rs : List Rep} {r : Rep} {K : World → Prop} (h : DAcc w lo dd t4 rb rc Rs) (hn : Own w nb (repC r).toArray T_api_Reply) (hlt : ∀ y ∈ rowBlk rb, y ≠ nb) (hl : Rs.length ≤ 100) (hlo : lo ≤ w.heap.size)
    (hK : ∀ rb' rc' w', DAcc w' lo dd t4 rb' rc' (Rs ++ [r]) → (∀ y ∈ rowBlk rb', y ∈ rowBlk rb ∨ w.heap.size ≤ y) → Fr [T_api_Did, T_api_Reply] lo w w' → K w') :
    Append T_api_Reply (.agg #[.int .i64 0, .int .i64 0, .int .i64 0, .string (ByteArray.mk #[])]) 4 40 rb Rs.length rc (some ⟨nb, 0, none⟩) 1 w fun b c w2 => Sts [.slice b (Rs.length + 1) c] ⟨dd, 2, none⟩ 0 w2 K := by
  refine Vc.Append.mk (e := T_api_Reply) (news := repC r) h.row (CellsAt.own hn (fun j v hj => by simpa [repC] using hj)) rfl rfl rfl (by omega) (by omega) fun b c w2 hr he2 hb2 => ?_
  have t2 := Tys.row h.row
  have od2 := ownT he2 t2 h.od (by decide)
  have ot2 := ownT he2 t2 h.ot (by decide)
  refine Sts.mk od2 (by simp) rfl fun w3 _ o3 he3 => ?_
  have hlen : (Rs ++ [r]).length = Rs.length + 1 := by simp
  have f2 : Fr [T_api_Did, T_api_Reply] lo w w2 := ext_fr he2 h.ge ((ExtT.of he2 t2).mono (by simp))
  refine hK b c w3 ⟨by rw [hlen]; exact o3, he3.own ot2 (by simpa using h.ne), ?_, fun y hy => ?_, h.ne, h.dl⟩ (fun y hy => (hb2 y hy).imp id fun z => z.1) (f2.trans (Fr.one od2 he3 (by simp) h.dl))
  · rw [hlen, List.flatMap_append]
    exact rowT (by simpa using hr) he3 (Tys.one od2) (by decide)
  · rcases hb2 y hy with z | z
    · exact h.ge y z
    · omega
end
end Go.Proofs.Qxb6500430aGreat
