/-
  node: the real node's looks; Open; Check.
-/
import Derived.Test.Qxb6500430aGreatNdI
set_option linter.unusedVariables false
set_option linter.unusedSimpArgs false
open Go.Vc
namespace Go.Proofs.Qxb6500430aGreat
open Kv
def viewN (v : Nat) (n : NS) : Array Value := #[.pointer (some ⟨v, 0, none⟩), .int .i64 n.ap, .bool (n.used 0), .bool (n.used 1), .bool (n.used 2), .int .i64 (n.seq 0), .int .i64 (n.seq 1), .int .i64 (n.seq 2), .int .i64 (n.idx 0), .int .i64 (n.idx 1), .int .i64 (n.idx 2)]
section
variable {w0 w w' : World} {lo p s kp k l t d e : Nat} {D0 D : DiskS} {N : Int} {L0 L : LogS} {F F0 : List Nat} {A : AbsS} {n n' : NS} {S : List LogS} {raw raw' : Nat → Value} {Rs Rs' : List Rep}
theorem nview_ok {R : Option Addr → World → Prop} (h : NReal w lo p kp k s l t d e D0 N L0 D F A n S raw Rs) (hw : n.Y.e.Wf) (hR : ∀ v b w', Own w' v (viewC n.Y) T_api_SyncView → Own w' b (viewN v n) T_api_NodeView → Ext [] w w' → R (some ⟨b, 0, none⟩) w') : node_Node_View.Call (some ⟨p, 0, none⟩) w R := by
  apply node_Node_View.sound
  unfold node_Node_View.B0
  refine Pn.mk (h.nd.ldS (view_ok h.sm.rest hw fun v w1 hv ov he1 => Pn.mk ?_))
  have E1 := he1.trans (Ext.drew [] w1)
  have h1 := h.ext0 E1
  have nd := h1.nd
  refine nd.ldA (Pn.mk ?_)
  simp only [add_mk, Nat.zero_add]
  refine LdB.fn (o := 4) nd (by omega) rfl (LdB.fn (o := 5) nd (by omega) rfl (LdB.fn (o := 6) nd (by omega) rfl (Pn.mk ?_)))
  simp only [add_mk, Nat.zero_add]
  refine LdI.fn (o := 7) nd (by omega) rfl (LdI.fn (o := 8) nd (by omega) rfl (LdI.fn (o := 9) nd (by omega) rfl (Pn.mk ?_)))
  simp only [add_mk, Nat.zero_add]
  refine LdI.fn (o := 10) nd (by omega) rfl (LdI.fn (o := 11) nd (by omega) rfl (LdI.fn (o := 12) nd (by omega) rfl (New.mk fun b w2 hb hs2 ob he2 => ?_)))
  exact hR v b w2 (he2.own (Own.drew ov) (by simp)) ob (E1.trans he2)
theorem nAt_ok {i : Int} {R : Int → ByteArray → Int → World → Prop} (h : NReal w lo p kp k s l t d e D0 N L0 D F A n S raw Rs) (hi : -9223372036854775808 ≤ i ∧ i ≤ 9223372036854775807) (hR : ∀ w', Ext [] w w' → R (atL n.Y.L i).1.1 (atL n.Y.L i).1.2 (atL n.Y.L i).2 w') : node_Node_At.Call (some ⟨p, 0, none⟩) i w R := by
  apply node_Node_At.sound
  unfold node_Node_At.B0
  refine New.mk fun b4 w1 hb hs1 ob he1 => Pn.mk ?_
  have h1 := h.ext0 he1
  refine h1.nd.ldS (at_ok h1.sm.rest hi fun w2 he2 => ?_)
  have ob2 := he2.own ob (by simp)
  refine Sts.full ob2 rfl rfl fun w3 hs3 o3 he3 => LdI.mk o3 rfl (LdS.mk o3 rfl (hR w3 ((he1.trans he2).trans' he3 (fun y hy hl => by simp at hy; omega))))
theorem nTermAt_ok {i : Int} {R : Int → Int → World → Prop} (h : NReal w lo p kp k s l t d e D0 N L0 D F A n S raw Rs) (hi : -9223372036854775808 ≤ i ∧ i ≤ 9223372036854775807) (hR : ∀ w', Ext [] w w' → R (termL n.Y.L i).1 (termL n.Y.L i).2 w') : node_Node_TermAt.Call (some ⟨p, 0, none⟩) i w R := by
  apply node_Node_TermAt.sound
  unfold node_Node_TermAt.B0
  exact Pn.mk (h.nd.ldS (termAt_ok h.sm.rest hi fun w2 he2 => hR w2 he2))
theorem nLen_ok {R : Int → World → Prop} (h : NReal w lo p kp k s l t d e D0 N L0 D F A n S raw Rs) (hR : R (n.kv.A.length : Int) w) : node_Node_Len.Call (some ⟨p, 0, none⟩) w R := by
  apply node_Node_Len.sound
  unfold node_Node_Len.B0
  exact Pn.mk (h.nd.ldK (realLen_ok h.kv hR))
theorem nKeyAt_ok {i : Int} {R : ByteArray → World → Prop} (h : NReal w lo p kp k s l t d e D0 N L0 D F A n S raw Rs) (hk : KvOk n.kv.A n.kv.S) (hR : ∀ w', Ext [] w w' → R (keyA n.kv.A i) w') : node_Node_KeyAt.Call (some ⟨p, 0, none⟩) i w R := by
  apply node_Node_KeyAt.sound
  unfold node_Node_KeyAt.B0
  exact Pn.mk (h.nd.ldK (realKeyAt_ok h.kv hk hR))
theorem nVal_ok {kk : ByteArray} {R : ByteArray → Bool → World → Prop} (h : NReal w lo p kp k s l t d e D0 N L0 D F A n S raw Rs) (hk : KvOk n.kv.A n.kv.S) (hR : ∀ w', Ext [] w w' → R ((lookA n.kv.A kk).getD Kv.estr) (lookA n.kv.A kk).isSome w') : node_Node_Val.Call (some ⟨p, 0, none⟩) kk w R := by
  apply node_Node_Val.sound
  unfold node_Node_Val.B0
  exact Pn.mk (h.nd.ldK (realVal_ok h.kv hk hR))
def sessV (S : Ss) (c : Int) : Int × Int × ByteArray := if 0 ≤ c ∧ c < 3 then S c.toNat else (0, 0, Kv.estr)
theorem sessV_eq (S : Ss) (c : Int) : (if 0 ≤ c ∧ c < 3 then (S c.toNat).1 else 0) = (sessV S c).1 ∧ (if 0 ≤ c ∧ c < 3 then (S c.toNat).2.1 else 0) = (sessV S c).2.1 ∧ (if 0 ≤ c ∧ c < 3 then (S c.toNat).2.2 else Kv.estr) = (sessV S c).2.2 := by
  unfold sessV
  split <;> exact ⟨rfl, rfl, rfl⟩
theorem nSess_ok {c : Int} {R : Int → Int → ByteArray → World → Prop} (h : NReal w lo p kp k s l t d e D0 N L0 D F A n S raw Rs) (hk : KvOk n.kv.A n.kv.S) (hR : ∀ w', Ext [] w w' → R (sessV n.kv.S c).1 (sessV n.kv.S c).2.1 (sessV n.kv.S c).2.2 w') : node_Node_Sess.Call (some ⟨p, 0, none⟩) c w R := by
  apply node_Node_Sess.sound
  unfold node_Node_Sess.B0
  refine New.mk fun b4 w1 hb hs1 ob he1 => Pn.mk ?_
  have h1 := h.ext0 he1
  obtain ⟨q1, q2, q3⟩ := sessV_eq n.kv.S c
  refine h1.nd.ldK (realSess_ok h1.kv hk fun w2 he2 => ?_)
  rw [q1, q2, q3]
  have ob2 := he2.own ob (by simp)
  refine Sts.full ob2 rfl rfl fun w3 hs3 o3 he3 => LdI.mk o3 rfl (LdS.mk o3 rfl (hR w3 ((he1.trans he2).trans' he3 (fun y hy hl => by simp at hy; omega))))
set_option maxRecDepth 20000 in
theorem nopen_ok {i : Int} {R : Option Addr → World → Prop} (h : Rest w s l t d e D F A (openY i L)) (hL : LogOk L) (hp : Path D [L] N) (hk : Kv.RealAt w kp [] (fun _ => Kv.zeroS)) (hlo : lo ≤ w.heap.size) (hge : ∀ y ∈ kp :: s :: e :: l :: t :: F, lo ≤ y)
    (hR : ∀ p k raw' w', w.heap.size ≤ p → NReal w' lo p kp k s l t d e D N L D F A (openN i L) [] raw' [] → Fr NT lo w w' → R (some ⟨p, 0, none⟩) w') : node_Open.Call (some ⟨s, 0, none⟩) (some ⟨kp, 0, none⟩) w R := by
  apply node_Open.sound
  unfold node_Open.B0
  have oy := open_inv i hL
  refine view_ok h oy.e fun v w1 hv ov he1 => Pn.mk (LdI.mk ov rfl (New.mk fun k w2 hk2 hs2 ok he2 => New.mk fun p w3 hp3 hs3 op he3 => ?_))
  have z1 := he1.size
  have z2 := he2.size
  have E3 := (he1.trans he2).trans he3
  let n0 : NS := ⟨openY i L, ⟨[], fun _ => Kv.zeroS⟩, 0, fun _ => false, fun _ => 0, fun _ => 0⟩
  have nd : NdAt w3 p s kp k n0 (fun o => if (o - 13) % 4 = 3 then .string (ByteArray.mk #[]) else .int .i64 0) 0 := op
  have sm : SM w3 s l t d e D N L D F A (openY i L) [] := ⟨h.ext0 E3, by simpa using hp, by simp, fun _ => rfl, rfl⟩
  have en : EncS w3 k := ⟨fun j => if j < 234 then .int .u8 0 else .int .i64 0, 0, 0, he3.own ok (by simp), rfl, rfl, by omega, by omega, by omega, by omega⟩
  have hn : NReal w3 lo p kp k s l t d e D N L D F A n0 [] (fun o => if (o - 13) % 4 = 3 then .string (ByteArray.mk #[]) else .int .i64 0) [] := by
    refine ⟨nd, sm, hk.ext0 E3, en, fun i r hr => (by cases hr), by simp, fun y hy => ?_⟩
    simp only [List.mem_cons] at hy hge
    rcases hy with q | q | q | q | q | q | q | q
    · omega
    · exact hge y (by simp [q])
    · omega
    · exact hge y (by simp [q])
    · exact hge y (by simp [q])
    · exact hge y (by simp [q])
    · exact hge y (by simp [q])
    · exact hge y (by simp [q])
  exact catchUp_ok hn oy fun w4 h4 f4 => hR p k _ w4 (by omega) h4 ((Fr.of0 E3).trans f4)
theorem ncheck_ok {R : ByteArray → World → Prop} (h : NReal w lo p kp k s l t d e D0 N L0 D F A n S raw Rs) (hn : NOk n) (hR : ∀ w', Ext [] w w' → R estr w') : node_Node_Check.Call (some ⟨p, 0, none⟩) w R := by
  apply node_Node_Check.sound
  unfold node_Node_Check.B0
  refine Pn.mk (h.nd.ldS (view_ok h.sm.rest hn.mid.y.e fun v w1 hv ov he1 => Pn.mk ?_))
  have E1 := he1.trans (Ext.drew [] w1)
  have h1 := h.ext0 E1
  have o1 : Own w1.drew v (viewC n.Y) T_api_SyncView := Own.drew ov
  refine h1.nd.ldId (Pn.mk (LdI.mk o1 rfl (Bm.neg (by show (n.Y.e.id != n.Y.e.id) = false; simp) (Pn.mk ?_))))
  have E2 := E1.trans (Ext.drew [] _)
  have h2 := h.ext0 E2
  have o2 : Own w1.drew.drew v (viewC n.Y) T_api_SyncView := Own.drew o1
  refine h2.nd.ldA (Pn.mk ?_)
  rw [add_mk]
  have lo1 := hn.lo
  have hi1 := hn.mid.ap
  refine LdI.mk o2 rfl (Bm.neg (decide_eq_false (by show ¬ (n.ap < n.Y.L.base); omega)) (Pn.mk ?_))
  have E3 := E2.trans (Ext.drew [] _)
  have h3 := h.ext0 E3
  have o3 : Own w1.drew.drew.drew v (viewC n.Y) T_api_SyncView := Own.drew o2
  refine h3.nd.ldA (Pn.mk ?_)
  rw [add_mk]
  refine LdI.mk o3 rfl (Bm.neg (decide_eq_false (by show ¬ (n.ap > n.Y.cm); omega)) ?_)
  unfold node_Node_Check.L1
  refine ⟨fun m p' v' c w' => ∃ j : Nat, j ≤ 3 ∧ m = 3 - j ∧ some ⟨p, 0, none⟩ = p' ∧ some ⟨v, 0, none⟩ = v' ∧ c = (j : Int) ∧ Own w' v (viewC n.Y) T_api_SyncView ∧ Ext [] w w', _, ⟨0, by omega, rfl, rfl, rfl, rfl, o3, E3⟩, ?_⟩
  rintro m p' v' c wa ⟨j, hj, rfl, rfl, rfl, rfl, ova, ea⟩
  unfold node_Node_Check.L1b
  have ha := h.ext0 ea
  have hrl := h.rl
  by_cases hlt : (j : Int) < 3
  rotate_left
  · refine Bm.neg (decide_eq_false hlt) (Pn.mk (ha.nd.ldN (Bm.neg (decide_eq_false (by omega)) (Pn.mk (ha.nd.ldN ?_)))))
    rw [decide_eq_false (by omega)]
    unfold node_Node_Check.B3
    obtain ⟨f, n0, s0, oe, q1, q2, q3, q4, q5, q6⟩ := ha.en
    refine Bm.neg rfl (Pn.mk (ha.nd.ldE (Pn.mk ?_)))
    rw [add_mk]
    refine LdI.fn (o := 234) oe (by omega) q1 (Bm.neg (decide_eq_false (by omega)) (Pn.mk (ha.nd.ldE (Pn.mk ?_))))
    rw [add_mk]
    refine LdI.fn (o := 234) oe (by omega) q1 (Bm.neg (decide_eq_false (by omega)) (Pn.mk (ha.nd.ldE (Pn.mk ?_))))
    rw [add_mk]
    refine LdI.fn (o := 235) oe (by omega) q2 (Bm.neg (decide_eq_false (by omega)) (Pn.mk (ha.nd.ldE (Pn.mk ?_))))
    rw [add_mk]
    refine LdI.fn (o := 235) oe (by omega) q2 ?_
    rw [decide_eq_false (by omega)]
    unfold node_Node_Check.B5
    exact Bm.neg rfl (hR wa ea)
  have ix : (0 : Int) ≤ (j : Int) ∧ (j : Int) < ((3 : Nat) : Int) := ⟨by omega, by omega⟩
  obtain ⟨p1, p2⟩ := hn.mid.pend j (by omega)
  refine Bm.pos (decide_eq_true hlt) (Pn.mk ⟨ix, ha.nd.ldU (by omega) ?_⟩)
  cases hus : n.used j with
  | false =>
    obtain ⟨z1, z2⟩ := p2 hus
    refine Bm.pos rfl (Pn.mk ⟨ix, ha.nd.ldQ (by omega) (Bm.neg (by simp [z1]) (Pn.mk ⟨ix, ha.nd.ldI (by omega) ?_⟩))⟩)
    rw [show (n.idx j != 0) = false by simp [z2]]
    unfold node_Node_Check.B1
    exact Bm.neg rfl ⟨3 - (j + 1), by omega, j + 1, by omega, rfl, rfl, rfl, by rw [w64 (by omega) (by omega)]; omega, ova, ea⟩
  | true =>
    obtain ⟨s1, s2, s3⟩ := p1 hus
    obtain ⟨l1, l2⟩ := hn.lead j (by omega) hus
    refine Bm.neg rfl (Pn.mk ?_)
    rw [add_mk]
    refine LdI.mk ova rfl (Bm.neg (by show (n.Y.e.role != 2) = false; simp [l1]) (Pn.mk ⟨ix, ?_⟩))
    have ead := ea.trans (Ext.drew [] wa)
    have hd := h.ext0 ead
    have ovd : Own wa.drew v (viewC n.Y) T_api_SyncView := Own.drew ova
    refine hd.nd.ldI (by omega) (Pn.mk (hd.nd.ldA (Bm.neg (decide_eq_false (by omega)) (Pn.mk ⟨ix, hd.nd.ldI (by omega) (Pn.mk ?_)⟩))))
    rw [add_mk]
    refine LdI.mk ovd rfl ?_
    have s4 := s3 l1
    show node_Node_Check.B2 (some ⟨p, 0, none⟩) (some ⟨v, 0, none⟩) (j : Int) (decide (n.idx j > n.Y.L.last)) wa.drew _ R
    rw [decide_eq_false (by omega)]
    unfold node_Node_Check.B2
    refine Bm.neg rfl (Pn.mk ⟨ix, hd.nd.ldQ (by omega) (Bm.neg (decide_eq_false (by omega)) (Pn.mk ⟨ix, hd.nd.ldQ (by omega) ?_⟩))⟩)
    rw [decide_eq_false (by omega)]
    unfold node_Node_Check.B4
    exact Bm.neg rfl ⟨3 - (j + 1), by omega, j + 1, by omega, rfl, rfl, rfl, by rw [w64 (by omega) (by omega)]; omega, ovd, ead⟩
end
end Go.Proofs.Qxb6500430aGreat
