/-
  hostlaw: the law's world: what may happen to it.
-/
import Derived.Test.Qxb6500424aGreatHmA
set_option linter.unusedVariables false
set_option linter.unusedSimpArgs false
open Go.Vc
namespace Go.Proofs.Qxb6500424aGreat
structure LawAt (w0 w : World) (a : Nat) (m : LH) (r : LR) (k : LC) : Prop where
  own : Own w a (fnArr 50 (lawF m r k)) T_hostlaw_World
  h : LHost w0.heap.size w m
  r : LRest w0.heap.size w r
  ge : w0.heap.size ≤ a
  ext : Ext [] w0 w
section
variable {w0 w w' : World} {a c : Nat} {m : LH} {r : LR} {k : LC}
theorem _root_.Go.Vc.Ext.above {Y : List Nat} (h : Ext [] w0 w) (he : Ext Y w w') (hg : ∀ y ∈ Y, y < w.heap.size → w0.heap.size ≤ y) : Ext [] w0 w' := by
  have hz := h.size
  exact h.trans' he (fun y hy hl => absurd (hg y hy (by omega)) (by omega))
theorem LawAt.sz (h : LawAt w0 w a m r k) : w0.heap.size ≤ w.heap.size := h.ext.size
theorem LawAt.ext0 (h : LawAt w0 w a m r k) (he : Ext [] w w') : LawAt w0 w' a m r k :=
  ⟨he.own h.own (by simp), h.h.ext0 he, h.r.ext0 he, h.ge, h.ext.trans he⟩
theorem LawAt.drew (h : LawAt w0 w a m r k) : LawAt w0 w.drew a m r k := h.ext0 (Ext.drew _ _)
/-- Somebody else's blocks are written. -/
theorem LawAt.keep {Y : List Nat} (h : LawAt w0 w a m r k) (he : Ext Y w w') (hg : ∀ y ∈ Y, y < w.heap.size → w0.heap.size ≤ y)
    (hY : ∀ y ∈ Y, y < w.heap.size → (∃ cs t, Own w y cs t ∧ t ∉ restTys ∧ t ∉ hostTys ∧ t ≠ T_hostlaw_World) ∧ ¬ U8F r y ∧ ¬ F81 r y ∧ ¬ IF r y) : LawAt w0 w' a m r k := by
  refine ⟨he.own h.own fun q => ?_, ?_, h.r.keep he fun y hy hl => ?_, h.ge, h.ext.above he hg⟩
  · obtain ⟨⟨cs, t, o, _, _, hn⟩, _⟩ := hY a q h.own.lt
    exact hn ((o.unique h.own).2)
  · have nin : ∀ {B : HB} {x : HS}, HostAt w B x → ∀ y ∈ B.all, y ∉ Y := fun kk y hy q => by
      obtain ⟨cs, t, o, ht⟩ := kk.tys y hy (kk.lt y hy)
      obtain ⟨⟨cs', t', o', _, hn, _⟩, _⟩ := hY y q (kk.lt y hy)
      rw [← (o.unique o').2] at hn
      exact hn ht
    exact ⟨fun c hc => (h.h.H c hc).keep he (nin (h.h.H c hc)), fun q c hc => (h.h.J q c hc).keep he (nin (h.h.J q c hc)), h.h.dHH, h.h.dQQ, h.h.dHQ, h.h.geH, h.h.geQ⟩
  · obtain ⟨⟨cs, t, o, h1, _, _⟩, h2⟩ := hY y hy hl
    exact ⟨⟨cs, t, o, h1⟩, h2⟩
/-- One block of bytes, numbers or slices that is not the law's. -/
theorem LawAt.one {y : Nat} {cs : Array Value} {t : TypeId} (h : LawAt w0 w a m r k) (he : Ext [y] w w') (hg : w0.heap.size ≤ y) (ho : Own w y cs t) (ht : t ∉ restTys ∧ t ∉ hostTys ∧ t ≠ T_hostlaw_World) (hn : ¬ U8F r y ∧ ¬ F81 r y ∧ ¬ IF r y) : LawAt w0 w' a m r k :=
  h.keep he (fun z hz _ => by simp at hz; omega) (fun z hz _ => by simp at hz; subst hz; exact ⟨⟨cs, t, ho, ht⟩, hn⟩)
theorem LawAt.host {h' : HS} (h : LawAt w0 w a m r k) (hc : c < 3) (kk : HostAt w' (m.BH c) h') (he : Ext (m.BH c).all w w') : LawAt w0 w' a (m.setH c h') r k := by
  have ty := (h.h.H c hc).tys
  refine ⟨ownT he ty h.own (by decide), h.h.host hc kk he, h.r.extT (ExtT.of he ty) (by decide), h.ge, h.ext.above he fun y hy _ => h.h.geH c hc y hy⟩
theorem LawAt.twin {h' : HS} (h : LawAt w0 w a m r k) (hc : c < 3) (hq : m.qu = true) (kk : HostAt w' (m.BQ c) h') (he : Ext (m.BQ c).all w w') : LawAt w0 w' a (m.setJ c h') r k := by
  have ty := (h.h.J hq c hc).tys
  refine ⟨ownT he ty h.own (by decide), h.h.twin hc hq kk he, h.r.extT (ExtT.of he ty) (by decide), h.ge, h.ext.above he fun y hy _ => h.h.geQ hq c hc y hy⟩
theorem extL_above {ts : List TypeId} (h : Ext [] w0 w) (he : ExtL w0.heap.size w w' ts) : Ext [] w0 w' := by
  obtain ⟨X, h1, _, h3⟩ := he
  exact h.above h1 h3
theorem LawAt.wire {W' : List (FL × Nat)} (h : LawAt w0 w a m r k) (hw : WireAt w0.heap.size w' r.wp W') (he : ExtL w0.heap.size w w' wireTys) (hW : ∀ e ∈ W', (∃ e0 ∈ r.W, e0.2 = e.2) ∨ w.heap.size ≤ e.2) : LawAt w0 w' a m { r with W := W' } k := by
  have ht := he.t
  refine ⟨ht.own h.own (by decide), h.h.extT ht (by decide), ⟨hw, h.r.N.extT ht (by decide) (by decide) (by decide), fun c hc => ht.row (h.r.sn c hc) (by decide), ht.row h.r.R (by decide), h.r.I.extT ht (by decide) (by decide), h.r.M.extT ht (by decide) (by decide), h.r.O.extT ht (by decide) (by decide), h.r.tl, fun j k hj => ⟨ht.own (h.r.tok j k hj).1 (by decide), (h.r.tok j k hj).2⟩, fun e hm => ?_, h.r.sepM, h.r.geR, h.r.geI, h.r.geM, h.r.geO, fun e he => ht.own (h.r.x e he) (by decide)⟩, h.ge, extL_above h.ext he⟩
  rcases hW e hm with ⟨e0, h0, e1⟩ | q
  · rw [← e1]; exact h.r.sepW e0 h0
  · exact fun z => (h.r.fresh q).1 (.inl z)
theorem LawAt.net {N' : List PEM} {del' : Nat → Int} (h : LawAt w0 w a m r k) (hw : NetAt w0.heap.size w' r.np N' del') (he : ExtL w0.heap.size w w' [T_hostm_Net, T_hostm_End]) (hW : ∀ x ∈ N', ∀ y, y ∈ rowBlk x.sb ∨ y ∈ rowBlk x.rb → PU r y ∨ w.heap.size ≤ y) : LawAt w0 w' a m { r with N := N', del := del' } k := by
  have ht := he.t
  refine ⟨ht.own h.own (by decide), h.h.extT ht (by decide), ⟨h.r.W.extT ht (by decide) (by decide) (by decide), hw, fun c hc => ht.row (h.r.sn c hc) (by decide), ht.row h.r.R (by decide), h.r.I.extT ht (by decide) (by decide), h.r.M.extT ht (by decide) (by decide), h.r.O.extT ht (by decide) (by decide), h.r.tl, fun j k hj => ⟨ht.own (h.r.tok j k hj).1 (by decide), (h.r.tok j k hj).2⟩, fun e hm q => ?_, h.r.sepM, h.r.geR, h.r.geI, h.r.geM, h.r.geO, fun e he => ht.own (h.r.x e he) (by decide)⟩, h.ge, extL_above h.ext he⟩
  rcases q with q | q | ⟨x, hx, q⟩
  · exact h.r.sepW e hm (.inl q)
  · exact h.r.sepW e hm (.inr (.inl q))
  · rcases hW x hx e.2 q with z | z
    · exact h.r.sepW e hm z
    · have := (h.r.W.dat e hm).lt; omega
/-- The world's own cells. -/
theorem LawAt.stG {r' : LR} {k' : LC} {o : Nat} {v : Value} {K : World → Prop} (own : Own w a (fnArr 50 (lawF m r k)) T_hostlaw_World) (hh : LHost w0.heap.size w m) (hr : LRest w0.heap.size w r') (ge : w0.heap.size ≤ a) (ext : Ext [] w0 w) (ho : o < 50) (h1 : v.oneCell' = true) (hg : ∀ j, j < 50 → (if j = o then v else lawF m r k j) = lawF m r' k' j)
    (hK : ∀ w', w'.heap.size = w.heap.size → LawAt w0 w' a m r' k' → Ext [a] w w' → K w') : Sts [v] ⟨a, o, none⟩ 0 w K := by
  refine Sts.fn own (by simp; omega) (by simp [h1]) (g := lawF m r' k') (fun j hj => ?_) fun w' hs ho' he => ?_
  · rw [← hg j hj]
    unfold fnPut
    by_cases q : j = o
    · subst q; simp
    · rw [if_neg (by simp; omega), if_neg q]
  · have ht : ExtT w w' [T_hostlaw_World] := ExtT.of he (Tys.one own)
    exact hK w' hs ⟨ho', hh.extT ht (by decide), hr.extT ht (by decide), ge, ext.above he (fun y hy _ => by simp at hy; omega)⟩ he
theorem LawAt.stC {k' : LC} {o : Nat} {v : Value} {K : World → Prop} (h : LawAt w0 w a m r k) (ho : o < 50) (h1 : v.oneCell' = true) (hg : ∀ j, j < 50 → (if j = o then v else lawF m r k j) = lawF m r k' j)
    (hK : ∀ w', w'.heap.size = w.heap.size → LawAt w0 w' a m r k' → Ext [a] w w' → K w') : Sts [v] ⟨a, o, none⟩ 0 w K := LawAt.stG h.own h.h h.r h.ge h.ext ho h1 hg hK
/-! ### the cells, one by one -/
def updI (f : Nat → Int) (c : Nat) (v : Int) : Nat → Int := fun j => if j = c then v else f j
theorem updI_at (f : Nat → Int) (c : Nat) (v : Int) : updI f c v c = v := by simp [updI]
theorem updI_ne {f : Nat → Int} {c d : Nat} {v : Int} (h : d ≠ c) : updI f c v d = f d := by unfold updI; rw [if_neg h]
theorem addA (a x : Nat) : Addr.add ⟨a, 0, none⟩ x = ⟨a, x, none⟩ := by rw [add_mk, Nat.zero_add]
theorem addC (a x c : Nat) : Addr.add (Addr.add ⟨a, 0, none⟩ x) ((c : Int).toNat * 1) = ⟨a, x + c, none⟩ := by rw [add2, Int.toNat_natCast, Nat.mul_one]
theorem addC0 (a c : Nat) : Addr.add ⟨a, 0, none⟩ ((c : Int).toNat * 1) = ⟨a, c, none⟩ := by rw [addA, Int.toNat_natCast, Nat.mul_one]
theorem LawAt.ldH {K : Option Addr → Prop} (h : LawAt w0 w a m r k) (hc : c < 3) (hk : K (some ⟨(m.BH c).hp, 0, none⟩)) : LdP (Addr.add ⟨a, 0, none⟩ ((c : Int).toNat * 1)) w K := by
  rw [addC0]
  exact LdP.fn h.own (by omega) (by unfold lawF pt; rw [if_pos hc]) hk
theorem LawAt.ldQ {K : Option Addr → Prop} (h : LawAt w0 w a m r k) (hc : c < 3) (hq : m.qu = true) (hk : K (some ⟨(m.BQ c).hp, 0, none⟩)) : LdP (Addr.add (Addr.add ⟨a, 0, none⟩ 24) ((c : Int).toNat * 1)) w K := by
  rw [addC]
  refine LdP.fn h.own (by omega) ?_ hk
  unfold lawF
  rw [if_neg (by omega), if_neg (by omega), if_pos (by omega), if_pos hq, show 24 + c - 24 = c by omega]
theorem LawAt.below (h : LawAt w0 w a m r k) (hc : c < 3) {o : Nat} (ho : o < 7) : lawF m r k (3 + c * 7 + o) = belowF (m.BH c) o := by
  unfold lawF
  rw [if_neg (by omega), if_pos (by omega), show (3 + c * 7 + o - 3) / 7 = c by omega, show (3 + c * 7 + o - 3) % 7 = o by omega]
theorem LawAt.ldQu {K : Bool → Prop} (h : LawAt w0 w a m r k) (hk : K m.qu) : LdB (Addr.add ⟨a, 0, none⟩ 27) w K := by
  rw [addA]
  exact LdB.fn h.own (by omega) rfl hk
theorem LawAt.ldW {K : Option Addr → Prop} (h : LawAt w0 w a m r k) (hk : K (some ⟨r.wp, 0, none⟩)) : LdP (Addr.add ⟨a, 0, none⟩ 29) w K := by
  rw [addA]
  exact LdP.fn h.own (by omega) rfl hk
theorem LawAt.ldN {K : Option Addr → Prop} (h : LawAt w0 w a m r k) (hk : K (some ⟨r.np, 0, none⟩)) : LdP (Addr.add ⟨a, 0, none⟩ 30) w K := by
  rw [addA]
  exact LdP.fn h.own (by omega) rfl hk
theorem lawF_top (m : LH) (r : LR) (k : LC) (hc : c < 3) : lawF m r k (31 + c) = .int .i64 (k.top c) := by
  unfold lawF
  rw [if_neg (by omega), if_neg (by omega), if_neg (by omega), if_neg (by omega), if_neg (by omega), if_neg (by omega), if_neg (by omega), if_pos (by omega), show 31 + c - 31 = c by omega]
theorem lawF_seen (m : LH) (r : LR) (k : LC) (hc : c < 3) : lawF m r k (34 + c) = .slice (r.sb c) (r.sn c).length (r.sc c) := by
  unfold lawF
  rw [if_neg (by omega), if_neg (by omega), if_neg (by omega), if_neg (by omega), if_neg (by omega), if_neg (by omega), if_neg (by omega), if_neg (by omega), if_pos (by omega), show 34 + c - 34 = c by omega]
theorem lawF_lost (m : LH) (r : LR) (k : LC) (hc : c < 3) : lawF m r k (37 + c) = .int .i64 (k.lost c) := by
  unfold lawF
  rw [if_neg (by omega), if_neg (by omega), if_neg (by omega), if_neg (by omega), if_neg (by omega), if_neg (by omega), if_neg (by omega), if_neg (by omega), if_neg (by omega), if_pos (by omega), show 37 + c - 37 = c by omega]
theorem lawF_out (m : LH) (r : LR) (k : LC) (hc : c < 3) : lawF m r k (40 + c) = .int .i64 (k.out c) := by
  unfold lawF
  rw [if_neg (by omega), if_neg (by omega), if_neg (by omega), if_neg (by omega), if_neg (by omega), if_neg (by omega), if_neg (by omega), if_neg (by omega), if_neg (by omega), if_neg (by omega), if_pos (by omega), show 40 + c - 40 = c by omega]
theorem LawAt.ldTop {K : Int → Prop} (h : LawAt w0 w a m r k) (hc : c < 3) (hk : K (k.top c)) : LdI .i64 (Addr.add (Addr.add ⟨a, 0, none⟩ 31) ((c : Int).toNat * 1)) w K := by
  rw [addC]
  exact LdI.fn h.own (by omega) (lawF_top m r k hc) hk
theorem LawAt.ldSeen {K : Option Addr → Nat → Nat → Prop} (h : LawAt w0 w a m r k) (hc : c < 3) (hk : K (r.sb c) (r.sn c).length (r.sc c)) : LdL (Addr.add (Addr.add ⟨a, 0, none⟩ 34) ((c : Int).toNat * 1)) w K := by
  rw [addC]
  exact LdL.fn h.own (by omega) (lawF_seen m r k hc) hk
theorem LawAt.ldLost {K : Int → Prop} (h : LawAt w0 w a m r k) (hc : c < 3) (hk : K (k.lost c)) : LdI .i64 (Addr.add (Addr.add ⟨a, 0, none⟩ 37) ((c : Int).toNat * 1)) w K := by
  rw [addC]
  exact LdI.fn h.own (by omega) (lawF_lost m r k hc) hk
theorem LawAt.ldOut {K : Int → Prop} (h : LawAt w0 w a m r k) (hc : c < 3) (hk : K (k.out c)) : LdI .i64 (Addr.add (Addr.add ⟨a, 0, none⟩ 40) ((c : Int).toNat * 1)) w K := by
  rw [addC]
  exact LdI.fn h.own (by omega) (lawF_out m r k hc) hk
theorem LawAt.ldI {o : Nat} {v : Int} {K : Int → Prop} (h : LawAt w0 w a m r k) (ho : o < 50) (hv : lawF m r k o = .int .i64 v) (hk : K v) : LdI .i64 (Addr.add ⟨a, 0, none⟩ o) w K := by
  rw [addA]
  exact LdI.fn h.own ho hv hk
theorem LawAt.ldB {o : Nat} {v : Bool} {K : Bool → Prop} (h : LawAt w0 w a m r k) (ho : o < 50) (hv : lawF m r k o = .bool v) (hk : K v) : LdB (Addr.add ⟨a, 0, none⟩ o) w K := by
  rw [addA]
  exact LdB.fn h.own ho hv hk
theorem LawAt.ldL {o : Nat} {b : Option Addr} {l cc : Nat} {K : Option Addr → Nat → Nat → Prop} (h : LawAt w0 w a m r k) (ho : o < 50) (hv : lawF m r k o = .slice b l cc) (hk : K b l cc) : LdL (Addr.add ⟨a, 0, none⟩ o) w K := by
  rw [addA]
  exact LdL.fn h.own ho hv hk
theorem ne_c {j : Nat} {F : Nat → Value} {G : Nat → Value} {v : Value} {o : Nat} (h0 : G o = v) (h1 : j ≠ o → F j = G j) : (if j = o then v else F j) = G j := by
  by_cases q : j = o
  · rw [if_pos q, q, h0]
  · rw [if_neg q, h1 q]
theorem LawAt.stTop {v : Int} {K : World → Prop} (h : LawAt w0 w a m r k) (hc : c < 3) (hK : ∀ w', w'.heap.size = w.heap.size → LawAt w0 w' a m r { k with top := updI k.top c v } → Ext [a] w w' → K w') : Sts [.int .i64 v] (Addr.add (Addr.add ⟨a, 0, none⟩ 31) ((c : Int).toNat * 1)) 0 w K := by
  rw [addC]
  refine h.stC (k' := { k with top := updI k.top c v }) (by omega) rfl (fun j hj => ne_c ?_ fun hjn => ?_) hK
  · rw [lawF_top _ _ _ hc]; show Value.int .i64 (updI k.top c v c) = _; rw [updI_at]
  · unfold lawF
    by_cases q : j < 34 ∧ 31 ≤ j
    · simp only [show ¬ j < 3 by omega, show ¬ j < 24 by omega, show ¬ j < 27 by omega, show ¬ j = 27 by omega, show ¬ j = 28 by omega, show ¬ j = 29 by omega, show ¬ j = 30 by omega, show j < 34 by omega, if_true, if_false]
      rw [updI_ne (by omega)]
    · by_cases q2 : j < 31
      · simp only [show j < 34 by omega, if_true]
        repeat' split
        all_goals first | rfl | omega
      · simp only [show ¬ j < 34 by omega, if_false]
theorem LawAt.stLost {v : Int} {K : World → Prop} (h : LawAt w0 w a m r k) (hc : c < 3) (hK : ∀ w', w'.heap.size = w.heap.size → LawAt w0 w' a m r { k with lost := updI k.lost c v } → Ext [a] w w' → K w') : Sts [.int .i64 v] (Addr.add (Addr.add ⟨a, 0, none⟩ 37) ((c : Int).toNat * 1)) 0 w K := by
  rw [addC]
  refine h.stC (k' := { k with lost := updI k.lost c v }) (by omega) rfl (fun j hj => ne_c ?_ fun hjn => ?_) hK
  · rw [lawF_lost _ _ _ hc]; show Value.int .i64 (updI k.lost c v c) = _; rw [updI_at]
  · by_cases q : 37 ≤ j ∧ j < 40
    · obtain ⟨d, rfl⟩ : ∃ d, j = 37 + d := ⟨j - 37, by omega⟩
      rw [lawF_lost _ _ _ (by omega), lawF_lost _ _ _ (by omega)]
      show _ = Value.int .i64 (updI k.lost c v d)
      rw [updI_ne (by omega)]
    · unfold lawF
      by_cases q2 : j < 37
      · simp only [show j < 40 by omega, show j < 37 by omega, if_true]
      · simp only [show ¬ j < 40 by omega, if_false]
theorem LawAt.stOut {v : Int} {K : World → Prop} (h : LawAt w0 w a m r k) (hc : c < 3) (hK : ∀ w', w'.heap.size = w.heap.size → LawAt w0 w' a m r { k with out := updI k.out c v } → Ext [a] w w' → K w') : Sts [.int .i64 v] (Addr.add (Addr.add ⟨a, 0, none⟩ 40) ((c : Int).toNat * 1)) 0 w K := by
  rw [addC]
  refine h.stC (k' := { k with out := updI k.out c v }) (by omega) rfl (fun j hj => ne_c ?_ fun hjn => ?_) hK
  · rw [lawF_out _ _ _ hc]; show Value.int .i64 (updI k.out c v c) = _; rw [updI_at]
  · by_cases q : 40 ≤ j ∧ j < 43
    · obtain ⟨d, rfl⟩ : ∃ d, j = 40 + d := ⟨j - 40, by omega⟩
      rw [lawF_out _ _ _ (by omega), lawF_out _ _ _ (by omega)]
      show _ = Value.int .i64 (updI k.out c v d)
      rw [updI_ne (by omega)]
    · unfold lawF
      by_cases q2 : j < 40
      · simp only [show j < 43 by omega, show j < 40 by omega, if_true]
      · simp only [show ¬ j < 43 by omega, if_false]
theorem lawF_other {r' : LR} {k' : LC} {o j : Nat} (ho : 43 ≤ o ∨ o = 28) (hj : j ≠ o) (h1 : r'.wp = r.wp ∧ r'.np = r.np ∧ r'.sb = r.sb ∧ r'.sn = r.sn ∧ r'.sc = r.sc) (h2 : k'.top = k.top ∧ k'.lost = k.lost ∧ k'.out = k.out)
    (h3 : (o = 28 ∨ k'.calm = k.calm) ∧ (o = 43 ∨ k'.tk = k.tk) ∧ (o = 44 ∨ k'.fl = k.fl) ∧ (o = 45 ∨ k'.sp = k.sp) ∧ (o = 46 ∨ (r'.rb = r.rb ∧ r'.R = r.R ∧ r'.rc = r.rc)) ∧ (o = 47 ∨ r'.I = r.I) ∧ (o = 48 ∨ r'.O = r.O) ∧ (o = 49 ∨ r'.M = r.M)) (hl : j < 50) : lawF m r k j = lawF m r' k' j := by
  obtain ⟨e1, e2, e3, e4, e5⟩ := h1
  obtain ⟨e6, e7, e8⟩ := h2
  obtain ⟨c1, c2, c3, c4, c5, c6, c7, c8⟩ := h3
  unfold lawF
  rw [e1, e2, e3, e4, e5, e6, e7, e8]
  by_cases q : j < 43 ∧ j ≠ 28
  · by_cases q2 : j < 28
    · simp only [show j < 34 by omega, show j < 37 by omega, show j < 40 by omega, show j < 43 by omega, show ¬ j = 28 by omega, show ¬ j = 29 by omega, show ¬ j = 30 by omega, if_true, if_false]
    · simp only [show ¬ j < 3 by omega, show ¬ j < 24 by omega, show ¬ j < 27 by omega, show ¬ j = 27 by omega, show ¬ j = 28 by omega, show j < 43 by omega, if_true, if_false]
  · by_cases q2 : j = 28
    · subst q2
      simp only [show ¬ 28 < 3 by omega, show ¬ 28 < 24 by omega, show ¬ 28 < 27 by omega, show ¬ 28 = 27 by omega, if_true, if_false]
      rcases c1 with z | z
      · omega
      · rw [z]
    · simp only [show ¬ j < 3 by omega, show ¬ j < 24 by omega, show ¬ j < 27 by omega, show ¬ j = 27 by omega, show ¬ j = 28 by omega, show ¬ j = 29 by omega, show ¬ j = 30 by omega, show ¬ j < 34 by omega, show ¬ j < 37 by omega, show ¬ j < 40 by omega, show ¬ j < 43 by omega, if_true, if_false]
      have h43 : j = 43 → k.tk = k'.tk := fun e => c2.elim (fun z => by omega) (fun z => z.symm)
      have h44 : j = 44 → k.fl = k'.fl := fun e => c3.elim (fun z => by omega) (fun z => z.symm)
      have h45 : j = 45 → k.sp = k'.sp := fun e => c4.elim (fun z => by omega) (fun z => z.symm)
      have h46 : j = 46 → r.rb = r'.rb ∧ r.R = r'.R ∧ r.rc = r'.rc := fun e => c5.elim (fun z => by omega) (fun z => ⟨z.1.symm, z.2.1.symm, z.2.2.symm⟩)
      have h47 : j = 47 → r.I = r'.I := fun e => c6.elim (fun z => by omega) (fun z => z.symm)
      have h48 : j = 48 → r.O = r'.O := fun e => c7.elim (fun z => by omega) (fun z => z.symm)
      have h49 : j = 49 → r.M = r'.M := fun e => c8.elim (fun z => by omega) (fun z => z.symm)
      split
      · rename_i e; rw [h43 e]
      split
      · rename_i e; rw [h44 e]
      split
      · rename_i e; rw [h45 e]
      split
      · rename_i e; rw [(h46 e).1, (h46 e).2.1, (h46 e).2.2]
      split
      · rename_i e; rw [h47 e]
      split
      · rename_i e; rw [h48 e]
      · rw [h49 (by omega)]
end
end Go.Proofs.Qxb6500424aGreat
