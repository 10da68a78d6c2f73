/-
  host: the law's wire.
-/
import Derived.Test.Qxb6500424aGreatHoM
import Derived.Test.Qxb6500424aGreatHqA
set_option linter.unusedVariables false
set_option linter.unusedSimpArgs false
open Go.Vc
namespace Go.Proofs.Qxb6500424aGreat
def flC (e : FL × Nat) : List Value := [.slice (some ⟨e.2, 0, none⟩) e.1.raw.length e.1.raw.length, .int .i64 e.1.age, .bool e.1.fl]
theorem flC_len (e : FL × Nat) : (flC e).length = 3 := rfl
/-- Written were blocks of these types, none below lo. -/
def ExtL (lo : Nat) (w w' : World) (ts : List TypeId) : Prop := ∃ X, Ext X w w' ∧ Tys w X ts ∧ ∀ x ∈ X, x < w.heap.size → lo ≤ x
section
variable {lo : Nat} {w w' w'' : World} {ts us : List TypeId}
theorem ExtL.of {X : List Nat} (h : Ext X w w') (ht : Tys w X ts) (hg : ∀ x ∈ X, lo ≤ x) : ExtL lo w w' ts := ⟨X, h, ht, fun x hx _ => hg x hx⟩
theorem ExtL.nil (h : Ext [] w w') (ts : List TypeId) : ExtL lo w w' ts := ⟨[], h, Tys.nil _ _, fun x hx => by cases hx⟩
theorem ExtL.refl (w : World) (ts : List TypeId) : ExtL lo w w ts := ExtL.nil (Ext.refl _ _) ts
theorem ExtL.t (h : ExtL lo w w' ts) : ExtT w w' ts := by
  obtain ⟨X, h1, h2, _⟩ := h
  exact ⟨X, h1, h2⟩
theorem ExtL.own {b : Nat} {c : Array Value} {t : TypeId} (h : ExtL lo w w' ts) (ho : Own w b c t) (ht : t ∉ ts) : Own w' b c t := h.t.own ho ht
theorem ExtL.row {b : Option Addr} {l c sz : Nat} {t : TypeId} {vs : List Value} (h : ExtL lo w w' ts) (hr : Row w b l c sz t vs) (ht : t ∉ ts) : Row w' b l c sz t vs := h.t.row hr ht
theorem ExtL.size (h : ExtL lo w w' ts) : w.heap.size ≤ w'.heap.size := h.t.size
theorem ExtL.mono (h : ExtL lo w w' ts) (hs : ∀ t ∈ ts, t ∈ us) : ExtL lo w w' us := by
  obtain ⟨X, h1, h2, h3⟩ := h
  exact ⟨X, h1, h2.mono hs, h3⟩
theorem ExtL.trans (h : ExtL lo w w' ts) (h' : ExtL lo w' w'' ts) : ExtL lo w w'' ts := by
  obtain ⟨X, he, hX, gX⟩ := h
  obtain ⟨Y, he', hY, gY⟩ := h'
  have hz := he.size
  refine ⟨X ++ Y, (he.mono fun x hx _ => List.mem_append.2 (.inl hx)).trans (he'.mono fun x hx _ => List.mem_append.2 (.inr hx)), fun k hk hl => ?_, fun k hk hl => ?_⟩
  · rcases List.mem_append.1 hk with q | q
    · exact hX k q hl
    · by_cases hkX : k ∈ X
      · exact hX k hkX hl
      · obtain ⟨cs, t, ho, ht⟩ := hY k q (by omega)
        exact ⟨cs, t, he.back hkX hl ho, ht⟩
  · rcases List.mem_append.1 hk with q | q
    · exact gX k q hl
    · exact gY k q (by omega)
/-- The block p and the row that it holds in its first cell lie at lo or above. -/
def GeC (lo : Nat) (w : World) (p : Nat) (T : TypeId) : Prop := lo ≤ p ∧ ∀ cs b l c, Own w p cs T → cs[0]? = some (.slice b l c) → ∀ k ∈ rowBlk b, lo ≤ k
variable {p : Nat} {T : TypeId} {cs : Array Value} {b : Option Addr} {l c : Nat}
theorem GeC.of (o : Own w p cs T) (hc : cs[0]? = some (.slice b l c)) (h1 : lo ≤ p) (h2 : ∀ k ∈ rowBlk b, lo ≤ k) : GeC lo w p T :=
  ⟨h1, fun cs' b' l' c' o' hc' => by
    rw [← (o.unique o').1, hc] at hc'
    cases hc'
    exact h2⟩
theorem GeC.row (h : GeC lo w p T) (o : Own w p cs T) (hc : cs[0]? = some (.slice b l c)) : ∀ k ∈ rowBlk b, lo ≤ k := h.2 cs b l c o hc
theorem GeC.same (h : GeC lo w p T) (o : Own w p cs T) (o' : Own w' p cs T) : GeC lo w' p T :=
  ⟨h.1, fun cs' b' l' c' ho hc => by
    rw [← (o'.unique ho).1] at hc
    exact h.2 cs b' l' c' o hc⟩
end
structure WireAt (lo : Nat) (w : World) (p : Nat) (W : List (FL × Nat)) : Prop where
  ex : ∃ b l c, Own w p #[.slice b l c] T_wirem_Wire ∧ Row w b l c 3 T_wirem_Flight (W.flatMap flC)
  dat : ∀ e ∈ W, Bf w e.2 e.1.raw
  nd : W.Pairwise fun a b => a.2 ≠ b.2
  len : W.length ≤ 64
  ge : GeC lo w p T_wirem_Wire
  geD : ∀ e ∈ W, lo ≤ e.2
def wireTys : List TypeId := [T_wirem_Wire, T_wirem_Flight]
section
variable {lo : Nat} {w w' : World} {p : Nat} {W : List (FL × Nat)}
theorem WireAt.extT {ts : List TypeId} (h : WireAt lo w p W) (he : ExtT w w' ts) (h1 : T_wirem_Wire ∉ ts) (h2 : T_wirem_Flight ∉ ts) (h3 : T_uint8 ∉ ts) : WireAt lo w' p W := by
  obtain ⟨b, l, c, o, r⟩ := h.ex
  exact ⟨⟨b, l, c, he.own o h1, he.row r h2⟩, fun e hm => ⟨he.own (h.dat e hm).1 h3, (h.dat e hm).2⟩, h.nd, h.len, h.ge.same o (he.own o h1), h.geD⟩
theorem WireAt.ext {X : List Nat} {ts : List TypeId} (h : WireAt lo w p W) (he : Ext X w w') (hX : Tys w X ts) (h1 : T_wirem_Wire ∉ ts) (h2 : T_wirem_Flight ∉ ts) (h3 : ∀ e ∈ W, e.2 ∉ X) : WireAt lo w' p W := by
  obtain ⟨b, l, c, o, r⟩ := h.ex
  exact ⟨⟨b, l, c, ownT he hX o h1, rowT r he hX h2⟩, fun e hm => (h.dat e hm).ext he (h3 e hm), h.nd, h.len, h.ge.same o (ownT he hX o h1), h.geD⟩
theorem WireAt.ext0 (h : WireAt lo w p W) (he : Ext [] w w') : WireAt lo w' p W := h.ext he (Tys.nil _ []) (by simp) (by simp) (fun e _ q => by cases q)
theorem WireAt.rlen {b : Option Addr} {l c : Nat} (hr : Row w b l c 3 T_wirem_Flight (W.flatMap flC)) : l = W.length := by
  have h1 := hr.1
  have h2 := flat_length flC_len W
  omega
theorem wNew_ok {R : Option Addr → World → Prop} (hlo : lo ≤ w.heap.size) (hR : ∀ p w', w.heap.size ≤ p → p < w'.heap.size → WireAt lo w' p [] → Ext [] w w' → R (some ⟨p, 0, none⟩) w') : wirem_New.Call w R := by
  apply wirem_New.sound
  unfold wirem_New.B0
  refine New.mk fun p w1 hp hs ho he => hR p w1 (by omega) ho.lt ⟨⟨none, 0, 0, ho, Row.nil _ _ _⟩, fun e he => (by cases he), .nil, by simp, GeC.of ho rfl (by omega) (fun k hk => by cases hk), fun e he => (by cases he)⟩ he
theorem wLen_ok {R : Int → World → Prop} (h : WireAt lo w p W) (hR : R (W.length : Int) w) : wirem_Wire_Len.Call (some ⟨p, 0, none⟩) w R := by
  apply wirem_Wire_Len.sound
  unfold wirem_Wire_Len.B0
  obtain ⟨b, l, c, o, r⟩ := h.ex
  refine Pn.mk (LdL.mk o rfl ?_)
  rw [WireAt.rlen r]
  exact hR
theorem wPut_ok {rb : Option Addr} {rl rc : Nat} {raw : List Int} {R : Bool → World → Prop} (h : WireAt lo w p W) (hr : Rd w rb raw) (hl : raw.length = rl) (hbig : rl ≤ 281474976710656)
    (hfull : 64 ≤ W.length → R false w)
    (hput : W.length < 64 → ∀ k w', w.heap.size ≤ k → WireAt lo w' p (W ++ [(⟨raw, 0, false⟩, k)]) → ExtL lo w w' wireTys → R true w') : wirem_Wire_Put.Call (some ⟨p, 0, none⟩) rb rl rc w R := by
  apply wirem_Wire_Put.sound
  unfold wirem_Wire_Put.B0
  obtain ⟨b, l, c, o, r⟩ := h.ex
  have hlen := WireAt.rlen r
  refine Pn.mk (LdL.mk o rfl (Bm.ite (fun q => hfull (by omega)) (fun q => Pn.mk (LdL.mk o.drew rfl ?_))))
  refine copyBytes_ok (hr.ext0 (Ext.drew _ _)) hl hbig fun k w1 hk hs1 hf1 he1 => ?_
  have E1 : Ext [] w w1 := (Ext.drew _ _).trans he1
  have o1 := E1.own o (by simp)
  refine ⟨o1.cell rfl, New.mk fun nb w2 enb hs2 onb he2 => ⟨(he2.own o1 (by simp)).cell rfl, ?_⟩⟩
  have E2 := E1.trans he2
  have o2 := E2.own o (by simp)
  have r2 := r.ext E2 (fun _ _ q => by cases q)
  refine Vc.Append.mk (e := 129) (news := flC (⟨raw, 0, false⟩, k)) r2 (CellsAt.own onb (fun j v hj => by
    have : (flC (⟨raw, 0, false⟩, k)) = [.slice (some ⟨k, 0, none⟩) rl rl, .int .i64 0, .bool false] := by unfold flC; rw [hl]
    rw [this] at hj
    simpa using hj)) rfl rfl rfl (by omega) (by omega) fun b3 c3 w3 r3 he3 hb3 => Pn.mk ?_
  have hpb : p ∉ rowBlk b := fun q => by
    obtain ⟨cs, ho⟩ := r2.ty q
    exact Own.ne_type o2 ho (by decide) rfl
  have o3 := he3.own o2 hpb
  have ty2 : Tys w2 (rowBlk b) [T_wirem_Flight] := Tys.row r2
  have hz : w.drew.heap.size = w.heap.size := rfl
  refine Sts.full (vs := [.slice b3 (l + 1) c3]) o3 rfl rfl fun w4 hs4 o4 he4 => ?_
  have ty3 : Tys w3 [p] [T_wirem_Wire] := Tys.one o3
  have hlp := h.ge.1
  have hpl := o.lt
  have gr := h.ge.row o rfl
  have z1 := he1.size
  have z2 := he2.size
  have gb : ∀ y ∈ rowBlk b3, lo ≤ y := fun y hy => by
    rcases hb3 y hy with q | q
    · exact gr y q
    · omega
  refine hput (by omega) k w4 (by omega) ⟨⟨b3, l + 1, c3, o4, ?_⟩, fun e he => ?_, ?_, by simp; omega, GeC.of o4 rfl h.ge.1 gb, fun e he => ?_⟩ ?_
  · rw [List.flatMap_append]
    have : Row w3 b3 (l + 1) c3 3 T_wirem_Flight (W.flatMap flC ++ [(⟨raw, 0, false⟩, k)].flatMap flC) := by simpa using r3
    exact rowT this he4 ty3 (by decide)
  · rcases List.mem_append.1 he with q' | q'
    · have hd := h.dat e q'
      have h2 := hd.ext0 E2
      exact ⟨ownT he4 ty3 (ownT he3 ty2 h2.1 (by decide)) (by decide), h2.2⟩
    · rw [List.mem_singleton.1 q']
      have h2 := hf1.ext0 he2
      exact ⟨ownT he4 ty3 (ownT he3 ty2 h2.1 (by decide)) (by decide), h2.2⟩
  · refine List.pairwise_append.2 ⟨h.nd, List.pairwise_singleton _ _, fun a ha b' hb' => ?_⟩
    rw [List.mem_singleton.1 hb']
    have := (h.dat a ha).lt
    show a.2 ≠ k
    omega
  · rcases List.mem_append.1 he with q' | q'
    · exact h.geD e q'
    · rw [List.mem_singleton.1 q']
      show lo ≤ k
      omega
  · exact ((ExtL.nil E2 _).trans ((ExtL.of he3 ty2 gr).mono (by decide))).trans ((ExtL.of he4 ty3 (fun x hx => by simp at hx; omega)).mono (by decide))
end
end Go.Proofs.Qxb6500424aGreat
