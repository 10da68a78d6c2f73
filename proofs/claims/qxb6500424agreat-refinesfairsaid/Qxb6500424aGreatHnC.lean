/-
  host: the abstract network's memory: reading and setting the cells of an end, as the Go text does.
-/
import Derived.Test.Qxb6500424aGreatHnB
set_option linter.unusedVariables false
set_option linter.unusedSimpArgs false
open Go.Vc
namespace Go.Proofs.Qxb6500424aGreat
section
variable {lo : Nat} {w w' : World} {p : Nat} {N : List PEM} {del : Nat → Int} {i : Int} {j : Nat} {x : PEM}
theorem NetAt.ext {X : List Nat} {ts : List TypeId} (h : NetAt lo w p N del) (he : Ext X w w') (hX : Tys w X ts) (h1 : T_hostm_Net ∉ ts) (h2 : T_hostm_End ∉ ts) (h3 : ∀ x ∈ N, (∀ k ∈ rowBlk x.sb, k ∉ X) ∧ ∀ k ∈ rowBlk x.rb, k ∉ X) : NetAt lo w' p N del := by
  obtain ⟨b, l, c, o, r⟩ := h.ex
  exact ⟨⟨b, l, c, ownT he hX o h1, rowT r he hX h2⟩, fun x hx => ⟨(h.S x hx).row.ext he (h3 x hx).1, (h.S x hx).isB⟩, fun x hx => ⟨(h.R x hx).row.ext he (h3 x hx).2, (h.R x hx).isB⟩, h.ge.same o (ownT he hX o h1)⟩
theorem NetAt.extT {ts : List TypeId} (h : NetAt lo w p N del) (he : ExtT w w' ts) (h1 : T_hostm_Net ∉ ts) (h2 : T_hostm_End ∉ ts) (h3 : T_uint8 ∉ ts) : NetAt lo w' p N del := by
  obtain ⟨b, l, c, o, r⟩ := h.ex
  exact ⟨⟨b, l, c, he.own o h1, he.row r h2⟩, fun x hx => ⟨he.row (h.S x hx).row h3, (h.S x hx).isB⟩, fun x hx => ⟨he.row (h.R x hx).row h3, (h.R x hx).isB⟩, h.ge.same o (he.own o h1)⟩
theorem NetAt.ext0 (h : NetAt lo w p N del) (he : Ext [] w w') : NetAt lo w' p N del := h.extT (ExtT.nil he []) (by simp) (by simp) (by simp)
theorem NetAt.drew (h : NetAt lo w p N del) : NetAt lo w.drew p N del := h.ext0 (Ext.drew _ _)
theorem NetAt.at (h : NetAt lo w p N del) (hj : i = (j : Int)) (hx : N[j]? = some x) {K : Option Addr → Nat → Nat → Prop} (hK : ∀ k l c, (0 ≤ i ∧ i < ((l : Nat) : Int)) → (∀ q v, q < 16 → (endC x)[q]? = some v → w.cell? ((Addr.add ⟨k, 0, none⟩ (i.toNat * 16)).add q) = some v) → w.cell? (Addr.add ⟨k, 0, none⟩ (i.toNat * 16)) = (endC x)[0]? → K (some ⟨k, 0, none⟩) l c) : Pn (some ⟨p, 0, none⟩) fun a => LdL a w K := by
  obtain ⟨b, l, c, o, r⟩ := h.ex
  have hlen := NetAt.rlen r
  have hl := (List.getElem?_eq_some_iff.1 hx).1
  obtain ⟨k, rfl, hc⟩ := endCell r hx
  refine Pn.mk (LdL.mk o rfl (hK k l c (by omega) (fun q v hq hv => ?_) ?_))
  · rw [hj, Int.toNat_natCast, add2]
    exact hc q v hq hv
  · rw [hj, Int.toNat_natCast, add_mk, Nat.zero_add]
    exact hc 0 _ (by omega) rfl
theorem ndI {q : Nat} {v : Int} {K : Int → Prop} (h : NetAt lo w p N del) (hj : i = (j : Int)) (hx : N[j]? = some x) (hq : q < 16) (hv : (endC x)[q]? = some (.int .i64 v)) (hK : K v) :
    Pn (some ⟨p, 0, none⟩) fun a => LdL a w fun b l _ => Pn b fun a1 => (0 ≤ i ∧ i < ((l : Nat) : Int)) ∧ LdI .i64 ((Addr.add a1 (i.toNat * 16)).add q) w K :=
  h.at hj hx fun k l c h1 h2 _ => Pn.mk ⟨h1, LdI.cell (h2 q _ hq hv) hK⟩
theorem ndB {q : Nat} {v : Bool} {K : Bool → Prop} (h : NetAt lo w p N del) (hj : i = (j : Int)) (hx : N[j]? = some x) (hq : q < 16) (hv : (endC x)[q]? = some (.bool v)) (hK : K v) :
    Pn (some ⟨p, 0, none⟩) fun a => LdL a w fun b l _ => Pn b fun a1 => (0 ≤ i ∧ i < ((l : Nat) : Int)) ∧ LdB ((Addr.add a1 (i.toNat * 16)).add q) w K :=
  h.at hj hx fun k l c h1 h2 _ => Pn.mk ⟨h1, LdB.cell (h2 q _ hq hv) hK⟩
theorem ndL {q : Nat} {b0 : Option Addr} {l0 c0 : Nat} {K : Option Addr → Nat → Nat → Prop} (h : NetAt lo w p N del) (hj : i = (j : Int)) (hx : N[j]? = some x) (hq : q < 16) (hv : (endC x)[q]? = some (.slice b0 l0 c0)) (hK : K b0 l0 c0) :
    Pn (some ⟨p, 0, none⟩) fun a => LdL a w fun b l _ => Pn b fun a1 => (0 ≤ i ∧ i < ((l : Nat) : Int)) ∧ LdL ((Addr.add a1 (i.toNat * 16)).add q) w K :=
  h.at hj hx fun k l c h1 h2 _ => Pn.mk ⟨h1, LdL.cell (h2 q _ hq hv) hK⟩
/-- The peer's cells, by way of the end's. -/
theorem ndPB {q : Nat} {y : PEM} {t : Nat} {v : Bool} {K : Bool → Prop} (h : NetAt lo w p N del) (hj : i = (j : Int)) (hx : N[j]? = some x) (ht : x.E.peer = (t : Int)) (hy : N[t]? = some y) (hq : q < 16) (hv : (endC y)[q]? = some (.bool v)) (hK : K v) :
    Pn (some ⟨p, 0, none⟩) fun a => LdL a w fun b l _ => Pn (some ⟨p, 0, none⟩) fun a3 => LdL a3 w fun b4 l4 _ => Pn b4 fun a4 => (0 ≤ i ∧ i < ((l4 : Nat) : Int)) ∧ LdI .i64 ((Addr.add a4 (i.toNat * 16)).add 6) w fun z => Pn b fun a5 => (0 ≤ z ∧ z < ((l : Nat) : Int)) ∧ LdB ((Addr.add a5 (z.toNat * 16)).add q) w K :=
  h.at ht hy fun k l c h1 h2 _ => ndI h hj hx (by omega) rfl (Pn.mk ⟨h1, LdB.cell (h2 q _ hq hv) hK⟩)
theorem ndPI {q : Nat} {y : PEM} {t : Nat} {v : Int} {K : Int → Prop} (h : NetAt lo w p N del) (hj : i = (j : Int)) (hx : N[j]? = some x) (ht : x.E.peer = (t : Int)) (hy : N[t]? = some y) (hq : q < 16) (hv : (endC y)[q]? = some (.int .i64 v)) (hK : K v) :
    Pn (some ⟨p, 0, none⟩) fun a => LdL a w fun b l _ => Pn (some ⟨p, 0, none⟩) fun a3 => LdL a3 w fun b4 l4 _ => Pn b4 fun a4 => (0 ≤ i ∧ i < ((l4 : Nat) : Int)) ∧ LdI .i64 ((Addr.add a4 (i.toNat * 16)).add 6) w fun z => Pn b fun a5 => (0 ≤ z ∧ z < ((l : Nat) : Int)) ∧ LdI .i64 ((Addr.add a5 (z.toNat * 16)).add q) w K :=
  h.at ht hy fun k l c h1 h2 _ => ndI h hj hx (by omega) rfl (Pn.mk ⟨h1, LdI.cell (h2 q _ hq hv) hK⟩)
theorem ndPL {q : Nat} {y : PEM} {t : Nat} {b0 : Option Addr} {l0 c0 : Nat} {K : Option Addr → Nat → Nat → Prop} (h : NetAt lo w p N del) (hj : i = (j : Int)) (hx : N[j]? = some x) (ht : x.E.peer = (t : Int)) (hy : N[t]? = some y) (hq : q < 16) (hv : (endC y)[q]? = some (.slice b0 l0 c0)) (hK : K b0 l0 c0) :
    Pn (some ⟨p, 0, none⟩) fun a => LdL a w fun b l _ => Pn (some ⟨p, 0, none⟩) fun a3 => LdL a3 w fun b4 l4 _ => Pn b4 fun a4 => (0 ≤ i ∧ i < ((l4 : Nat) : Int)) ∧ LdI .i64 ((Addr.add a4 (i.toNat * 16)).add 6) w fun z => Pn b fun a5 => (0 ≤ z ∧ z < ((l : Nat) : Int)) ∧ LdL ((Addr.add a5 (z.toNat * 16)).add q) w K :=
  h.at ht hy fun k l c h1 h2 _ => ndI h hj hx (by omega) rfl (Pn.mk ⟨h1, LdL.cell (h2 q _ hq hv) hK⟩)
/-- A cell of an end is set, as the Go text does. -/
theorem ndSt {q : Nat} {x' : PEM} {v : Value} {K : World → Prop} (h : NetAt lo w p N del) (hj : i = (j : Int)) (hx : N[j]? = some x) (hq : q < 16) (h1 : v.oneCell' = true) (he : endC x' = (endC x).set q v) (eS : x'.E.S = x.E.S ∧ x'.sb = x.sb ∧ x'.sc = x.sc) (eR : x'.E.R = x.E.R ∧ x'.rb = x.rb ∧ x'.rc = x.rc)
    (hK : ∀ w', NetAt lo w' p (N.set j x') del → ExtL lo w w' [T_hostm_End] → K w') :
    Pn (some ⟨p, 0, none⟩) fun a => LdL a w fun b l _ => Pn b fun a1 => (0 ≤ i ∧ i < ((l : Nat) : Int)) ∧ Sts [v] ((Addr.add a1 (i.toNat * 16)).add q) 0 w K := by
  obtain ⟨b, l, c, o, r⟩ := h.ex
  have hlen := NetAt.rlen r
  have hl := (List.getElem?_eq_some_iff.1 hx).1
  obtain ⟨k, rfl, hS⟩ := endPut (q := q) (x' := x') (v := v) (K := K) h o r hx hq h1 he eS eR (fun w' h1 _ _ h2 => hK w' h1 h2)
  refine Pn.mk (LdL.mk o rfl (Pn.mk ⟨by omega, ?_⟩))
  rw [hj, Int.toNat_natCast, add2]
  exact hS
end
end Go.Proofs.Qxb6500424aGreat
