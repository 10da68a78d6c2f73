/-
  host: the law's wire: remove, Take, Drop.
-/
import Derived.Test.Qxb6500424aGreatHwA
set_option linter.unusedVariables false
set_option linter.unusedSimpArgs false
open Go.Vc
namespace Go.Proofs.Qxb6500424aGreat
section
variable {lo : Nat} {w w' : World} {p : Nat} {W : List (FL × Nat)}
def delW (W : List (FL × Nat)) (i : Nat) : List (FL × Nat) := W.take i ++ W.drop (i + 1)
theorem delW_mem {i : Nat} {e : FL × Nat} (h : e ∈ delW W i) : e ∈ W := by
  rcases List.mem_append.1 h with q | q
  · exact List.mem_of_mem_take q
  · exact List.mem_of_mem_drop q
theorem delW_sub (W : List (FL × Nat)) (i : Nat) : (delW W i).Sublist W := by
  unfold delW
  have h1 : (W.take i ++ W.drop (i + 1)).Sublist (W.take i ++ W.drop i) := by
    refine List.Sublist.append (List.Sublist.refl _) ?_
    rw [← List.drop_drop (i := 1) (j := i)]
    exact List.drop_sublist _ _
  rw [List.take_append_drop] at h1
  exact h1
theorem wRemove_ok {i : Nat} {R : World → Prop} (h : WireAt lo w p W) (hi : i < W.length) (hR : ∀ w', WireAt lo w' p (delW W i) → Ext [p] w w' → R w') : wirem_Wire_remove.Call (some ⟨p, 0, none⟩) (i : Int) w R := by
  apply wirem_Wire_remove.sound
  unfold wirem_Wire_remove.B0
  obtain ⟨b, l, c, o, r⟩ := h.ex
  have hlen := WireAt.rlen r
  have h64 := h.len
  have hlc := r.2.1
  refine Pn.mk (LdL.mk o rfl (Make.mk (by omega) (by omega) (by omega) (by omega) fun b10 w1 e10 hs1 o10 he1 => Pn.mk ?_))
  have o1 := he1.own o (by simp)
  have r1 := r.ext he1 (fun _ _ q => by cases q)
  have hsz : (madeCells (Value.agg #[.slice none 0 0, .int .i64 0, .bool false]).cells (((l : Nat) : Int).toNat * 3)).size = l * 3 := by
    rw [Int.toNat_natCast]
    simp [madeCells]
  have g1 : Row w1 (some ⟨b10, 0, none⟩) 0 l 3 129 [] := ⟨rfl, Nat.zero_le _, .inr ⟨b10, _, rfl, o10, by rw [hsz]; exact Nat.le_refl _, by simp⟩⟩
  refine LdL.mk o1 rfl ⟨⟨by omega, by omega⟩, ?_⟩
  rw [slBase0]
  simp only [Int.toNat_natCast, Nat.sub_zero]
  have hsub := r1.sub (i := i) (by omega)
  rw [flat_take flC_len] at hsub
  have all1 : ∀ L : List (FL × Nat), (L.flatMap flC).all Value.oneCell' = true := fun L => List.all_eq_true.2 fun v hv => by
    obtain ⟨e, _, he⟩ := List.mem_flatMap.1 hv
    simp only [flC, List.mem_cons, List.not_mem_nil, or_false] at he
    rcases he with rfl | rfl | rfl <;> rfl
  have hn1 : ((W.take i).flatMap flC).length = i * 3 := by rw [flat_length flC_len, List.length_take]; congr 1; omega
  refine Vc.Append.mk (e := 129) (news := (W.take i).flatMap flC) g1 hsub.cells hn1 rfl (all1 _) (by omega) (by omega) fun b18 c18 w2 g2 he2 hb2 => Pn.mk ?_
  have hpl := o.lt
  have hpb : p ∉ rowBlk (some (⟨b10, 0, none⟩ : Addr)) := fun q => by simp [rowBlk] at q; omega
  have o2 := he2.own o1 hpb
  have r2 := r1.ext he2 (fun k hk q => by simp [rowBlk] at q; have := r.lt k hk; omega)
  rw [List.nil_append] at g2
  refine LdL.mk o2 rfl ?_
  have ew : IntKind.i64.wrap ((i : Int) + 1) = ((i + 1 : Nat) : Int) := by rw [w64 (by omega) (by omega)]; omega
  rw [ew]
  refine ⟨⟨by omega, by omega⟩, ?_⟩
  have htail := r2.tail (i + 1) (m := ((c : Nat) : Int)) (by omega)
  rw [flat_drop flC_len] at htail
  have hn2 : ((W.drop (i + 1)).flatMap flC).length = (l - (i + 1)) * 3 := by rw [flat_length flC_len, List.length_drop, hlen]
  rw [Int.toNat_natCast]
  refine Vc.Append.mk (e := 129) (news := (W.drop (i + 1)).flatMap flC) g2 htail hn2 rfl (all1 _) (by omega) (by omega) fun b28 c28 w3 g3 he3 hb3 => Pn.mk ?_
  have hpb3 : p ∉ rowBlk b18 := fun q => by
    obtain ⟨cs, ho⟩ := g2.ty q
    exact Own.ne_type o2 ho (by decide) rfl
  have o3 := he3.own o2 hpb3
  have ty2 : Tys w2 (rowBlk b18) [T_wirem_Flight] := Tys.row g2
  have ty1 : Tys w1 (rowBlk (some (⟨b10, 0, none⟩ : Addr))) [T_wirem_Flight] := Tys.row g1
  refine Sts.full (vs := [.slice b28 (0 + i + (l - (i + 1))) c28]) o3 rfl rfl fun w4 hs4 o4 he4 => ?_
  have ty3 : Tys w3 [p] [T_wirem_Wire] := Tys.one o3
  have hlp := h.ge.1
  have z1 := he1.size
  have z2 := he2.size
  have gb : ∀ y ∈ rowBlk b28, lo ≤ y := fun y hy => by
    rcases hb3 y hy with q | q
    · rcases hb2 y q with q | q
      · simp [rowBlk] at q; omega
      · omega
    · omega
  refine hR w4 ⟨⟨b28, _, c28, o4, ?_⟩, fun e he => ?_, h.nd.sublist (delW_sub W i), ?_, GeC.of o4 rfl h.ge.1 gb, fun e he => h.geD e (delW_mem he)⟩ ?_
  · unfold delW
    rw [List.flatMap_append]
    exact rowT g3 he4 ty3 (by decide)
  · have hd := (h.dat e (delW_mem he)).ext0 he1
    exact ⟨ownT he4 ty3 (ownT he3 ty2 (ownT he2 ty1 hd.1 (by decide)) (by decide)) (by decide), hd.2⟩
  · have := (delW_sub W i).length_le
    omega
  · refine Ext.trans' (((he1.nil (T := [p])).trans' he2 (fun y hy hl => ?_)).trans' he3 (fun y hy hl => ?_)) he4 (fun y hy _ => hy)
    · simp [rowBlk] at hy; omega
    · rcases hb2 y hy with q | q
      · simp [rowBlk] at q; omega
      · omega
theorem flCell {b : Option Addr} {l c i : Nat} {e : FL × Nat} (r : Row w b l c 3 T_wirem_Flight (W.flatMap flC)) (he : W[i]? = some e) : ∃ k, b = some ⟨k, 0, none⟩ ∧ ∀ q v, q < 3 → (flC e)[q]? = some v → w.cell? ⟨k, i * 3 + q, none⟩ = some v := by
  have hi := (List.getElem?_eq_some_iff.1 he).1
  have hl := WireAt.rlen r
  obtain ⟨k, rfl, cs, ho, hc⟩ := r.at (i := i) (by omega) (by omega)
  refine ⟨k, rfl, fun q v hq hv => ho.cell ?_⟩
  rw [hc q hq, flat_get flC_len he hq]
  exact hv
/-- Take: the frame leaves the wire. -/
theorem wTake_ok {i : Int} {R : Option Addr → Nat → Nat → Bool → World → Prop} (h : WireAt lo w p W)
    (hno : ¬ (0 ≤ i ∧ i < (W.length : Int)) → R none 0 0 false w)
    (hold : ∀ e, 0 ≤ i → W[i.toNat]? = some e → 4 < e.1.age → ∀ w', WireAt lo w' p (delW W i.toNat) → ExtL lo w w' wireTys → R none 0 0 false w')
    (hok : ∀ e, 0 ≤ i → W[i.toNat]? = some e → e.1.age ≤ 4 → ∀ w', WireAt lo w' p (delW W i.toNat) → Bf w' e.2 e.1.raw → ExtL lo w w' wireTys → R (some ⟨e.2, 0, none⟩) e.1.raw.length e.1.raw.length true w') : wirem_Wire_Take.Call (some ⟨p, 0, none⟩) i w R := by
  apply wirem_Wire_Take.sound
  unfold wirem_Wire_Take.B0
  obtain ⟨b, l, c, o, r⟩ := h.ex
  have hlen := WireAt.rlen r
  refine Bm.ite (fun q => ?_) (fun q => Pn.mk (LdL.mk o rfl ?_))
  · unfold wirem_Wire_Take.B1
    exact Bm.pos rfl (hno (by omega))
  unfold wirem_Wire_Take.B1
  refine Bm.ite (fun q2 => hno (by omega)) (fun q2 => Pn.mk (LdL.mk o rfl ?_))
  have hlt : i.toNat < W.length := by omega
  obtain ⟨e, he⟩ : ∃ e, W[i.toNat]? = some e := ⟨_, List.getElem?_eq_getElem hlt⟩
  obtain ⟨k, rfl, hc⟩ := flCell r he
  refine Pn.mk ⟨⟨by omega, by omega⟩, ?_⟩
  simp only [add_mk, Nat.zero_add]
  refine LdL.cell (hc 0 _ (by omega) rfl) (LdI.cell (hc 1 _ (by omega) rfl) (LdB.cell (hc 2 _ (by omega) rfl) ?_))
  refine New.mk fun x w1 ex hs1 ox he1 => ?_
  refine Sts.full (vs := [.slice (some ⟨e.2, 0, none⟩) e.1.raw.length e.1.raw.length, .int .i64 e.1.age, .bool e.1.fl]) ox rfl rfl fun w2 hs2 o2 he2 => ?_
  have E2 : Ext [] w w2 := he1.trans' he2 (fun y hy hl => by simp at hy; omega)
  have ei : i = ((i.toNat : Nat) : Int) := by omega
  have hd := (h.dat e (List.mem_of_getElem? he)).ext0 E2
  have hxp : x ≠ p := by have := o.lt; omega
  rw [ei]
  refine wRemove_ok (h.ext0 E2) hlt fun w3 h3 he3 => ?_
  have o3 := he3.own o2 (by simp; exact hxp)
  have ty3 : Tys w2 [p] [T_wirem_Wire] := Tys.one (E2.own o (by simp))
  have T3 : ExtL lo w w3 wireTys := (ExtL.nil E2 _).trans ((ExtL.of he3 ty3 (fun x hx => by simp at hx; have := h.ge.1; omega)).mono (by decide))
  refine LdI.mk o3 rfl (Bm.ite (fun q4 => hold e (by omega) he (by omega) w3 h3 T3) (fun q4 => LdL.mk o3 rfl ?_))
  exact hok e (by omega) he (by omega) w3 h3 ⟨ownT he3 ty3 hd.1 (by decide), hd.2⟩ T3
theorem wDrop_ok {i : Int} {R : Bool → World → Prop} (h : WireAt lo w p W) (hno : ¬ (0 ≤ i ∧ i < (W.length : Int)) → R false w) (hok : 0 ≤ i → i < (W.length : Int) → ∀ w', WireAt lo w' p (delW W i.toNat) → ExtL lo w w' wireTys → R true w') : wirem_Wire_Drop.Call (some ⟨p, 0, none⟩) i w R := by
  apply wirem_Wire_Drop.sound
  unfold wirem_Wire_Drop.B0
  obtain ⟨b, l, c, o, r⟩ := h.ex
  have hlen := WireAt.rlen r
  refine Bm.ite (fun q => ?_) (fun q => Pn.mk (LdL.mk o rfl ?_))
  · unfold wirem_Wire_Drop.B1
    exact Bm.pos rfl (hno (by omega))
  unfold wirem_Wire_Drop.B1
  refine Bm.ite (fun q2 => hno (by omega)) (fun q2 => ?_)
  have ei : i = ((i.toNat : Nat) : Int) := by omega
  have go := wRemove_ok (i := i.toNat) (R := fun w1 => R true w1) h (by omega) fun w3 h3 he3 => hok (by omega) (by omega) w3 h3 ((ExtL.of he3 (Tys.one o) (fun x hx => by simp at hx; have := h.ge.1; omega)).mono (by decide))
  rw [← ei] at go
  exact go
end
end Go.Proofs.Qxb6500424aGreat
