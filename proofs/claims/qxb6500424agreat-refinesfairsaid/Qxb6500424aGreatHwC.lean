/-
  host: the law's wire: Double, Flip, Tick.
-/
import Derived.Test.Qxb6500424aGreatHwB
set_option linter.unusedVariables false
set_option linter.unusedSimpArgs false
open Go.Vc
namespace Go.Proofs.Qxb6500424aGreat
section
variable {lo : Nat} {w w' : World} {p : Nat} {W : List (FL × Nat)}
theorem wDouble_ok {i : Int} {R : Bool → World → Prop} (h : WireAt lo w p W) (hno : ¬ (0 ≤ i ∧ i < (W.length : Int) ∧ W.length < 64) → R false w)
    (hok : ∀ e, 0 ≤ i → W[i.toNat]? = some e → W.length < 64 → ∀ k w', w.heap.size ≤ k → WireAt lo w' p (W ++ [(e.1, k)]) → ExtL lo w w' wireTys → R true w') (hbig : ∀ e ∈ W, e.1.raw.length ≤ 1000000) : wirem_Wire_Double.Call (some ⟨p, 0, none⟩) i w R := by
  apply wirem_Wire_Double.sound
  unfold wirem_Wire_Double.B0
  obtain ⟨b, l, c, o, r⟩ := h.ex
  have hlen := WireAt.rlen r
  have bad : ¬ (0 ≤ i ∧ i < (W.length : Int) ∧ W.length < 64) → wirem_Wire_Double.B1 (some ⟨p, 0, none⟩) i true w R := fun q => by
    unfold wirem_Wire_Double.B1
    exact Bm.pos rfl (hno q)
  refine Bm.ite (fun q => bad (by omega)) (fun q => Pn.mk (LdL.mk o rfl (Bm.ite (fun q2 => bad (by omega)) (fun q2 => Pn.mk (LdL.mk o rfl ?_)))))
  unfold wirem_Wire_Double.B1
  refine Bm.ite (fun q3 => hno (by omega)) (fun q3 => Pn.mk (LdL.mk o.drew rfl (Pn.mk (LdL.mk o.drew rfl ?_))))
  have hlt : i.toNat < W.length := by omega
  obtain ⟨e, he⟩ : ∃ e, W[i.toNat]? = some e := ⟨_, List.getElem?_eq_getElem hlt⟩
  have rd : Row w.drew b l c 3 T_wirem_Flight (W.flatMap flC) := r.ext (Ext.drew [] _) (fun _ _ q => by cases q)
  obtain ⟨kb, rfl, hc⟩ := flCell rd he
  have hd := (h.dat e (List.mem_of_getElem? he))
  have a1 : Addr.add ⟨kb, 0, none⟩ (i.toNat * 3) = ⟨kb, i.toNat * 3 + 0, none⟩ := by rw [add_mk, Nat.zero_add, Nat.add_zero]
  have a2 : (Addr.add ⟨kb, 0, none⟩ (i.toNat * 3)).add 1 = ⟨kb, i.toNat * 3 + 1, none⟩ := add2 _ _ _
  have a3 : (Addr.add ⟨kb, 0, none⟩ (i.toNat * 3)).add 2 = ⟨kb, i.toNat * 3 + 2, none⟩ := add2 _ _ _
  refine Pn.mk ⟨⟨by omega, by omega⟩, ?_⟩
  rw [a1]
  refine LdL.cell (hc 0 _ (by omega) rfl) (Pn.mk (LdL.mk o.drew rfl (Pn.mk ⟨⟨by omega, by omega⟩, ?_⟩)))
  rw [a2]
  refine LdI.cell (hc 1 _ (by omega) rfl) (Pn.mk (LdL.mk o.drew rfl (Pn.mk ⟨⟨by omega, by omega⟩, ?_⟩)))
  rw [a3]
  refine LdB.cell (hc 2 _ (by omega) rfl) ?_
  refine copyBytes_ok (hd.ext0 (Ext.drew _ _)).rd0 rfl (by have := hbig e (List.mem_of_getElem? he); omega) fun k w1 hk hs1 hf1 he1 => ?_
  have E1 : Ext [] w w1 := (Ext.drew _ _).trans he1
  have o1 := E1.own o (by simp)
  obtain ⟨kb1, hkb, hc1⟩ := flCell (r.ext E1 (fun _ _ q => by cases q)) he
  cases hkb
  refine ⟨hc1 2 _ (by omega) rfl, o1.cell rfl, hc1 1 _ (by omega) rfl, o1.cell rfl, o1.cell rfl, New.mk fun nb w2 enb hs2 onb he2 => ⟨(he2.own o1 (by simp)).cell rfl, ?_⟩⟩
  have E2 := E1.trans he2
  have o2 := E2.own o (by simp)
  have r2 := r.ext E2 (fun _ _ q => by cases q)
  refine Vc.Append.mk (e := 129) (news := flC (e.1, k)) r2 (CellsAt.own onb (fun j v hj => by simpa [flC] using hj)) rfl rfl rfl (by omega) (by omega) fun b3 c3 w3 r3 he3 hb3 => Pn.mk ?_
  have hpb : p ∉ rowBlk (some (⟨kb, 0, none⟩ : Addr)) := fun q => by
    obtain ⟨cs, ho⟩ := r2.ty q
    exact Own.ne_type o2 ho (by decide) rfl
  have o3 := he3.own o2 hpb
  have ty2 : Tys w2 (rowBlk (some (⟨kb, 0, none⟩ : Addr))) [T_wirem_Flight] := Tys.row r2
  have hz : w.drew.heap.size = w.heap.size := rfl
  refine Sts.full (vs := [.slice b3 (l + 1) c3]) o3 rfl rfl fun w4 hs4 o4 he4 => ?_
  have ty3 : Tys w3 [p] [T_wirem_Wire] := Tys.one o3
  have hlp := h.ge.1
  have hpl := o.lt
  have gr := h.ge.row o rfl
  have z1 := he1.size
  have z2 := he2.size
  have gb : ∀ y ∈ rowBlk b3, lo ≤ y := fun y hy => by
    rcases hb3 y hy with q | q
    · exact gr y q
    · omega
  refine hok e (by omega) he (by omega) k w4 (by omega) ⟨⟨b3, l + 1, c3, o4, ?_⟩, fun x hx => ?_, ?_, by simp; omega, GeC.of o4 rfl h.ge.1 gb, fun x hx => ?_⟩ ?_
  · rw [List.flatMap_append]
    have : Row w3 b3 (l + 1) c3 3 T_wirem_Flight (W.flatMap flC ++ [(e.1, k)].flatMap flC) := by simpa using r3
    exact rowT this he4 ty3 (by decide)
  · rcases List.mem_append.1 hx with q' | q'
    · have h2 := (h.dat x q').ext0 E2
      exact ⟨ownT he4 ty3 (ownT he3 ty2 h2.1 (by decide)) (by decide), h2.2⟩
    · rw [List.mem_singleton.1 q']
      have h2 := hf1.ext0 he2
      exact ⟨ownT he4 ty3 (ownT he3 ty2 h2.1 (by decide)) (by decide), h2.2⟩
  · refine List.pairwise_append.2 ⟨h.nd, List.pairwise_singleton _ _, fun a ha b' hb' => ?_⟩
    rw [List.mem_singleton.1 hb']
    have := (h.dat a ha).lt
    show a.2 ≠ k
    omega
  · rcases List.mem_append.1 hx with q' | q'
    · exact h.geD x q'
    · rw [List.mem_singleton.1 q']
      show lo ≤ k
      omega
  · exact ((ExtL.nil E2 _).trans ((ExtL.of he3 ty2 gr).mono (by decide))).trans ((ExtL.of he4 ty3 (fun x hx => by simp at hx; omega)).mono (by decide))
/-- The clock of the wire. -/
theorem wTick_ok {R : World → Prop} (h : WireAt lo w p W) (h0 : ∀ e ∈ W, 0 ≤ e.1.age ∧ e.1.age ≤ 5) (hR : ∀ w', WireAt lo w' p (W.map fun e => (⟨e.1.raw, if e.1.age ≤ 4 then e.1.age + 1 else e.1.age, e.1.fl⟩, e.2)) → ExtL lo w w' wireTys → R w') : wirem_Wire_Tick.Call (some ⟨p, 0, none⟩) w R := by
  apply wirem_Wire_Tick.sound
  unfold wirem_Wire_Tick.B0 wirem_Wire_Tick.L1
  have h64 := h.len
  let tk : FL × Nat → FL × Nat := fun e => (⟨e.1.raw, if e.1.age ≤ 4 then e.1.age + 1 else e.1.age, e.1.fl⟩, e.2)
  refine ⟨fun m p' i w' => some ⟨p, 0, none⟩ = p' ∧ ∃ j : Nat, i = (j : Int) ∧ j ≤ W.length ∧ m = W.length - j ∧ WireAt lo w' p ((W.take j).map tk ++ W.drop j) ∧ ExtL lo w w' wireTys, W.length, ⟨rfl, 0, rfl, by omega, by omega, by simpa using h, ExtL.refl _ _⟩, ?_⟩
  rintro m p' i w' ⟨rfl, j, rfl, hj, rfl, h', hT⟩
  unfold wirem_Wire_Tick.L1b
  obtain ⟨b, l, c, o, r⟩ := h'.ex
  have hlen := WireAt.rlen r
  have hll : ((W.take j).map tk ++ W.drop j).length = W.length := by simp; omega
  rw [hll] at hlen
  refine Pn.mk (LdL.mk o rfl (Bm.ite (fun hlt => ?_) (fun hge => ?_)))
  rotate_left
  · have ej : j = W.length := by omega
    rw [ej, List.take_length, List.drop_length, List.append_nil] at h'
    exact hR w' h' hT
  have hlt' : j < W.length := by omega
  obtain ⟨e, he⟩ : ∃ e, W[j]? = some e := ⟨_, List.getElem?_eq_getElem hlt'⟩
  have hex : ((W.take j).map tk ++ W.drop j)[j]? = some e := by
    rw [List.getElem?_append_right (by simp; omega)]
    simp only [List.length_map, List.length_take]
    rw [show j - min j W.length = 0 by omega, List.getElem?_drop]
    exact he
  obtain ⟨kb, rfl, hc⟩ := flCell r hex
  have htk : (W.take (j + 1)).map tk ++ W.drop (j + 1) = ((W.take j).map tk ++ W.drop j).set j (tk e) := by
    have hd : W.drop j = e :: W.drop (j + 1) := by
      rw [List.drop_eq_getElem_cons hlt', (List.getElem?_eq_some_iff.1 he).2]
    rw [List.take_add_one, he, hd]
    simp only [Option.toList, List.map_append, List.map_cons, List.map_nil]
    rw [List.set_append_right _ _ (by simp; omega)]
    simp only [List.length_map, List.length_take]
    rw [show j - min j W.length = 0 by omega]
    simp
  have next : ∀ {w5 : World}, WireAt lo w5 p ((W.take (j + 1)).map tk ++ W.drop (j + 1)) → ExtL lo w w5 wireTys → wirem_Wire_Tick.B1 (some ⟨p, 0, none⟩) (j : Int) w5 (fun p' i w' => ∃ m', m' < W.length - j ∧ some ⟨p, 0, none⟩ = p' ∧ ∃ j : Nat, i = (j : Int) ∧ j ≤ W.length ∧ m' = W.length - j ∧ WireAt lo w' p ((W.take j).map tk ++ W.drop j) ∧ ExtL lo w w' wireTys) R := fun {w5} h5 hT5 => by
    unfold wirem_Wire_Tick.B1
    rw [w64 (by omega) (by omega)]
    exact ⟨W.length - (j + 1), by omega, rfl, j + 1, by push_cast; rfl, by omega, rfl, h5, hT5⟩
  have a2 : (Addr.add ⟨kb, 0, none⟩ ((j : Int).toNat * 3)).add 1 = ⟨kb, j * 3 + 1, none⟩ := by rw [Int.toNat_natCast]; exact add2 _ _ _
  have hage := h0 e (List.mem_of_getElem? he)
  refine Pn.mk (LdL.mk o rfl (Pn.mk ⟨⟨by omega, by omega⟩, ?_⟩))
  rw [a2]
  refine LdI.cell (hc 1 _ (by omega) rfl) (Bm.ite (fun q => ?_) (fun q => ?_))
  · refine Pn.mk (LdL.mk o rfl (Pn.mk ⟨⟨by omega, by omega⟩, ?_⟩))
    rw [a2]
    refine LdI.cell (hc 1 _ (by omega) rfl) (Pn.mk ⟨⟨by omega, by omega⟩, ?_⟩)
    rw [a2, w64 (by omega) (by omega)]
    refine r.put (by simp; omega) rfl fun w5 hs5 r5 he5 => ?_
    have et : tk e = (⟨e.1.raw, e.1.age + 1, e.1.fl⟩, e.2) := by show (_, _) = _; rw [if_pos q]
    have r5' : Row w5 (some ⟨kb, 0, none⟩) l c 3 T_wirem_Flight (((W.take (j + 1)).map tk ++ W.drop (j + 1)).flatMap flC) := by
      rw [htk]
      have := flat_set1 (f := flC) flC_len (j := 1) (a' := tk e) (v := .int .i64 (e.1.age + 1)) hex (by omega) (by rw [et]; rfl)
      rw [← this]
      exact r5
    have ty5 : Tys w' [kb] [T_wirem_Flight] := fun y hy hl => by
      simp at hy
      subst hy
      obtain ⟨cs, ho⟩ := r.ty (k := y) (by simp [rowBlk])
      exact ⟨cs, _, ho, by simp⟩
    have hxx0 : ∀ x ∈ (W.take (j + 1)).map tk ++ W.drop (j + 1), ∃ y ∈ ((W.take j).map tk ++ W.drop j), y.2 = x.2 := fun x hx => by
      rw [htk] at hx
      rcases List.mem_or_eq_of_mem_set hx with z | z
      · exact ⟨x, z, rfl⟩
      · exact ⟨e, List.mem_of_getElem? hex, by rw [z, et]⟩
    have gr := h'.ge.row o rfl
    refine next ⟨⟨_, l, c, ownT he5 ty5 o (by decide), r5'⟩, fun x hx => ?_, ?_, by rw [htk, List.length_set]; exact h'.len, h'.ge.same o (ownT he5 ty5 o (by decide)), fun x hx => (by obtain ⟨y, hy, e1⟩ := hxx0 x hx; rw [← e1]; exact h'.geD y hy)⟩ (hT.trans ((ExtL.of he5 ty5 (fun x hx => gr x (by simpa [rowBlk] using hx))).mono (by decide)))
    · rw [htk] at hx
      have hxx : ∃ y ∈ ((W.take j).map tk ++ W.drop j), y.2 = x.2 ∧ y.1.raw = x.1.raw := by
        rcases List.mem_or_eq_of_mem_set hx with z | z
        · exact ⟨x, z, rfl, rfl⟩
        · exact ⟨e, List.mem_of_getElem? hex, by rw [z, et], by rw [z, et]⟩
      obtain ⟨y, hy, e1, e2⟩ := hxx
      have hd := h'.dat y hy
      rw [e1, e2] at hd
      exact ⟨ownT he5 ty5 hd.1 (by decide), hd.2⟩
    · rw [htk]
      have hp := h'.nd
      have e1 : (((W.take j).map tk ++ W.drop j).set j (tk e)).map (·.2) = ((W.take j).map tk ++ W.drop j).map (·.2) := by
        rw [List.map_set]
        apply List.ext_getElem?
        intro k
        by_cases qk : k = j
        · subst qk
          rw [List.getElem?_set_self (by simp; omega), List.getElem?_map, hex]
          rfl
        · rw [List.getElem?_set_ne (fun z => qk z.symm)]
      have q1 : (((W.take j).map tk ++ W.drop j).map (·.2)).Pairwise (· ≠ ·) := List.pairwise_map.2 hp
      rw [← e1] at q1
      exact List.pairwise_map.1 q1
  · have et : tk e = e := by
      show (⟨e.1.raw, if e.1.age ≤ 4 then e.1.age + 1 else e.1.age, e.1.fl⟩, e.2) = e
      rw [if_neg q]
    have es : ((W.take j).map tk ++ W.drop j).set j (tk e) = (W.take j).map tk ++ W.drop j := by
      rw [et]
      apply List.ext_getElem?
      intro k
      by_cases qk : k = j
      · subst qk
        rw [List.getElem?_set_self (by simp; omega), hex]
      · rw [List.getElem?_set_ne (fun z => qk z.symm)]
    exact next (by rw [htk, es]; exact h') hT
end
end Go.Proofs.Qxb6500424aGreat
