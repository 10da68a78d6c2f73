/-
  seglaw: Own, OwnInts, Untouched.
-/
import Derived.Test.Qxb6500426aSgK
set_option linter.unusedVariables false
set_option linter.unusedSimpArgs false
open Go.Vc
namespace Go.Proofs.Qxb6500426a

/-- Alike but for what is kept. -/
def Kin (σ σ' : LawS) : Prop := ∃ kb kn kc vs ib jn ic us, σ' = { σ with kb := kb, kn := kn, kc := kc, vs := vs, ib := ib, jn := jn, ic := ic, us := us }
theorem Kin.refl (σ : LawS) : Kin σ σ := ⟨_, _, _, _, _, _, _, _, rfl⟩
theorem Kin.trans {σ σ' σ'' : LawS} (h : Kin σ σ') (h' : Kin σ' σ'') : Kin σ σ'' := by
  obtain ⟨_, _, _, _, _, _, _, _, rfl⟩ := h
  obtain ⟨_, _, _, _, _, _, _, _, rfl⟩ := h'
  exact ⟨_, _, _, _, _, _, _, _, rfl⟩
section
variable {w0 w : World} {a : Nat} {σ : LawS} {qu : Bool} {N : Nat}
theorem lawOwn_nil {b : Option Addr} {l : Nat} {R : World → Prop} (hR : R w) : seglaw_World_Own.Call (some ⟨a, 0, none⟩) b l 0 w R := by
  apply seglaw_World_Own.sound
  unfold seglaw_World_Own.B0
  exact ⟨⟨by omega, by omega⟩, Bm.pos rfl hR⟩
theorem lawOwn_ok {k l n : Nat} {v : List Int} {R : World → Prop} (h : LX w0 w a σ qu N) (hN : N ≤ 999999999) (hf : Bf w k v) (hn : KNot k σ) (hk : w0.heap.size ≤ k) (hl : v.length = n) (hln : n ≤ 281474976710656)
    (hR : ∀ σ' w', LX w0 w' a σ' qu (N + 1) → Kin σ σ' → Ext (k :: a :: rowBlk σ.kb) w w' → R w') : seglaw_World_Own.Call (some ⟨a, 0, none⟩) (some ⟨k, 0, none⟩) l n w R := by
  apply seglaw_World_Own.sound
  unfold seglaw_World_Own.B0
  refine ⟨⟨by omega, by omega⟩, ?_⟩
  rw [slBase0]
  simp only [Int.toNat_natCast, Nat.sub_zero]
  have hkl := h.at'.kl
  have hkn := h.kn
  refine Bm.mk (fun _ => hR σ w (h.mono (by omega)) (Kin.refl _) (Ext.refl _ _)) fun hne => Pn.mk (h.at'.ldKept ?_)
  have hka : k ≠ a := fun e => by subst e; exact Own.ne_type hf.1 h.at'.own (by decide) rfl
  have hkr : k ∉ rowBlk σ.kb := fun hx => by
    obtain ⟨_, ho'⟩ := h.at'.mine.ty hx
    exact Own.ne_type hf.1 ho' (by decide) rfl
  unfold seglaw_World_Own.L1
  refine ⟨fun m a' b' l' c' j i w' => ∃ q : Nat, q ≤ n ∧ m = n - q ∧ some ⟨a, 0, none⟩ = a' ∧ some ⟨k, 0, none⟩ = b' ∧ n = l' ∧ n = c' ∧ ((σ.kn : Nat) : Int) = j ∧ i = (q : Int) ∧ (∃ v', Bf w' k v' ∧ v'.length = n ∧ ∀ p, p < q → v'[p]? = some (stampV σ.kn p)) ∧ w'.heap.size = w.heap.size ∧ Ext [k] w w', _,
    ⟨0, by omega, rfl, rfl, rfl, rfl, rfl, rfl, rfl, ⟨v, hf, hl, fun p hp => by omega⟩, rfl, Ext.refl _ _⟩, ?_⟩
  rintro m a' b' l' c' j i w' ⟨q, hq, rfl, rfl, rfl, rfl, rfl, rfl, rfl, ⟨v', hf', hl', hst⟩, hs', he'⟩
  unfold seglaw_World_Own.L1b
  refine Bm.ite (fun hlt => stamp_ok (by omega) (Pn.mk ⟨⟨by omega, by omega⟩, ?_⟩)) fun hge => ?_
  · rw [addr_i]
    refine hf'.set (by omega) (st8_isB _) fun w2 hs2 hf2 he2 => ⟨n - (q + 1), by omega, q + 1, by omega, rfl, rfl, rfl, rfl, rfl, rfl, by rw [w64 (by omega) (by omega)]; omega, ⟨_, hf2, by simpa using hl', fun p hp => ?_⟩, by omega, he'.trans he2⟩
    by_cases e : p = q
    · subst e
      rw [List.getElem?_set, if_pos rfl, if_pos (by omega)]
    · rw [List.getElem?_set, if_neg (by omega)]
      exact hst p (by omega)
  · have hq : q = n := by omega
    subst hq
    have h' := h.u8 hf.1 hn hk he'
    have ok' : Own w' k (fnArr q fun i => .int .u8 (stampV σ.kn i)) T_uint8 := by
      have e : (U8 v').toArray = fnArr q fun i => .int .u8 (stampV σ.kn i) := fnArr_ext (by simp [U8, hl']) fun j hj => by
        simp only [List.getElem?_toArray, U8_get]
        rw [hst j hj]
        rfl
      rw [← e]
      exact hf'.1
    refine Pn.mk (h'.at'.ldKept (New.mk fun nb w2 hnb hs2 onb he2 => ?_))
    have h2 := h'.ext0 he2
    have ok2 := he2.own ok' (by simp)
    have t3 : Tys w2 (rowBlk σ.kb) [T_mine] := Tys.row h2.at'.mine
    refine Vc.Append.mk (e := T_mine) (news := [.slice (some ⟨k, 0, none⟩) q q]) h2.at'.mine (CellsAt.own onb (fun j v hj => by simpa using hj)) rfl rfl rfl (by omega) (by omega) fun kb' kc' w3 hrow3 hE3 hb3 => Pn.mk ?_
    have own3 := ownT hE3 t3 h2.at'.own (by decide)
    have ok3 := ownT hE3 t3 ok2 (by decide)
    rw [add_mk, Nat.zero_add]
    refine Sts.mk own3 (by simp [LawS.cells]) rfl fun w4 hs4 o4 he4 => ?_
    have t4 : Tys w3 [a] [T_seglaw_World] := Tys.one own3
    have ok4 := ownT he4 t4 ok3 (by decide)
    obtain ⟨X1, x1, x2⟩ := h2.at'.sx
    obtain ⟨Y1, y1, y2⟩ := h2.at'.rx
    obtain ⟨hff, vf, r1, r2⟩ := h2.at'.rm.own
    have ge := h.ge
    refine hR { σ with kb := kb', kn := σ.kn + 1, kc := kc', vs := σ.vs ++ [.slice (some ⟨k, 0, none⟩) q q] } w4 ⟨⟨o4, ⟨X1, ownT he4 t4 (ownT hE3 t3 x1 (by decide)) (by decide), x2⟩, ⟨ownT he4 t4 (ownT hE3 t3 h2.at'.sm.own (by decide)) (by decide), rowT (rowT h2.at'.sm.row hE3 t3 (by decide)) he4 t4 (by decide)⟩, h.at'.sok, ⟨Y1, ownT he4 t4 (ownT hE3 t3 y1 (by decide)) (by decide), y2⟩, ⟨⟨hff, vf, ownT he4 t4 (ownT hE3 t3 r1 (by decide)) (by decide), r2⟩, rowT (rowT h2.at'.rm.row hE3 t3 (by decide)) he4 t4 (by decide)⟩, h.at'.rok,
      ⟨rowT (rowT h2.at'.last.1 hE3 t3 (by decide)) he4 t4 (by decide), h.at'.last.2⟩, ⟨rowT (rowT h2.at'.sent.1 hE3 t3 (by decide)) he4 t4 (by decide), h.at'.sent.2⟩, h.at'.good, rowT hrow3 he4 t4 (by decide), fun j v hv => ?_, rowT (rowT h2.at'.ints hE3 t3 (by decide)) he4 t4 (by decide), fun j v hv => ?_⟩, by show σ.kn + 1 ≤ N + 1; omega, by show σ.jn ≤ N + 1; have := h.jn; omega, fun y hy => ?_, ?_⟩ ⟨_, _, _, _, _, _, _, _, rfl⟩ ?_
    · have hv' : (σ.vs ++ [Value.slice (some ⟨k, 0, none⟩) q q])[j]? = some v := hv
      by_cases hj : j < σ.vs.length
      · rw [List.getElem?_append_left hj] at hv'
        obtain ⟨k', n', e, hn', ho⟩ := h2.at'.kept j v hv'
        exact ⟨k', n', e, hn', ownT he4 t4 (ownT hE3 t3 ho (by decide)) (by decide)⟩
      · rw [List.getElem?_append_right (by omega)] at hv'
        have hj0 : j - σ.vs.length = 0 := by
          cases hz : j - σ.vs.length with
          | zero => rfl
          | succ q => rw [hz] at hv'; simp at hv'
        rw [hj0] at hv'
        simp at hv'
        have ej : j = σ.kn := by omega
        subst ej
        exact ⟨k, q, hv'.symm, hln, ok4⟩
    · obtain ⟨k', n', e, hn', ho⟩ := h2.at'.kint j v hv
      exact ⟨k', n', e, hn', ownT he4 t4 (ownT hE3 t3 ho (by decide)) (by decide)⟩
    · unfold foot at hy ge
      simp only [List.mem_cons, List.mem_append] at hy ge
      have zz := h2.ext.size
      rcases hy with q' | q' | q' | q' | q' | q' | q'
      · exact ge y (.inl q')
      · exact ge y (.inr (.inl q'))
      · exact ge y (.inr (.inr (.inl q')))
      · exact ge y (.inr (.inr (.inr (.inl q'))))
      · exact ge y (.inr (.inr (.inr (.inr (.inl q')))))
      · rcases hb3 y q' with z | z
        · exact ge y (.inr (.inr (.inr (.inr (.inr (.inl z))))))
        · omega
      · exact ge y (.inr (.inr (.inr (.inr (.inr (.inr q'))))))
    · have ga := ge a (by simp [foot])
      refine (h2.ext.trans' hE3 (fun y hy hlt => ?_)).trans' he4 (fun y hy hlt => by simp at hy; omega)
      have := ge y (by simp only [foot, List.mem_cons, List.mem_append]; exact .inr (.inr (.inr (.inr (.inr (.inl hy))))))
      omega
    · have f1 : Ext (k :: a :: rowBlk σ.kb) w w2 := (he'.mono (fun x hx _ => by simp at hx; simp [hx])).trans he2.nil
      exact (f1.trans (hE3.mono (fun x hx _ => by simp [hx]))).trans (he4.mono (fun x hx _ => by simp at hx; simp [hx]))
theorem lawOwnInts_ok {k l n : Nat} {L : List Int} {R : World → Prop} (h : LX w0 w a σ qu N) (hN : N ≤ 999999999) (hf : IAt w k L) (hn : KeptNot k σ.us) (hk : w0.heap.size ≤ k) (hl : L.length = n) (hln : n ≤ 1000)
    (hR : ∀ σ' w', LX w0 w' a σ' qu (N + 1) → Kin σ σ' → R w') : seglaw_World_OwnInts.Call (some ⟨a, 0, none⟩) (some ⟨k, 0, none⟩) l n w R := by
  apply seglaw_World_OwnInts.sound
  unfold seglaw_World_OwnInts.B0
  refine ⟨⟨by omega, by omega⟩, ?_⟩
  rw [slBase0]
  simp only [Int.toNat_natCast, Nat.sub_zero]
  have hkl := h.at'.il
  have hjn := h.jn
  refine Bm.mk (fun _ => hR σ w (h.mono (by omega)) (Kin.refl _)) fun hne => Pn.mk (h.at'.ldInts ?_)
  have hX : Tys w [k] [T_int] := Tys.one hf
  unfold seglaw_World_OwnInts.L1
  refine ⟨fun m a' b' l' c' j i w' => ∃ q : Nat, q ≤ n ∧ m = n - q ∧ some ⟨a, 0, none⟩ = a' ∧ some ⟨k, 0, none⟩ = b' ∧ n = l' ∧ n = c' ∧ ((σ.jn : Nat) : Int) = j ∧ i = (q : Int) ∧ IAt w' k (List.replicate q (-1 - (σ.jn : Int)) ++ L.drop q) ∧ w'.heap.size = w.heap.size ∧ Ext [k] w w', _,
    ⟨0, by omega, rfl, rfl, rfl, rfl, rfl, rfl, rfl, by simpa using hf, rfl, Ext.refl _ _⟩, ?_⟩
  rintro m a' b' l' c' j i w' ⟨q, hq, rfl, rfl, rfl, rfl, rfl, rfl, rfl, hf', hs', he'⟩
  unfold seglaw_World_OwnInts.L1b
  refine Bm.ite (fun hlt => Pn.mk ⟨⟨by omega, by omega⟩, ?_⟩) fun hge => ?_
  · rw [w64 (by omega) (by omega)]
    refine hf'.st (addr_i k q) (by simp; omega) fun w2 hs2 hf2 he2 => ⟨n - (q + 1), by omega, q + 1, by omega, rfl, rfl, rfl, rfl, rfl, rfl, by rw [w64 (by omega) (by omega)]; omega, ?_, by omega, he'.trans he2⟩
    rw [List.set_append_right _ _ (by simp), List.length_replicate, Nat.sub_self, List.drop_eq_getElem_cons (by omega), List.set_cons_zero] at hf2
    rw [List.replicate_succ', List.append_assoc]
    exact hf2
  · have hq : q = n := by omega
    subst hq
    rw [List.drop_of_length_le (by omega), List.append_nil] at hf'
    obtain ⟨X1, x1, x2⟩ := h.at'.sx
    obtain ⟨Y1, y1, y2⟩ := h.at'.rx
    obtain ⟨hff, vf, r1, r2⟩ := h.at'.rm.own
    have h' : LawAt w' a σ qu := ⟨ownT he' hX h.at'.own (by decide), ⟨X1, ownT he' hX x1 (by decide), x2⟩, ⟨ownT he' hX h.at'.sm.own (by decide), rowT h.at'.sm.row he' hX (by decide)⟩, h.at'.sok, ⟨Y1, ownT he' hX y1 (by decide), y2⟩, ⟨⟨hff, vf, ownT he' hX r1 (by decide), r2⟩, rowT h.at'.rm.row he' hX (by decide)⟩, h.at'.rok,
      ⟨rowT h.at'.last.1 he' hX (by decide), h.at'.last.2⟩, ⟨rowT h.at'.sent.1 he' hX (by decide), h.at'.sent.2⟩, h.at'.good, rowT h.at'.mine he' hX (by decide), fun j v hv => by
        obtain ⟨k', n', e, hn', ho⟩ := h.at'.kept j v hv
        exact ⟨k', n', e, hn', ownT he' hX ho (by decide)⟩, rowT h.at'.ints he' hX (by decide), fun j v hv => by
        obtain ⟨k', n', e, hn', ho⟩ := h.at'.kint j v hv
        refine ⟨k', n', e, hn', he'.own ho ?_⟩
        simp
        exact hn k' n' n' (by rw [← e]; exact List.mem_of_getElem? hv)⟩
    refine Pn.mk (h'.ldInts (New.mk fun nb w2 hnb hs2 onb he2 => ?_))
    have h2 := h'.ext0 he2
    have ok2 := hf'.ext he2 (by simp)
    have t3 : Tys w2 (rowBlk σ.ib) [T_ints] := Tys.row h2.ints
    have ex2 : Ext [] w0 w2 := (h.ext.trans' he' (fun y hy hlt => by simp at hy; omega)).trans he2
    refine Vc.Append.mk (e := T_ints) (news := [.slice (some ⟨k, 0, none⟩) q q]) h2.ints (CellsAt.own onb (fun j v hj => by simpa using hj)) rfl rfl rfl (by omega) (by omega) fun kb' kc' w3 hrow3 hE3 hb3 => Pn.mk ?_
    have own3 := ownT hE3 t3 h2.own (by decide)
    have ok3 := ownT hE3 t3 ok2 (by decide)
    rw [add_mk, Nat.zero_add]
    refine Sts.mk own3 (by simp [LawS.cells]) rfl fun w4 hs4 o4 he4 => ?_
    have t4 : Tys w3 [a] [T_seglaw_World] := Tys.one own3
    have ok4 := ownT he4 t4 ok3 (by decide)
    obtain ⟨X1, x1, x2⟩ := h2.sx
    obtain ⟨Y1, y1, y2⟩ := h2.rx
    obtain ⟨hff, vf, r1, r2⟩ := h2.rm.own
    have ge := h.ge
    refine hR { σ with ib := kb', jn := σ.jn + 1, ic := kc', us := σ.us ++ [.slice (some ⟨k, 0, none⟩) q q] } w4 ⟨⟨o4, ⟨X1, ownT he4 t4 (ownT hE3 t3 x1 (by decide)) (by decide), x2⟩, ⟨ownT he4 t4 (ownT hE3 t3 h2.sm.own (by decide)) (by decide), rowT (rowT h2.sm.row hE3 t3 (by decide)) he4 t4 (by decide)⟩, h.at'.sok, ⟨Y1, ownT he4 t4 (ownT hE3 t3 y1 (by decide)) (by decide), y2⟩, ⟨⟨hff, vf, ownT he4 t4 (ownT hE3 t3 r1 (by decide)) (by decide), r2⟩, rowT (rowT h2.rm.row hE3 t3 (by decide)) he4 t4 (by decide)⟩, h.at'.rok,
      ⟨rowT (rowT h2.last.1 hE3 t3 (by decide)) he4 t4 (by decide), h.at'.last.2⟩, ⟨rowT (rowT h2.sent.1 hE3 t3 (by decide)) he4 t4 (by decide), h.at'.sent.2⟩, h.at'.good, rowT (rowT h2.mine hE3 t3 (by decide)) he4 t4 (by decide), fun j v hv => ?_, rowT hrow3 he4 t4 (by decide), fun j v hv => ?_⟩, by show σ.kn ≤ N + 1; have := h.kn; omega, by show σ.jn + 1 ≤ N + 1; omega, fun y hy => ?_, ?_⟩ ⟨_, _, _, _, _, _, _, _, rfl⟩
    · obtain ⟨k', n', e, hn', ho⟩ := h2.kept j v hv
      exact ⟨k', n', e, hn', ownT he4 t4 (ownT hE3 t3 ho (by decide)) (by decide)⟩
    · have hv' : (σ.us ++ [Value.slice (some ⟨k, 0, none⟩) q q])[j]? = some v := hv
      by_cases hj : j < σ.us.length
      · rw [List.getElem?_append_left hj] at hv'
        obtain ⟨k', n', e, hn', ho⟩ := h2.kint j v hv'
        exact ⟨k', n', e, hn', ownT he4 t4 (ownT hE3 t3 ho (by decide)) (by decide)⟩
      · rw [List.getElem?_append_right (by omega)] at hv'
        have hj0 : j - σ.us.length = 0 := by
          cases hz : j - σ.us.length with
          | zero => rfl
          | succ q => rw [hz] at hv'; simp at hv'
        rw [hj0] at hv'
        simp at hv'
        have ej : j = σ.jn := by omega
        subst ej
        exact ⟨k, q, hv'.symm, hln, ok4⟩
    · unfold foot at hy ge
      simp only [List.mem_cons, List.mem_append] at hy ge
      have zz := ex2.size
      rcases hy with q' | q' | q' | q' | q' | q' | q'
      · exact ge y (.inl q')
      · exact ge y (.inr (.inl q'))
      · exact ge y (.inr (.inr (.inl q')))
      · exact ge y (.inr (.inr (.inr (.inl q'))))
      · exact ge y (.inr (.inr (.inr (.inr (.inl q')))))
      · exact ge y (.inr (.inr (.inr (.inr (.inr (.inl q'))))))
      · rcases hb3 y q' with z | z
        · exact ge y (.inr (.inr (.inr (.inr (.inr (.inr z))))))
        · omega
    · have ga := ge a (by simp [foot])
      refine (ex2.trans' hE3 (fun y hy hlt => ?_)).trans' he4 (fun y hy hlt => by simp at hy; omega)
      have := ge y (by simp only [foot, List.mem_cons, List.mem_append]; exact .inr (.inr (.inr (.inr (.inr (.inr hy))))))
      omega
theorem untouched_ok {R : Bool → World → Prop} (h : LX w0 w a σ qu N) (hN : N ≤ 999999999) (hR : ∀ w', Ext [] w w' → R true w') : seglaw_World_Untouched.Call (some ⟨a, 0, none⟩) w R := by
  apply seglaw_World_Untouched.sound
  unfold seglaw_World_Untouched.B0 seglaw_World_Untouched.L1
  have hkl := h.at'.kl
  have hil := h.at'.il
  have hkn := h.kn
  have hjn := h.jn
  have l3 : seglaw_World_Untouched.L3 (some ⟨a, 0, none⟩) 0 w R := by
    unfold seglaw_World_Untouched.L3
    refine ⟨fun mm d' j w' => ∃ n : Nat, n ≤ σ.kn ∧ mm = σ.kn - n ∧ some ⟨a, 0, none⟩ = d' ∧ j = (n : Int) ∧ Ext [] w w', _, ⟨0, by omega, rfl, rfl, rfl, Ext.refl _ _⟩, ?_⟩
    rintro mm d' j w' ⟨n, hn, rfl, rfl, rfl, he'⟩
    have h' := h.at'.ext0 he'
    unfold seglaw_World_Untouched.L3b
    refine Pn.mk (h'.ldKept (Bm.ite (fun hlt => ?_) fun hge => hR w' he'))
    obtain ⟨v, hv⟩ := get_lt (L := σ.vs) (n := n) (by omega)
    obtain ⟨k, q, e, hq, ho⟩ := h'.kept n v hv
    subst e
    unfold seglaw_World_Untouched.L4
    refine ⟨fun mm d' j i w2 => ∃ p : Nat, p ≤ q ∧ mm = q - p ∧ some ⟨a, 0, none⟩ = d' ∧ (n : Int) = j ∧ i = (p : Int) ∧ Ext [] w' w2, _, ⟨0, by omega, rfl, rfl, rfl, rfl, Ext.refl _ _⟩, ?_⟩
    rintro mm d' j i w2 ⟨p, hp, rfl, rfl, rfl, rfl, he2⟩
    have hx2 := he'.trans he2
    -- the list's cells
    have rowc : ∃ kr, σ.kb = some ⟨kr, 0, none⟩ ∧ ∀ {wx : World}, LawAt wx a σ qu → wx.cell? ⟨kr, n, none⟩ = some (.slice (some ⟨k, 0, none⟩) q q) := by
      obtain ⟨kr, ekr, cs, hok, hc⟩ := h'.mine.at (i := n) (by omega) (by omega)
      refine ⟨kr, ekr, fun {wx} hx => ?_⟩
      obtain ⟨kr', ekr', cs', hok', hc'⟩ := hx.mine.at (i := n) (by omega) (by omega)
      rw [ekr] at ekr'
      simp only [Option.some.injEq, Addr.mk.injEq, and_true] at ekr'
      subst ekr'
      rw [hok'.cell_eq]
      have := hc' 0 (by omega)
      simp only [Nat.mul_one, Nat.add_zero] at this
      rw [this]
      exact hv
    obtain ⟨kr, ekr, hcell⟩ := rowc
    have hA2 := h.at'.ext0 hx2
    have hA2d := hA2.ext0 (Ext.drew [] w2)
    have ko2 : ∀ {wx : World}, Ext [] w' wx → p < q → wx.cell? ⟨k, p, none⟩ = some (.int .u8 (stampV n p)) := fun {wx} hx hpq => (hx.own ho (by simp)).cell (by rw [fnArr_get _ hpq])
    unfold seglaw_World_Untouched.L4b
    refine Pn.mk (hA2.ldKept ?_)
    rw [ekr]
    refine Pn.mk ⟨⟨by omega, by omega⟩, LdL.cell (by rw [addr_i]; exact hcell hA2) (Bm.ite (fun hlt2 => ?_) fun hge2 => ?_)⟩
    · refine Pn.mk (hA2d.ldKept ?_)
      rw [ekr]
      refine Pn.mk ⟨⟨by omega, by omega⟩, LdL.cell (by rw [addr_i]; exact hcell hA2d) (Pn.mk ⟨⟨by omega, by omega⟩, LdI.cell (n := stampV n p) (by rw [addr_i]; exact ko2 (he2.trans (Ext.drew _ _)) (by omega)) ?_⟩)⟩
      refine stamp_ok (by omega) ⟨by rw [addr_i]; exact ko2 (he2.trans (Ext.drew _ _)) (by omega), by rw [addr_i]; exact hcell hA2d, ?_, Bm.neg (by simp) ⟨q - (p + 1), by omega, p + 1, by omega, rfl, rfl, rfl, by rw [w64 (by omega) (by omega)]; omega, he2.trans (Ext.drew _ _)⟩⟩
      rw [add_mk, ← ekr]
      exact hA2d.own.cell rfl
    · exact ⟨σ.kn - (n + 1), by omega, n + 1, by omega, rfl, rfl, by rw [w64 (by omega) (by omega)]; omega, hx2⟩
  refine ⟨fun mm d' j w' => ∃ n : Nat, n ≤ σ.jn ∧ mm = σ.jn - n ∧ some ⟨a, 0, none⟩ = d' ∧ j = (n : Int) ∧ w = w', _, ⟨0, by omega, rfl, rfl, rfl, rfl⟩, ?_⟩
  rintro mm d' j w' ⟨n, hn, rfl, rfl, rfl, rfl⟩
  unfold seglaw_World_Untouched.L1b
  refine Pn.mk (h.at'.ldInts (Bm.ite (fun hlt => ?_) fun hge => l3))
  obtain ⟨v, hv⟩ := get_lt (L := σ.us) (n := n) (by omega)
  obtain ⟨k, q, e, hq, ho⟩ := h.at'.kint n v hv
  subst e
  unfold seglaw_World_Untouched.L2
  refine ⟨fun mm d' j i w' => ∃ p : Nat, p ≤ q ∧ mm = q - p ∧ some ⟨a, 0, none⟩ = d' ∧ (n : Int) = j ∧ i = (p : Int) ∧ w = w', _, ⟨0, by omega, rfl, rfl, rfl, rfl, rfl⟩, ?_⟩
  rintro mm d' j i w' ⟨p, hp, rfl, rfl, rfl, rfl, rfl⟩
  have ld : ∀ {K : Option Addr → Nat → Nat → Prop}, K (some ⟨k, 0, none⟩) q q → Pn (some ⟨a, 0, none⟩) fun y => LdL (y.add 23) w fun b l c => Pn b fun a1 => (0 ≤ (n : Int) ∧ (n : Int) < ((l : Nat) : Int)) ∧ LdL (Addr.add a1 ((n : Int).toNat * 1)) w K := fun hK =>
    KL.ld (x := ⟨σ.ib, σ.jn, σ.ic, σ.us⟩) h.at'.own rfl h.at'.ints (by omega) (by rw [Int.toNat_natCast]; exact hv) hK
  unfold seglaw_World_Untouched.L2b
  refine ld (Bm.ite (fun hlt2 => ld (Pn.mk ⟨⟨by omega, by omega⟩, ho.ld (addr_i k p) (x := -1 - (n : Int)) ?_ ?_⟩)) fun hge2 => ?_)
  · rw [List.getElem?_replicate, if_pos (by omega)]
  · rw [w64 (by omega) (by omega)]
    exact Bm.neg (by simp) ⟨q - (p + 1), by omega, p + 1, by omega, rfl, rfl, rfl, by rw [w64 (by omega) (by omega)]; omega, rfl⟩
  · exact ⟨σ.jn - (n + 1), by omega, n + 1, by omega, rfl, rfl, by rw [w64 (by omega) (by omega)]; omega, rfl⟩
end
end Go.Proofs.Qxb6500426a
