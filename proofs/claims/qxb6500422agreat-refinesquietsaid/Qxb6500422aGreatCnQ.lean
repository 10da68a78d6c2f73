/-
  connlaw: Own, OwnInts, Untouched.
-/
import Derived.Test.Qxb6500422aGreatCnP
set_option linter.unusedVariables false
set_option linter.unusedSimpArgs false
open Go.Vc
namespace Go.Proofs.Qxb6500422aGreat

/-- What was there and was written lies in F. -/
def Wr (w w' : World) (F : Nat → Prop) : Prop := ∃ Y, Ext Y w w' ∧ ∀ y ∈ Y, y < w.heap.size → F y
section
variable {w w1 w' : World} {F F' : Nat → Prop}
theorem Wr.of {Y : List Nat} (he : Ext Y w w') (h : ∀ y ∈ Y, y < w.heap.size → F y) : Wr w w' F := ⟨Y, he, h⟩
theorem Wr.nil (he : Ext [] w w') : Wr w w' F := ⟨[], he, fun y hy => by cases hy⟩
theorem Wr.own {b : Nat} {c : Array Value} {t : TypeId} (h : Wr w w' F) (ho : Own w b c t) (hb : ¬ F b) : Own w' b c t := by
  obtain ⟨Y, he, hY⟩ := h
  exact he.own ho (fun hx => hb (hY b hx ho.lt))
theorem Wr.size (h : Wr w w' F) : w.heap.size ≤ w'.heap.size := by
  obtain ⟨Y, he, _⟩ := h
  exact he.size
theorem Wr.mono (h : Wr w w' F) (hm : ∀ y, y < w.heap.size → F y → F' y) : Wr w w' F' := by
  obtain ⟨Y, he, hY⟩ := h
  exact ⟨Y, he, fun y hy hl => hm y hl (hY y hy hl)⟩
theorem Wr.trans (h : Wr w w1 F) (h' : Wr w1 w' F') (hm : ∀ y, y < w.heap.size → F' y → F y) : Wr w w' F := by
  have hz := h.size
  obtain ⟨Y, he, hY⟩ := h
  obtain ⟨Z, he', hZ⟩ := h'
  refine ⟨Y ++ Z, (he.mono fun y hy _ => List.mem_append.2 (.inl hy)).trans (he'.mono fun y hy _ => List.mem_append.2 (.inr hy)), fun y hy hl => ?_⟩
  rcases List.mem_append.1 hy with q | q
  · exact hY y q hl
  · exact hm y hl (hZ y q (by omega))
theorem Wr.bf {k : Nat} {v : List Int} (h : Wr w w' F) (hb : Bf w k v) (hk : ¬ F k) : Bf w' k v := ⟨h.own hb.1 hk, hb.2⟩
theorem Wr.row {b : Option Addr} {l c sz : Nat} {t : TypeId} {vs : List Value} (h : Wr w w' F) (hr : Row w b l c sz t vs) (hb : ∀ k ∈ rowBlk b, ¬ F k) : Row w' b l c sz t vs := by
  obtain ⟨Y, he, hY⟩ := h
  exact hr.ext he (fun k hk hx => hb k hk (hY k hx (hr.lt k hk)))
theorem SL.wr {b : Option Addr} {l c lo : Nat} {E : List (SegV × Nat)} (h : SL w b l c lo E) (hw : Wr w w' F) (hb : ∀ k ∈ rowBlk b, ¬ F k) (hd : ∀ e ∈ E, ¬ F e.2) : SL w' b l c lo E :=
  ⟨hw.row h.row hb, fun e he => hw.bf (h.dat e he) (hd e he), h.asc, h.ge, h.blk, h.cap⟩
end
section
variable {w0 w : World} {a : Nat} {D : DS} {K : KS} {dr : Hd} {qu : Bool} {N : Nat}
theorem lawOwn_nil {b : Option Addr} {l : Nat} {R : World → Prop} (hR : R w) : connlaw_World_Own.Call (some ⟨a, 0, none⟩) b l 0 w R := by
  apply connlaw_World_Own.sound
  unfold connlaw_World_Own.B0
  exact ⟨⟨by omega, by omega⟩, Bm.pos rfl hR⟩
theorem lawOwn_ok {k l n : Nat} {v : List Int} {R : World → Prop} (h : LX w0 w a D K dr qu N) (hN : N ≤ 999999999) (hf : Bf w k v) (hfr : ¬ LF a D K k) (hk : w0.heap.size ≤ k) (hl : v.length = n) (hln : n ≤ 281474976710656)
    (hR : ∀ M' w', LX w0 w' a D { K with M := M' } dr qu (N + 1) → (∀ y, LF a D { K with M := M' } y → LF a D K y ∨ y = k ∨ w.heap.size ≤ y) → Wr w w' (fun y => y = k ∨ (LF a D K y ∧ ∀ cs, ¬ Own w y cs T_uint8)) → R w') : connlaw_World_Own.Call (some ⟨a, 0, none⟩) (some ⟨k, 0, none⟩) l n w R := by
  apply connlaw_World_Own.sound
  unfold connlaw_World_Own.B0
  refine ⟨⟨by omega, by omega⟩, ?_⟩
  rw [slBase0]
  simp only [Int.toNat_natCast, Nat.sub_zero]
  have hkn := h.bm
  refine Bm.mk (fun _ => hR K.M w (h.mono (by omega)) (fun y hy => .inl hy) (Wr.nil (Ext.refl _ _))) fun hne => Pn.mk (h.ldL (b := K.M.b) (l := K.M.n) (c := K.M.c) rfl ?_)
  unfold connlaw_World_Own.L1
  refine ⟨fun m a' b' l' c' j i w' => ∃ q : Nat, q ≤ n ∧ m = n - q ∧ some ⟨a, 0, none⟩ = a' ∧ some ⟨k, 0, none⟩ = b' ∧ n = l' ∧ n = c' ∧ ((K.M.n : Nat) : Int) = j ∧ i = (q : Int) ∧ (∃ v', Bf w' k v' ∧ v'.length = n ∧ ∀ p, p < q → v'[p]? = some (stampV K.M.n p)) ∧ w'.heap.size = w.heap.size ∧ Ext [k] w w', _,
    ⟨0, by omega, rfl, rfl, rfl, rfl, rfl, rfl, rfl, ⟨v, hf, hl, fun p hp => by omega⟩, rfl, Ext.refl _ _⟩, ?_⟩
  rintro m a' b' l' c' j i w' ⟨q, hq, rfl, rfl, rfl, rfl, rfl, rfl, rfl, ⟨v', hf', hl', hst⟩, hs', he'⟩
  unfold connlaw_World_Own.L1b
  refine Bm.ite (fun hlt => stamp_ok (by omega) (Pn.mk ⟨⟨by omega, by omega⟩, ?_⟩)) fun hge => ?_
  · rw [addr_i]
    refine hf'.set (by omega) (st8_isB _) fun w2 hs2 hf2 he2 => ⟨n - (q + 1), by omega, q + 1, by omega, rfl, rfl, rfl, rfl, rfl, rfl, by rw [w64 (by omega) (by omega)]; omega, ⟨_, hf2, by simpa using hl', fun p hp => ?_⟩, by omega, he'.trans he2⟩
    by_cases e : p = q
    · subst e
      rw [List.getElem?_set, if_pos rfl, if_pos (by omega)]
    · rw [List.getElem?_set, if_neg (by omega)]
      exact hst p (by omega)
  · have hq : q = n := by omega
    subst hq
    have h' : LX w0 w' a D K dr qu N := h.keep he' (fun y hy _ => by simp at hy; subst hy; exact hfr) (fun y hy => by simp at hy; omega)
    have ok' : Own w' k (fnArr q fun i => .int .u8 (stampV K.M.n i)) T_uint8 := by
      have e : (U8 v').toArray = fnArr q fun i => .int .u8 (stampV K.M.n i) := fnArr_ext (by simp [U8, hl']) fun j hj => by
        simp only [List.getElem?_toArray, U8_get]
        rw [hst j hj]
        rfl
      rw [← e]
      exact hf'.1
    refine Pn.mk (h'.ldL (b := K.M.b) (l := K.M.n) (c := K.M.c) rfl (h'.kps.mine.push (by decide) ok' rfl (by omega) (by omega) fun b' c' w2 ls2 he2 hb2 => Pn.mk ?_))
    have t2 : Tys w' (rowBlk K.M.b) [T_mine] := Tys.row h'.kps.mine.row
    have gM : ∀ y ∈ rowBlk K.M.b, LF a D K y := fun y hy => .inr (.inr (.inr (.inr (.inl (.inl hy)))))
    rw [add_mk, Nat.zero_add]
    refine h'.store (N' := N + 1) (K' := { K with M := ⟨b', K.M.n + 1, c', K.M.vs ++ [.slice (some ⟨k, 0, none⟩) q q]⟩ }) he2 (fun y hy hl => ?_) (fun y hy => h.ge y (gM y hy)) ⟨rowT h'.kps.prow he2 t2 (by decide), fun e he => ⟨⟨ownT he2 t2 (h'.kps.pdat e he).1.1 (by decide), (h'.kps.pdat e he).1.2⟩, (h'.kps.pdat e he).2⟩, ls2, h'.kps.ints.extT he2 t2 (by decide) (by decide), h'.kps.outs.extT he2 t2 (by decide) (by decide), h'.kps.sep⟩ (fun y hy => ?_) (by have := h.bp; show K.pl ≤ N + 1; omega) (by show K.M.n + 1 ≤ N + 1; omega) (by have := h.bi; show K.I.n ≤ N + 1; omega) (by have := h.bo; show K.O.n ≤ N + 1; omega) rfl (by omega) rfl fun w3 hs3 h3 he3 => ?_
    · obtain ⟨cs, t, ho, ht⟩ := t2 y hy hl
      simp at ht
      subst ht
      exact ⟨Own.ne_type ho h'.own (by decide) , fun hf => by
        obtain ⟨cs', t', ho', ht'⟩ := h'.duo.ty hf
        rw [(ho'.unique ho).2] at ht'
        exact absurd ht' (by decide)⟩
    · rcases hy with z | z | z | z | z
      · exact .inl (.inl z)
      · exact .inl (.inr (.inl z))
      · rcases lfoot_push z with z | z | z
        · rcases hb2 y z with z | z
          · exact .inl (.inr (.inr (.inl (.inl z))))
          · have := h.sz; right; omega
        · exact .inl (.inr (.inr (.inl z)))
        · right; omega
      · exact .inl (.inr (.inr (.inr (.inl z))))
      · exact .inl (.inr (.inr (.inr (.inr z))))
    · refine hR _ w3 h3 (fun y hy => ?_) ?_
      · rcases hy with z | z | z | z | z | z | z
        · exact .inl (.inl z)
        · exact .inl (.inr (.inl z))
        · exact .inl (.inr (.inr (.inl z)))
        · exact .inl (.inr (.inr (.inr (.inl z))))
        · rcases lfoot_push z with z | z | z
          · rcases hb2 y z with z | z
            · exact .inl (gM y z)
            · right; right; omega
          · exact .inl (.inr (.inr (.inr (.inr (.inl z)))))
          · exact .inr (.inl z)
        · exact .inl (.inr (.inr (.inr (.inr (.inr (.inl z))))))
        · exact .inl (.inr (.inr (.inr (.inr (.inr (.inr z))))))
      · have n8 : ∀ y ∈ rowBlk K.M.b, ∀ cs, ¬ Own w y cs T_uint8 := fun y hy cs q => by
          obtain ⟨cs', ho⟩ := h.kps.mine.row.ty hy
          exact Own.ne_type q ho (by decide) rfl
        exact ((Wr.of (F := fun y => y = k ∨ (LF a D K y ∧ ∀ cs, ¬ Own w y cs T_uint8)) he' (fun y hy _ => by simp at hy; exact .inl hy)).trans (Wr.of (F := fun y => y ∈ rowBlk K.M.b) he2 (fun y hy _ => hy)) (fun y _ q => .inr ⟨gM y q, n8 y q⟩)).trans (Wr.of (F := fun y => y = a) he3 (fun y hy _ => by simpa using hy)) (fun y _ q => .inr ⟨.inl q, fun cs z => by rw [q] at z; exact Own.ne_type z h.own (by decide) rfl⟩)
theorem lawOwnInts_ok {k l n : Nat} {L : List Int} {R : World → Prop} (h : LX w0 w a D K dr qu N) (hN : N ≤ 999999999) (hf : IAt w k L) (hfr : ¬ LF a D K k) (hk : w0.heap.size ≤ k) (hl : L.length = n) (hln : n ≤ 1000)
    (hR : ∀ I' w', LX w0 w' a D { K with I := I' } dr qu (N + 1) → R w') : connlaw_World_OwnInts.Call (some ⟨a, 0, none⟩) (some ⟨k, 0, none⟩) l n w R := by
  apply connlaw_World_OwnInts.sound
  unfold connlaw_World_OwnInts.B0
  refine ⟨⟨by omega, by omega⟩, ?_⟩
  rw [slBase0]
  simp only [Int.toNat_natCast, Nat.sub_zero]
  have hjn := h.bi
  refine Bm.mk (fun _ => hR K.I w (h.mono (by omega))) fun hne => Pn.mk (h.ldL (b := K.I.b) (l := K.I.n) (c := K.I.c) rfl ?_)
  unfold connlaw_World_OwnInts.L1
  refine ⟨fun m a' b' l' c' j i w' => ∃ q : Nat, q ≤ n ∧ m = n - q ∧ some ⟨a, 0, none⟩ = a' ∧ some ⟨k, 0, none⟩ = b' ∧ n = l' ∧ n = c' ∧ ((K.I.n : Nat) : Int) = j ∧ i = (q : Int) ∧ IAt w' k (List.replicate q (-1 - (K.I.n : Int)) ++ L.drop q) ∧ w'.heap.size = w.heap.size ∧ Ext [k] w w', _,
    ⟨0, by omega, rfl, rfl, rfl, rfl, rfl, rfl, rfl, by simpa using hf, rfl, Ext.refl _ _⟩, ?_⟩
  rintro m a' b' l' c' j i w' ⟨q, hq, rfl, rfl, rfl, rfl, rfl, rfl, rfl, hf', hs', he'⟩
  unfold connlaw_World_OwnInts.L1b
  refine Bm.ite (fun hlt => Pn.mk ⟨⟨by omega, by omega⟩, ?_⟩) fun hge => ?_
  · rw [w64 (by omega) (by omega)]
    refine hf'.st (addr_i k q) (by simp; omega) fun w2 hs2 hf2 he2 => ⟨n - (q + 1), by omega, q + 1, by omega, rfl, rfl, rfl, rfl, rfl, rfl, by rw [w64 (by omega) (by omega)]; omega, ?_, by omega, he'.trans he2⟩
    rw [List.set_append_right _ _ (by simp), List.length_replicate, Nat.sub_self, List.drop_eq_getElem_cons (by omega), List.set_cons_zero] at hf2
    rw [List.replicate_succ', List.append_assoc]
    exact hf2
  · have hq : q = n := by omega
    subst hq
    rw [List.drop_of_length_le (by omega), List.append_nil] at hf'
    have h' : LX w0 w' a D K dr qu N := h.keep he' (fun y hy _ => by simp at hy; subst hy; exact hfr) (fun y hy => by simp at hy; omega)
    have ok' : Own w' k ((List.replicate q (-1 - (K.I.n : Int))).map iv).toArray T_int := hf'
    refine Pn.mk (h'.ldL (b := K.I.b) (l := K.I.n) (c := K.I.c) rfl (h'.kps.ints.push (by decide) ok' rfl (by omega) (by omega) fun b' c' w2 ls2 he2 hb2 => Pn.mk ?_))
    have t2 : Tys w' (rowBlk K.I.b) [T_ints] := Tys.row h'.kps.ints.row
    have gM : ∀ y ∈ rowBlk K.I.b, LF a D K y := fun y hy => .inr (.inr (.inr (.inr (.inr (.inl (.inl hy))))))
    rw [add_mk, Nat.zero_add]
    refine h'.store (N' := N + 1) (K' := { K with I := ⟨b', K.I.n + 1, c', K.I.vs ++ [.slice (some ⟨k, 0, none⟩) q q]⟩ }) he2 (fun y hy hl => ?_) (fun y hy => h.ge y (gM y hy)) ⟨rowT h'.kps.prow he2 t2 (by decide), fun e he => ⟨⟨ownT he2 t2 (h'.kps.pdat e he).1.1 (by decide), (h'.kps.pdat e he).1.2⟩, (h'.kps.pdat e he).2⟩, h'.kps.mine.extT he2 t2 (by decide) (by decide), ls2, h'.kps.outs.extT he2 t2 (by decide) (by decide), h'.kps.sep⟩ (fun y hy => ?_) (by have := h.bp; show K.pl ≤ N + 1; omega) (by have := h.bm; show K.M.n ≤ N + 1; omega) (by show K.I.n + 1 ≤ N + 1; omega) (by have := h.bo; show K.O.n ≤ N + 1; omega) rfl (by omega) rfl fun w3 hs3 h3 he3 => hR _ w3 h3
    · obtain ⟨cs, t, ho, ht⟩ := t2 y hy hl
      simp at ht
      subst ht
      exact ⟨Own.ne_type ho h'.own (by decide) , fun hf => by
        obtain ⟨cs', t', ho', ht'⟩ := h'.duo.ty hf
        rw [(ho'.unique ho).2] at ht'
        exact absurd ht' (by decide)⟩
    · rcases hy with z | z | z | z | z
      · exact .inl (.inl z)
      · exact .inl (.inr (.inl z))
      · exact .inl (.inr (.inr (.inl z)))
      · rcases lfoot_push z with z | z | z
        · rcases hb2 y z with z | z
          · exact .inl (.inr (.inr (.inr (.inl (.inl z)))))
          · have := h.sz; right; omega
        · exact .inl (.inr (.inr (.inr (.inl z))))
        · right; omega
      · exact .inl (.inr (.inr (.inr (.inr z))))
theorem untouched_ok {R : Bool → World → Prop} (h : LX w0 w a D K dr qu N) (hN : N ≤ 999999999) (hR : ∀ w', Ext [] w w' → R true w') : connlaw_World_Untouched.Call (some ⟨a, 0, none⟩) w R := by
  apply connlaw_World_Untouched.sound
  unfold connlaw_World_Untouched.B0
  have ml := h.kps.mine.len
  have il := h.kps.ints.len
  have ol := h.kps.outs.len
  have bm := h.bm
  have bi := h.bi
  have bo := h.bo
  have l5 : connlaw_World_Untouched.L5 (some ⟨a, 0, none⟩) 0 w R := by
    unfold connlaw_World_Untouched.L5
    refine ⟨fun mm d' j w' => ∃ n : Nat, n ≤ K.M.n ∧ mm = K.M.n - n ∧ some ⟨a, 0, none⟩ = d' ∧ j = (n : Int) ∧ Ext [] w w', _, ⟨0, by omega, rfl, rfl, rfl, Ext.refl _ _⟩, ?_⟩
    rintro mm d' j w' ⟨n, hn, rfl, rfl, rfl, he'⟩
    have h' := h.ext0 he'
    unfold connlaw_World_Untouched.L5b
    refine Pn.mk (h'.ldL (b := K.M.b) (l := K.M.n) (c := K.M.c) rfl (Bm.ite (fun hlt => ?_) fun hge => hR w' he'))
    obtain ⟨v, hv⟩ := get_lt (L := K.M.vs) (n := n) (by omega)
    obtain ⟨k, q, cs, e, hq, ho, hg⟩ := h'.kps.mine.kep n v hv
    unfold GB at hg
    subst hg
    subst e
    unfold connlaw_World_Untouched.L6
    refine ⟨fun mm d' j i w2 => ∃ p : Nat, p ≤ q ∧ mm = q - p ∧ some ⟨a, 0, none⟩ = d' ∧ (n : Int) = j ∧ i = (p : Int) ∧ Ext [] w' w2, _, ⟨0, by omega, rfl, rfl, rfl, rfl, Ext.refl _ _⟩, ?_⟩
    rintro mm d' j i w2 ⟨p, hp, rfl, rfl, rfl, rfl, he2⟩
    have hx2 := he'.trans he2
    have rowc : ∃ kr, K.M.b = some ⟨kr, 0, none⟩ ∧ ∀ {wx : World}, LX w0 wx a D K dr qu N → wx.cell? ⟨kr, n, none⟩ = some (.slice (some ⟨k, 0, none⟩) q q) := by
      obtain ⟨kr, ekr, cs, hok, hc⟩ := h'.kps.mine.row.at (i := n) (by omega) (by omega)
      refine ⟨kr, ekr, fun {wx} hx => ?_⟩
      obtain ⟨kr', ekr', cs', hok', hc'⟩ := hx.kps.mine.row.at (i := n) (by omega) (by omega)
      rw [ekr] at ekr'
      simp only [Option.some.injEq, Addr.mk.injEq, and_true] at ekr'
      subst ekr'
      rw [hok'.cell_eq]
      have := hc' 0 (by omega)
      simp only [Nat.mul_one, Nat.add_zero] at this
      rw [this]
      exact hv
    obtain ⟨kr, ekr, hcell⟩ := rowc
    have hA2 := h.ext0 hx2
    have hA2d := hA2.ext0 (Ext.drew [] w2)
    have ko2 : ∀ {wx : World}, Ext [] w' wx → p < q → wx.cell? ⟨k, p, none⟩ = some (.int .u8 (stampV n p)) := fun {wx} hx hpq => (hx.own ho (by simp)).cell (by rw [fnArr_get _ hpq])
    unfold connlaw_World_Untouched.L6b
    refine Pn.mk (hA2.ldL (b := K.M.b) (l := K.M.n) (c := K.M.c) rfl ?_)
    rw [ekr]
    refine Pn.mk ⟨⟨by omega, by omega⟩, LdL.cell (by rw [addr_i]; exact hcell hA2) (Bm.ite (fun hlt2 => ?_) fun hge2 => ?_)⟩
    · refine Pn.mk (hA2d.ldL (b := K.M.b) (l := K.M.n) (c := K.M.c) rfl ?_)
      rw [ekr]
      refine Pn.mk ⟨⟨by omega, by omega⟩, LdL.cell (by rw [addr_i]; exact hcell hA2d) (Pn.mk ⟨⟨by omega, by omega⟩, LdI.cell (n := stampV n p) (by rw [addr_i]; exact ko2 (he2.trans (Ext.drew _ _)) (by omega)) ?_⟩)⟩
      refine stamp_ok (by omega) ⟨by rw [addr_i]; exact ko2 (he2.trans (Ext.drew _ _)) (by omega), by rw [addr_i]; exact hcell hA2d, ?_, Bm.neg (by simp) ⟨q - (p + 1), by omega, p + 1, by omega, rfl, rfl, rfl, by rw [w64 (by omega) (by omega)]; omega, he2.trans (Ext.drew _ _)⟩⟩
      rw [add_mk, ← ekr]
      exact hA2d.own.cell rfl
    · exact ⟨K.M.n - (n + 1), by omega, n + 1, by omega, rfl, rfl, by rw [w64 (by omega) (by omega)]; omega, hx2⟩
  have l3 : connlaw_World_Untouched.L3 (some ⟨a, 0, none⟩) 0 w R := by
    unfold connlaw_World_Untouched.L3
    refine ⟨fun mm d' j w' => ∃ n : Nat, n ≤ K.I.n ∧ mm = K.I.n - n ∧ some ⟨a, 0, none⟩ = d' ∧ j = (n : Int) ∧ w = w', _, ⟨0, by omega, rfl, rfl, rfl, rfl⟩, ?_⟩
    rintro mm d' j w' ⟨n, hn, rfl, rfl, rfl, rfl⟩
    unfold connlaw_World_Untouched.L3b
    refine Pn.mk (h.ldL (b := K.I.b) (l := K.I.n) (c := K.I.c) rfl (Bm.ite (fun hlt => ?_) fun hge => l5))
    obtain ⟨v, hv⟩ := get_lt (L := K.I.vs) (n := n) (by omega)
    obtain ⟨k, q, cs, e, hq, ho, hg⟩ := h.kps.ints.kep n v hv
    unfold GI at hg
    subst hg
    subst e
    have hi : IAt w k (List.replicate q (-1 - (n : Int))) := ho
    unfold connlaw_World_Untouched.L4
    refine ⟨fun mm d' j i w' => ∃ p : Nat, p ≤ q ∧ mm = q - p ∧ some ⟨a, 0, none⟩ = d' ∧ (n : Int) = j ∧ i = (p : Int) ∧ w = w', _, ⟨0, by omega, rfl, rfl, rfl, rfl, rfl⟩, ?_⟩
    rintro mm d' j i w' ⟨p, hp, rfl, rfl, rfl, rfl, rfl⟩
    have ld : ∀ {Q : Option Addr → Nat → Nat → Prop}, Q (some ⟨k, 0, none⟩) q q → Pn (some ⟨a, 0, none⟩) fun y => LdL (y.add 18) w fun b l c => Pn b fun a1 => (0 ≤ (n : Int) ∧ (n : Int) < ((l : Nat) : Int)) ∧ LdL (Addr.add a1 ((n : Int).toNat * 1)) w Q := fun hK =>
      KL.ld (x := K.I) h.own rfl h.kps.ints.row (by omega) (by rw [Int.toNat_natCast]; exact hv) hK
    unfold connlaw_World_Untouched.L4b
    refine ld (Bm.ite (fun hlt2 => ld (Pn.mk ⟨⟨by omega, by omega⟩, hi.ld (addr_i k p) (x := -1 - (n : Int)) ?_ ?_⟩)) fun hge2 => ?_)
    · rw [List.getElem?_replicate, if_pos (by omega)]
    · rw [w64 (by omega) (by omega)]
      exact Bm.neg (by simp) ⟨q - (p + 1), by omega, p + 1, by omega, rfl, rfl, rfl, by rw [w64 (by omega) (by omega)]; omega, rfl⟩
    · exact ⟨K.I.n - (n + 1), by omega, n + 1, by omega, rfl, rfl, by rw [w64 (by omega) (by omega)]; omega, rfl⟩
  unfold connlaw_World_Untouched.L1
  refine ⟨fun mm d' j w' => ∃ n : Nat, n ≤ K.O.n ∧ mm = K.O.n - n ∧ some ⟨a, 0, none⟩ = d' ∧ j = (n : Int) ∧ w = w', _, ⟨0, by omega, rfl, rfl, rfl, rfl⟩, ?_⟩
  rintro mm d' j w' ⟨n, hn, rfl, rfl, rfl, rfl⟩
  unfold connlaw_World_Untouched.L1b
  refine Pn.mk (h.ldL (b := K.O.b) (l := K.O.n) (c := K.O.c) rfl (Bm.ite (fun hlt => ?_) fun hge => l3))
  obtain ⟨v, hv⟩ := get_lt (L := K.O.vs) (n := n) (by omega)
  obtain ⟨k, q, cs, e, hq, ho, hg⟩ := h.kps.outs.kep n v hv
  subst e
  unfold connlaw_World_Untouched.L2
  refine ⟨fun mm d' j i w' => ∃ p : Nat, p ≤ q ∧ mm = q - p ∧ some ⟨a, 0, none⟩ = d' ∧ (n : Int) = j ∧ i = (p : Int) ∧ w = w', _, ⟨0, by omega, rfl, rfl, rfl, rfl, rfl⟩, ?_⟩
  rintro mm d' j i w' ⟨p, hp, rfl, rfl, rfl, rfl, rfl⟩
  have ld : ∀ {Q : Option Addr → Nat → Nat → Prop}, Q (some ⟨k, 0, none⟩) q q → Pn (some ⟨a, 0, none⟩) fun y => LdL (y.add 19) w fun b l c => Pn b fun a1 => (0 ≤ (n : Int) ∧ (n : Int) < ((l : Nat) : Int)) ∧ LdL (Addr.add a1 ((n : Int).toNat * 1)) w Q := fun hK =>
    KL.ld (x := K.O) h.own rfl h.kps.outs.row (by omega) (by rw [Int.toNat_natCast]; exact hv) hK
  have gc : ∀ f, p < q → f < 7 → cs[p * 7 + f]? = some ((rcO n).getD f undef) := fun f hpq hf => by
    have h1 : (p + 1) * 7 ≤ q * 7 := Nat.mul_le_mul_right _ hpq
    rw [hg.2 (p * 7 + f) (by omega), show (p * 7 + f) % 7 = f by omega]
  unfold connlaw_World_Untouched.L2b
  refine ld (Bm.ite (fun hlt2 => ld (Pn.mk ⟨⟨by omega, by omega⟩, ?_⟩)) fun hge2 => ?_)
  · rw [Int.toNat_natCast, add_mk, add_mk, Nat.zero_add]
    refine LdI.mk ho (gc 2 (by omega) (by omega)) ?_
    rw [w64 (by omega) (by omega)]
    refine Bm.neg (by simp) (ld (Pn.mk ⟨⟨by omega, by omega⟩, ?_⟩))
    rw [add_mk, add_mk, Nat.zero_add]
    refine LdL.mk ho (gc 6 (by omega) (by omega)) ?_
    unfold connlaw_World_Untouched.B1
    exact Bm.neg rfl ⟨q - (p + 1), by omega, p + 1, by omega, rfl, rfl, rfl, by rw [w64 (by omega) (by omega)]; omega, rfl⟩
  · exact ⟨K.O.n - (n + 1), by omega, n + 1, by omega, rfl, rfl, by rw [w64 (by omega) (by omega)]; omega, rfl⟩
end
end Go.Proofs.Qxb6500422aGreat
