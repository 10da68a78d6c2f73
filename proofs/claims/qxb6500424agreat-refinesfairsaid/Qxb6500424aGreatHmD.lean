/-
  hostlaw: Own, OwnInts, OwnAll.
-/
import Derived.Test.Qxb6500424aGreatHmC
set_option linter.unusedVariables false
set_option linter.unusedSimpArgs false
open Go.Vc
namespace Go.Proofs.Qxb6500424aGreat
section
variable {w0 w w' : World} {a c : Nat} {m : LH} {r : LR} {k : LC}
theorem LRest.ofU8 {lo y : Nat} {cs : Array Value} (h : LRest lo w r) (ho : Own w y cs T_uint8) (hn : ¬ U8F r y) : ¬ U8F r y ∧ ¬ F81 r y ∧ ¬ IF r y :=
  ⟨hn, fun q => by obtain ⟨_, o⟩ := h.t81 q; exact Own.ne_type o ho (by decide) rfl, fun q => by obtain ⟨_, o⟩ := h.int q; exact Own.ne_type o ho (by decide) rfl⟩
theorem LRest.ofInt {lo y : Nat} {cs : Array Value} (h : LRest lo w r) (ho : Own w y cs T_int) (hn : ¬ IF r y) : ¬ U8F r y ∧ ¬ F81 r y ∧ ¬ IF r y :=
  ⟨fun q => by obtain ⟨_, o⟩ := h.u8 q; exact Own.ne_type o ho (by decide) rfl, fun q => by obtain ⟨_, o⟩ := h.t81 q; exact Own.ne_type o ho (by decide) rfl, hn⟩
theorem LRest.of81 {lo y : Nat} {cs : Array Value} (h : LRest lo w r) (ho : Own w y cs T_mine) (hn : ¬ F81 r y) : ¬ U8F r y ∧ ¬ F81 r y ∧ ¬ IF r y :=
  ⟨fun q => by obtain ⟨_, o⟩ := h.u8 q; exact Own.ne_type o ho (by decide) rfl, hn, fun q => by obtain ⟨_, o⟩ := h.int q; exact Own.ne_type o ho (by decide) rfl⟩
theorem lawOwn_nil {b : Option Addr} {l : Nat} {R : World → Prop} (hR : R w) : hostlaw_World_Own.Call (some ⟨a, 0, none⟩) b l 0 w R := by
  apply hostlaw_World_Own.sound
  unfold hostlaw_World_Own.B0
  exact ⟨⟨by omega, by omega⟩, Bm.pos rfl hR⟩
theorem lawOwn_ok {kb l n : Nat} {v : List Int} {R : World → Prop} (h : LawAt w0 w a m r k) (hN : r.M.n ≤ 4398046511104) (hf : Bf w kb v) (hfr : ¬ U8F r kb) (hk : w0.heap.size ≤ kb) (hl : v.length = n) (hln : n ≤ 281474976710656)
    (hR : ∀ M' w', LawAt w0 w' a m { r with M := M' } k → M'.n ≤ r.M.n + 1 → (∀ y, InK y M'.vs → InK y r.M.vs ∨ y = kb) → (∀ y ∈ rowBlk M'.b, y ∈ rowBlk r.M.b ∨ w.heap.size ≤ y) → Ext (kb :: a :: rowBlk r.M.b) w w' → R w') : hostlaw_World_Own.Call (some ⟨a, 0, none⟩) (some ⟨kb, 0, none⟩) l n w R := by
  apply hostlaw_World_Own.sound
  unfold hostlaw_World_Own.B0
  refine ⟨⟨by omega, by omega⟩, ?_⟩
  rw [slBase0]
  simp only [Int.toNat_natCast, Nat.sub_zero]
  refine Bm.mk (fun _ => hR r.M w h (by omega) (fun y hy => .inl hy) (fun y hy => .inl hy) (Ext.refl _ _)) fun hne => Pn.mk (h.ldL (b := r.M.b) (l := r.M.n) (cc := r.M.c) (by omega) rfl ?_)
  unfold hostlaw_World_Own.L1
  refine ⟨fun mm a' b' l' c' j i w' => ∃ q : Nat, q ≤ n ∧ mm = n - q ∧ some ⟨a, 0, none⟩ = a' ∧ some ⟨kb, 0, none⟩ = b' ∧ n = l' ∧ n = c' ∧ ((r.M.n : Nat) : Int) = j ∧ i = (q : Int) ∧ (∃ v', Bf w' kb v' ∧ v'.length = n ∧ ∀ p, p < q → v'[p]? = some (stampV r.M.n p)) ∧ w'.heap.size = w.heap.size ∧ Ext [kb] w w', _,
    ⟨0, by omega, rfl, rfl, rfl, rfl, rfl, rfl, rfl, ⟨v, hf, hl, fun p hp => by omega⟩, rfl, Ext.refl _ _⟩, ?_⟩
  rintro mm a' b' l' c' j i w' ⟨q, hq, rfl, rfl, rfl, rfl, rfl, rfl, rfl, ⟨v', hf', hl', hst⟩, hs', he'⟩
  unfold hostlaw_World_Own.L1b
  refine Bm.ite (fun hlt => stamp_ok (by omega) (Pn.mk ⟨⟨by omega, by omega⟩, ?_⟩)) fun hge => ?_
  · rw [addr_i]
    refine hf'.set (by omega) (st8_isB _) fun w2 hs2 hf2 he2 => ⟨n - (q + 1), by omega, q + 1, by omega, rfl, rfl, rfl, rfl, rfl, rfl, by rw [w64 (by omega) (by omega)]; omega, ⟨_, hf2, by simpa using hl', fun p hp => ?_⟩, by omega, he'.trans he2⟩
    by_cases e : p = q
    · subst e
      rw [List.getElem?_set, if_pos rfl, if_pos (by omega)]
    · rw [List.getElem?_set, if_neg (by omega)]
      exact hst p (by omega)
  · have hq : q = n := by omega
    subst hq
    have h' : LawAt w0 w' a m r k := h.one he' hk hf.1 (by decide) (h.r.ofU8 hf.1 hfr)
    have ok' : Own w' kb (fnArr q fun i => .int .u8 (stampV r.M.n i)) T_uint8 := by
      have e : (U8 v').toArray = fnArr q fun i => .int .u8 (stampV r.M.n i) := fnArr_ext (by simp [U8, hl']) fun j hj => by
        simp only [List.getElem?_toArray, U8_get]
        rw [hst j hj]
        rfl
      rw [← e]
      exact hf'.1
    refine Pn.mk (h'.ldL (b := r.M.b) (l := r.M.n) (cc := r.M.c) (by omega) rfl (h'.r.M.push (by decide) ok' rfl (by omega) (by omega) fun b' c' w2 ls2 he2 hb2 => Pn.mk ?_))
    have t2 : ExtT w' w2 [T_mine] := ExtT.of he2 (Tys.row h'.r.M.row)
    have hsz := h.sz
    have hz2 := he2.size
    rw [addA]
    refine LawAt.stG (r' := { r with M := ⟨b', r.M.n + 1, c', r.M.vs ++ [.slice (some ⟨kb, 0, none⟩) q q]⟩ }) (k' := k) (t2.own h'.own (by decide)) (h'.h.extT t2 (by decide)) ?_ h'.ge (h'.ext.above he2 (fun y hy _ => h.r.geM y hy)) (by omega) rfl (fun j z => ne_c rfl fun hj => ?_) fun w3 hs3 h3 he3 => ?_
    · refine ⟨h'.r.W.extT t2 (by decide) (by decide) (by decide), h'.r.N.extT t2 (by decide) (by decide) (by decide), fun c hc => t2.row (h'.r.sn c hc) (by decide), t2.row h'.r.R (by decide), h'.r.I.extT t2 (by decide) (by decide), ls2, h'.r.O.ext he2 (fun y hy hl hf => ?_), h'.r.tl, fun j k hj => ⟨t2.own (h'.r.tok j k hj).1 (by decide), (h'.r.tok j k hj).2⟩, fun e hm hp => ?_, fun y hy hf => ?_, h'.r.geR, h'.r.geI, fun y hy => ?_, h'.r.geO, fun e he => t2.own (h'.r.x e he) (by decide)⟩
      · rcases hf with z | z
        · obtain ⟨cs, ho⟩ := h'.r.O.row.ty z
          obtain ⟨cs2, ho2⟩ := h'.r.M.row.ty hy
          exact Own.ne_type ho ho2 (by decide) rfl
        · exact h'.r.sepM y hy z
      · rcases hp with z | z
        · rcases InK_push z with z | z
          · exact h'.r.sepW e hm (.inl z)
          · exact hfr (.inr ⟨e, hm, z⟩)
        · exact h'.r.sepW e hm (.inr z)
      · rcases hb2 y hy with z | z
        · exact h'.r.sepM y z hf
        · obtain ⟨cs, ho⟩ := h'.r.O.kep.own hf
          have := ho.lt
          omega
      · rcases hb2 y hy with z | z
        · exact h'.r.geM y z
        · have := h'.sz; omega
    · exact lawF_other (o := 49) (by omega) hj ⟨rfl, rfl, rfl, rfl, rfl⟩ ⟨rfl, rfl, rfl⟩ ⟨.inr rfl, .inr rfl, .inr rfl, .inr rfl, .inr ⟨rfl, rfl, rfl⟩, .inr rfl, .inr rfl, .inl rfl⟩ z
    · refine hR _ w3 h3 (by show r.M.n + 1 ≤ _; omega) (fun y hy => InK_push hy) (fun y hy => (hb2 y hy).imp id (fun z => by omega)) ?_
      exact (((he'.mono (fun y hy _ => by simp at hy; simp [hy]) : Ext (kb :: a :: rowBlk r.M.b) w w')).trans (he2.mono (fun y hy _ => by simp [hy]))).trans (he3.mono (fun y hy _ => by simp at hy; simp [hy]))
theorem lawOwnInts_ok {kb l n : Nat} {L : List Int} {R : World → Prop} (h : LawAt w0 w a m r k) (hN : r.I.n ≤ 4398046511104) (hf : Sk.IAt w kb L) (hfr : ¬ IF r kb) (hk : w0.heap.size ≤ kb) (hl : L.length = n) (hln : n ≤ 1000)
    (hR : ∀ I' w', LawAt w0 w' a m { r with I := I' } k → I'.n ≤ r.I.n + 1 → (∀ y, InK y I'.vs → InK y r.I.vs ∨ y = kb) → Ext (kb :: a :: rowBlk r.I.b) w w' → R w') : hostlaw_World_OwnInts.Call (some ⟨a, 0, none⟩) (some ⟨kb, 0, none⟩) l n w R := by
  apply hostlaw_World_OwnInts.sound
  unfold hostlaw_World_OwnInts.B0
  refine ⟨⟨by omega, by omega⟩, ?_⟩
  rw [slBase0]
  simp only [Int.toNat_natCast, Nat.sub_zero]
  refine Bm.mk (fun _ => hR r.I w h (by omega) (fun y hy => .inl hy) (Ext.refl _ _)) fun hne => Pn.mk (h.ldL (b := r.I.b) (l := r.I.n) (cc := r.I.c) (by omega) rfl ?_)
  unfold hostlaw_World_OwnInts.L1
  refine ⟨fun mm a' b' l' c' j i w' => ∃ q : Nat, q ≤ n ∧ mm = n - q ∧ some ⟨a, 0, none⟩ = a' ∧ some ⟨kb, 0, none⟩ = b' ∧ n = l' ∧ n = c' ∧ ((r.I.n : Nat) : Int) = j ∧ i = (q : Int) ∧ Sk.IAt w' kb (List.replicate q (-1 - (r.I.n : Int)) ++ L.drop q) ∧ w'.heap.size = w.heap.size ∧ Ext [kb] w w', _,
    ⟨0, by omega, rfl, rfl, rfl, rfl, rfl, rfl, rfl, by simpa using hf, rfl, Ext.refl _ _⟩, ?_⟩
  rintro mm a' b' l' c' j i w' ⟨q, hq, rfl, rfl, rfl, rfl, rfl, rfl, rfl, hf', hs', he'⟩
  unfold hostlaw_World_OwnInts.L1b
  refine Bm.ite (fun hlt => Pn.mk ⟨⟨by omega, by omega⟩, ?_⟩) fun hge => ?_
  · rw [w64 (by omega) (by omega)]
    refine hf'.st (addr_i kb q) (by simp; omega) fun w2 hs2 hf2 he2 => ⟨n - (q + 1), by omega, q + 1, by omega, rfl, rfl, rfl, rfl, rfl, rfl, by rw [w64 (by omega) (by omega)]; omega, ?_, by omega, he'.trans he2⟩
    rw [List.set_append_right _ _ (by simp), List.length_replicate, Nat.sub_self, List.drop_eq_getElem_cons (by omega), List.set_cons_zero] at hf2
    rw [List.replicate_succ', List.append_assoc]
    exact hf2
  · have hq : q = n := by omega
    subst hq
    rw [List.drop_of_length_le (by omega), List.append_nil] at hf'
    have h' : LawAt w0 w' a m r k := h.one he' hk hf (by decide) (h.r.ofInt hf hfr)
    have ok' : Own w' kb ((List.replicate q (-1 - (r.I.n : Int))).map Sk.iv).toArray T_int := hf'
    refine Pn.mk (h'.ldL (b := r.I.b) (l := r.I.n) (cc := r.I.c) (by omega) rfl (h'.r.I.push (by decide) ok' rfl (by omega) (by omega) fun b' c' w2 ls2 he2 hb2 => Pn.mk ?_))
    have t2 : ExtT w' w2 [T_ints] := ExtT.of he2 (Tys.row h'.r.I.row)
    have hz2 := he2.size
    rw [addA]
    refine LawAt.stG (r' := { r with I := ⟨b', r.I.n + 1, c', r.I.vs ++ [.slice (some ⟨kb, 0, none⟩) q q]⟩ }) (k' := k) (t2.own h'.own (by decide)) (h'.h.extT t2 (by decide)) ?_ h'.ge (h'.ext.above he2 (fun y hy _ => h.r.geI y hy)) (by omega) rfl (fun j z => ne_c rfl fun hj => ?_) fun w3 hs3 h3 he3 => ?_
    · refine ⟨h'.r.W.extT t2 (by decide) (by decide) (by decide), h'.r.N.extT t2 (by decide) (by decide) (by decide), fun c hc => t2.row (h'.r.sn c hc) (by decide), t2.row h'.r.R (by decide), ls2, h'.r.M.extT t2 (by decide) (by decide), h'.r.O.extT t2 (by decide) (by decide), h'.r.tl, fun j k hj => ⟨t2.own (h'.r.tok j k hj).1 (by decide), (h'.r.tok j k hj).2⟩, h'.r.sepW, h'.r.sepM, h'.r.geR, fun y hy => ?_, h'.r.geM, h'.r.geO, fun e he => t2.own (h'.r.x e he) (by decide)⟩
      rcases hb2 y hy with z | z
      · exact h'.r.geI y z
      · have := h'.sz; omega
    · exact lawF_other (o := 47) (by omega) hj ⟨rfl, rfl, rfl, rfl, rfl⟩ ⟨rfl, rfl, rfl⟩ ⟨.inr rfl, .inr rfl, .inr rfl, .inr rfl, .inr ⟨rfl, rfl, rfl⟩, .inl rfl, .inr rfl, .inr rfl⟩ z
    · refine hR _ w3 h3 (by show r.I.n + 1 ≤ _; omega) (fun y hy => InK_push hy) ?_
      exact (((he'.mono (fun y hy _ => by simp at hy; simp [hy]) : Ext (kb :: a :: rowBlk r.I.b) w w')).trans (he2.mono (fun y hy _ => by simp [hy]))).trans (he3.mono (fun y hy _ => by simp at hy; simp [hy]))
/-- What Own and OwnAll leave as it was. -/
def KeepR (r r' : LR) : Prop := ∃ M O tok, r' = { r with M := M, O := O, tok := tok }
theorem KeepR.refl (r : LR) : KeepR r r := ⟨r.M, r.O, r.tok, rfl⟩
theorem KeepR.trans {r r' r'' : LR} (h : KeepR r r') (h' : KeepR r' r'') : KeepR r r'' := by
  obtain ⟨M, O, tok, rfl⟩ := h
  obtain ⟨M2, O2, tok2, rfl⟩ := h'
  exact ⟨M2, O2, tok2, rfl⟩
structure OwnedR (w w' : World) (a : Nat) (r r' : LR) (b : Option Addr) (F : List (List Int × Nat)) : Prop where
  kr : KeepR r r'
  u8 : ∀ y, U8F r' y → U8F r y ∨ (∃ e ∈ F, e.2 = y) ∨ w.heap.size ≤ y
  f81 : ∀ y, F81 r' y → F81 r y ∨ y ∈ rowBlk b ∨ w.heap.size ≤ y
  ext : Ext (F.map (·.2) ++ (rowBlk b ++ (a :: (rowBlk r.M.b ++ rowBlk r.O.b)))) w w'
theorem ownAll_ok {b : Option Addr} {l cc lo : Nat} {F : List (List Int × Nat)} {R : World → Prop} (h : LawAt w0 w a m r k) (hF : FrL w b l cc lo F) (hlo : w0.heap.size ≤ lo) (hl : l ≤ 1000) (hM : r.M.n + l ≤ 4398046511104) (hO : r.O.n ≤ 4398046511104) (hfr : ∀ e ∈ F, ¬ U8F r e.2 ∧ e.1.length ≤ 1000000) (hb : ∀ y ∈ rowBlk b, ¬ F81 r y)
    (hR : ∀ r' w', LawAt w0 w' a m r' k → r'.M.n ≤ r.M.n + l → r'.O.n ≤ r.O.n + 1 → OwnedR w w' a r r' b F → R w') : hostlaw_World_OwnAll.Call (some ⟨a, 0, none⟩) b l cc w R := by
  apply hostlaw_World_OwnAll.sound
  unfold hostlaw_World_OwnAll.B0 hostlaw_World_OwnAll.L1
  have hFl := hF.len
  have hcap := hF.cap
  have h0row := hF.row
  refine ⟨fun mm a' b' l' c' i w' => ∃ (q : Nat) (M' : KL), q ≤ l ∧ mm = l - q ∧ some ⟨a, 0, none⟩ = a' ∧ b = b' ∧ l = l' ∧ cc = c' ∧ i = (q : Int) ∧ LawAt w0 w' a m { r with M := M' } k ∧ M'.n ≤ r.M.n + q ∧ (∀ y, InK y M'.vs → InK y r.M.vs ∨ ∃ e ∈ F.take q, e.2 = y) ∧ (∀ y ∈ rowBlk M'.b, y ∈ rowBlk r.M.b ∨ w.heap.size ≤ y) ∧ Ext (F.map (·.2) ++ (a :: rowBlk r.M.b)) w w' ∧ Row w' b l cc 1 81 (F.map frC) ∧ (∀ e ∈ F.drop q, Bf w' e.2 e.1), l,
    ⟨0, r.M, by omega, rfl, rfl, rfl, rfl, rfl, rfl, h, by omega, fun y hy => .inl hy, fun y hy => .inl hy, Ext.refl _ _, hF.row, fun e he => hF.dat e (List.mem_of_mem_drop he)⟩, ?_⟩
  rintro mm a' b' l' c' i w' ⟨q, M', hq, rfl, rfl, rfl, rfl, rfl, rfl, h', hn', hk', hr', he', row', dat'⟩
  have hz' := he'.size
  have nb' : ∀ y ∈ rowBlk b, y ∉ rowBlk M'.b := fun y hy z => by
    rcases hr' y z with z | z
    · exact hb y hy (.inl z)
    · have := h0row.lt y hy; omega
  unfold hostlaw_World_OwnAll.L1b
  refine Bm.ite (fun hlt => ?_) fun hge => ?_
  · obtain ⟨e, he⟩ : ∃ e, F[q]? = some e := ⟨_, List.getElem?_eq_getElem (by omega)⟩
    have hmem := List.mem_of_getElem? he
    have hd : F.drop q = e :: F.drop (q + 1) := by rw [List.drop_eq_getElem_cons (by omega), (List.getElem?_eq_some_iff.1 he).2]
    have hbe := dat' e (by rw [hd]; exact List.mem_cons_self ..)
    obtain ⟨kr, ekr, cs, ho, hc⟩ := row'.at (i := q) (by omega) (by omega)
    subst ekr
    have hce : w'.cell? ⟨kr, q, none⟩ = some (frC e) := ho.cell (by
      have := hc 0 (by omega)
      simp only [Nat.mul_one, Nat.add_zero] at this
      rw [this, List.getElem?_map, he]
      rfl)
    have asc := List.pairwise_iff_getElem.1 hF.asc
    have before : ∀ e' ∈ F.take q, e'.2 < e.2 := fun e' hm => by
      obtain ⟨j, hj⟩ := List.mem_iff_getElem?.1 hm
      have hjq : j < q := by have := (List.getElem?_eq_some_iff.1 hj).1; simp at this; omega
      rw [List.getElem?_take_of_lt hjq] at hj
      have := asc j q (List.getElem?_eq_some_iff.1 hj).1 (by omega) hjq
      rw [(List.getElem?_eq_some_iff.1 hj).2, (List.getElem?_eq_some_iff.1 he).2] at this
      exact this
    have after : ∀ e' ∈ F.drop (q + 1), e.2 < e'.2 := fun e' hm => by
      obtain ⟨j, hj⟩ := List.mem_iff_getElem?.1 hm
      rw [List.getElem?_drop] at hj
      have := asc q (q + 1 + j) (by omega) (List.getElem?_eq_some_iff.1 hj).1 (by omega)
      rw [(List.getElem?_eq_some_iff.1 hj).2, (List.getElem?_eq_some_iff.1 he).2] at this
      exact this
    have hne : ¬ U8F { r with M := M' } e.2 := fun z => by
      rcases z with (z | z) | z
      · rcases hk' e.2 z with z | ⟨e', hm, z⟩
        · exact (hfr e hmem).1 (.inl (.inl z))
        · have := before e' hm; omega
      · exact (hfr e hmem).1 (.inl (.inr z))
      · exact (hfr e hmem).1 (.inr z)
    refine Pn.mk ⟨⟨by omega, by omega⟩, LdL.cell (by rw [addr_i]; exact hce) ?_⟩
    refine lawOwn_ok h' (by show M'.n ≤ _; omega) hbe hne (by have := hF.ge e hmem; omega) rfl (by have := (hfr e hmem).2; omega) fun M2 w2 h2 n2 k2 r2 e2 => ?_
    have z2 := e2.size
    have hkb : kr ∉ e.2 :: a :: rowBlk M'.b := fun z => by
      rcases List.mem_cons.1 z with z | z
      · exact Own.ne_type ho hbe.1 (by decide) z
      rcases List.mem_cons.1 z with z | z
      · exact Own.ne_type ho h'.own (by decide) z
      · exact nb' kr (by simp [rowBlk]) z
    refine ⟨l - (q + 1), by omega, q + 1, M2, by omega, rfl, rfl, rfl, rfl, rfl, by rw [w64 (by omega) (by omega)]; omega, h2, by have : M2.n ≤ M'.n + 1 := n2; omega, fun y hy => ?_, fun y hy => ?_, ?_, ?_, fun e' he' => ?_⟩
    · rw [List.take_add_one, he]
      rcases k2 y hy with z | z
      · rcases hk' y z with z | ⟨e', hm, z⟩
        · exact .inl z
        · exact .inr ⟨e', by simp [hm], z⟩
      · exact .inr ⟨e, by simp, z.symm⟩
    · rcases r2 y hy with z | z
      · exact hr' y z
      · right; omega
    · refine he'.trans' e2 (fun y hy hl => ?_)
      rcases List.mem_cons.1 hy with z | z
      · rw [z]; exact List.mem_append.2 (.inl (List.mem_map.2 ⟨e, hmem, rfl⟩))
      rcases List.mem_cons.1 z with z | z
      · rw [z]; simp
      · rcases hr' y z with z | z
        · simp [z]
        · omega
    · exact row'.ext e2 (fun y hy => by simp [rowBlk] at hy; subst hy; exact hkb)
    · have hm : e' ∈ F.drop q := by rw [hd]; exact List.mem_cons_of_mem _ he'
      have hbb := dat' e' hm
      refine hbb.ext e2 (fun z => ?_)
      rcases List.mem_cons.1 z with z | z
      · have := after e' he'; omega
      rcases List.mem_cons.1 z with z | z
      · exact Own.ne_type hbb.1 h'.own (by decide) z
      · obtain ⟨cs', ho'⟩ := h'.r.M.row.ty z
        exact Own.ne_type hbb.1 ho' (by decide) rfl
  · have hql : q = l := by omega
    have u81 : ∀ y, U8F { r with M := M' } y → U8F r y ∨ (∃ e ∈ F, e.2 = y) := fun y z => by
      rcases z with (z | z) | z
      · rcases hk' y z with z | ⟨e', hm, z⟩
        · exact .inl (.inl (.inl z))
        · exact .inr ⟨e', List.mem_of_mem_take hm, z⟩
      · exact .inl (.inl (.inr z))
      · exact .inl (.inr z)
    have f811 : ∀ y, F81 { r with M := M' } y → F81 r y ∨ w.heap.size ≤ y := fun y z => by
      rcases z with z | z
      · rcases hr' y z with z | z
        · exact .inl (.inl z)
        · exact .inr z
      · exact .inl (.inr z)
    refine ⟨⟨by omega, by omega⟩, Bm.mk (fun hc0 => ?_) fun hc0 => ?_⟩
    · refine hR _ w' h' (by show M'.n ≤ _; omega) (by show r.O.n ≤ _; omega) ⟨⟨M', r.O, r.tok, rfl⟩, fun y z => (u81 y z).imp id .inl, fun y z => (f811 y z).imp id .inr, he'.mono (fun y hy _ => ?_)⟩
      simp at hy ⊢
      rcases hy with z | z | z
      · exact .inl z
      · exact .inr (.inr (.inl z))
      · exact .inr (.inr (.inr (.inl z)))
    have hcp : 0 < cc := by
      simp at hc0
      omega
    rcases row'.2.2 with ⟨_, z⟩ | ⟨kr, cs, ekr, ho, hsz, hta⟩
    · omega
    subst ekr
    rw [slBase0]
    simp only [Int.toNat_natCast, Nat.sub_zero]
    refine Pn.mk (h'.ldL (b := r.O.b) (l := r.O.n) (cc := r.O.c) (by omega) rfl (token_ok (by omega) fun tb w2 htb hft e2 => ?_))
    have h2 := h'.ext0 e2
    have hz2 := e2.size
    have n81 : ¬ F81 { r with M := M' } kr := fun z => by
      rcases f811 kr z with z | z
      · exact hb kr (by simp [rowBlk]) z
      · have := h0row.lt kr (by simp [rowBlk]); omega
    have hgk : w0.heap.size ≤ kr := by have := hF.blk kr (by simp [rowBlk]); omega
    unfold hostlaw_World_OwnAll.L2
    refine ⟨fun mm a' b' l' c' tb' tl' tc' i w3 => ∃ (p : Nat) (cs' : Array Value), p ≤ cc ∧ mm = cc - p ∧ some ⟨a, 0, none⟩ = a' ∧ some ⟨kr, 0, none⟩ = b' ∧ cc = l' ∧ cc = c' ∧ some ⟨tb, 0, none⟩ = tb' ∧ 4 = tl' ∧ 4 = tc' ∧ i = (p : Int) ∧ Own w3 kr cs' 81 ∧ cs'.size = cs.size ∧ (∀ j, j < p → cs'[j]? = some (.slice (some ⟨tb, 0, none⟩) 4 4)) ∧ Ext [kr] w2 w3, cc,
      ⟨0, cs, by omega, rfl, rfl, rfl, rfl, rfl, rfl, rfl, rfl, rfl, e2.own ho (by simp), rfl, fun j hj => by omega, Ext.refl _ _⟩, ?_⟩
    rintro mm a' b' l' c' tb' tl' tc' i w3 ⟨p, cs', hp, rfl, rfl, rfl, rfl, rfl, rfl, rfl, rfl, rfl, ho3, hs3, hst, e3⟩
    unfold hostlaw_World_OwnAll.L2b
    refine Bm.ite (fun hlt => Pn.mk ⟨⟨by omega, by omega⟩, ?_⟩) fun hge2 => ?_
    · rw [addr_i]
      refine Sts.mk ho3 (by simp; omega) rfl fun w4 hs4 ho4 e4 => ⟨cc - (p + 1), by omega, p + 1, _, by omega, rfl, rfl, rfl, rfl, rfl, rfl, rfl, rfl, by rw [w64 (by omega) (by omega)]; omega, ho4, by rw [size_putArr]; exact hs3, fun j hj => ?_, e3.trans e4⟩
      have e5 : putArr cs' p [Value.slice (some ⟨tb, 0, none⟩) 4 4] = cs'.setIfInBounds p (.slice (some ⟨tb, 0, none⟩) 4 4) := rfl
      rw [e5, Array.getElem?_setIfInBounds]
      by_cases z : p = j
      · rw [if_pos z, if_pos (by omega)]
      · rw [if_neg z]
        exact hst j (by omega)
    have hpc : p = cc := by omega
    subst hpc
    have h3 := h2.one e3 hgk (e2.own ho (by simp)) (by decide) (h2.r.of81 (e2.own ho (by simp)) n81)
    have O3 : Ls w3 T_outs T_mine (GO (r.tok ++ [tb])) r.O := h3.r.O.mono fun j n cs hj hg => fun i hi => by
      rw [hg i hi]
      have htl := h3.r.tl
      show some (Value.slice (some ⟨r.tok.getD j 0, 0, none⟩) 4 4) = some (.slice (some ⟨(r.tok ++ [tb]).getD j 0, 0, none⟩) 4 4)
      have : (r.tok ++ [tb]).getD j 0 = r.tok.getD j 0 := by
        rw [List.getD_eq_getElem?_getD, List.getD_eq_getElem?_getD, List.getElem?_append_left (by show j < r.tok.length; have : r.tok.length = r.O.n := htl; have : j < r.O.n := hj; omega)]
      rw [this]
    have htl : r.tok.length = r.O.n := h3.r.tl
    have hg3 : GO (r.tok ++ [tb]) r.O.n p cs' := fun i hi => by
      rw [hst i hi]
      have : (r.tok ++ [tb]).getD r.O.n 0 = tb := by
        rw [List.getD_eq_getElem?_getD, List.getElem?_append_right (by omega), htl, Nat.sub_self]; rfl
      rw [this]
    have hft3 : Bf w3 tb (tokV r.O.n) := hft.ext e3 (fun z => by
      have : tb = kr := by simpa using z
      exact Own.ne_type hft.1 (e2.own ho (by simp)) (by decide) this)
    refine Pn.mk (h3.ldL (b := r.O.b) (l := r.O.n) (cc := r.O.c) (by omega) rfl (O3.push (by decide) ho3 hg3 (by omega) (by omega) fun b' c' w4 ls4 he4 hb4 => Pn.mk ?_))
    have t4 : ExtT w3 w4 [T_outs] := ExtT.of he4 (Tys.row h3.r.O.row)
    have hz4 := he4.size
    have hz3 := e3.size
    rw [addA]
    refine LawAt.stG (r' := { r with M := M', O := ⟨b', r.O.n + 1, c', r.O.vs ++ [.slice (some ⟨kr, 0, none⟩) p p]⟩, tok := r.tok ++ [tb] }) (k' := k) (t4.own h3.own (by decide)) (h3.h.extT t4 (by decide)) ?_ h3.ge (h3.ext.above he4 (fun y hy _ => h3.r.geO y hy)) (by omega) rfl (fun j z => ne_c rfl fun hj => ?_) fun w5 hs5 h5 he5 => ?_
    · refine ⟨h3.r.W.extT t4 (by decide) (by decide) (by decide), h3.r.N.extT t4 (by decide) (by decide) (by decide), fun c hc => t4.row (h3.r.sn c hc) (by decide), t4.row h3.r.R (by decide), h3.r.I.extT t4 (by decide) (by decide), h3.r.M.extT t4 (by decide) (by decide), ls4, ?_, fun j y hj => ?_, fun e hm hp => ?_, fun y hy hf => ?_, h3.r.geR, h3.r.geI, h3.r.geM, fun y hy => ?_, fun e he => t4.own (h3.r.x e he) (by decide)⟩
      · show (r.tok ++ [tb]).length = r.O.n + 1
        rw [List.length_append, htl]; rfl
      · have hj' : (r.tok ++ [tb])[j]? = some y := hj
        by_cases z : j < r.tok.length
        · rw [List.getElem?_append_left z] at hj'
          exact ⟨t4.own (h3.r.tok j y hj').1 (by decide), (h3.r.tok j y hj').2⟩
        · rw [List.getElem?_append_right (by omega)] at hj'
          have : j - r.tok.length = 0 := by
            have := (List.getElem?_eq_some_iff.1 hj').1
            simp at this
            omega
          rw [this] at hj'
          simp at hj'
          subst hj'
          have ej : j = r.O.n := by omega
          rw [ej]
          exact ⟨t4.own hft3.1 (by decide), hft3.2⟩
      · rcases hp with z | z | z
        · exact h3.r.sepW e hm (.inl z)
        · rcases List.mem_append.1 z with z | z
          · exact h3.r.sepW e hm (.inr (.inl z))
          · have e1 : e.2 = tb := by simpa using z
            have := (h'.r.W.dat e hm).lt
            omega
        · exact h3.r.sepW e hm (.inr (.inr z))
      · rcases InK_push hf with z | z
        · exact h3.r.sepM y hy z
        · exact n81 (.inl (by rw [← z]; exact hy))
      · rcases hb4 y hy with z | z
        · exact h3.r.geO y z
        · have := h3.sz; omega
    · exact lawF_other (o := 48) (by omega) hj ⟨rfl, rfl, rfl, rfl, rfl⟩ ⟨rfl, rfl, rfl⟩ ⟨.inr rfl, .inr rfl, .inr rfl, .inr rfl, .inr ⟨rfl, rfl, rfl⟩, .inr rfl, .inl rfl, .inr rfl⟩ z
    · refine hR _ w5 h5 (by show M'.n ≤ _; omega) (by show r.O.n + 1 ≤ _; omega) ⟨⟨_, _, _, rfl⟩, fun y z => ?_, fun y z => ?_, ?_⟩
      · rcases z with (z | z | z) | z
        · exact (u81 y (.inl (.inl z))).imp id .inl
        · rcases List.mem_append.1 z with z | z
          · exact .inl (.inl (.inr (.inl z)))
          · have : y = tb := by simpa using z
            right; right; omega
        · exact .inl (.inl (.inr (.inr z)))
        · exact .inl (.inr z)
      · rcases z with z | z
        · exact (f811 y (.inl z)).imp id .inr
        · rcases InK_push z with z | z
          · exact .inl (.inr z)
          · right; left; simp [rowBlk, z]
      · refine ((((he'.mono (fun y hy _ => ?_)).trans (e2.nil)).trans (e3.mono (fun y hy _ => ?_))).trans (he4.mono (fun y hy _ => ?_))).trans (he5.mono (fun y hy _ => ?_))
        · simp at hy ⊢
          rcases hy with z | z | z
          · exact .inl z
          · exact .inr (.inr (.inl z))
          · exact .inr (.inr (.inr (.inl z)))
        · simp at hy
          simp [rowBlk, hy]
        · simp [hy]
        · simp at hy
          simp [hy]
end
end Go.Proofs.Qxb6500424aGreat
