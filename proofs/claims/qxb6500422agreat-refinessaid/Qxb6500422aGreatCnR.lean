/-
  connlaw: Out.
-/
import Derived.Test.Qxb6500422aGreatCnQ
set_option linter.unusedVariables false
set_option linter.unusedSimpArgs false
open Go.Vc
namespace Go.Proofs.Qxb6500422aGreat
section
variable {w0 w : World} {a : Nat} {D : DS} {K : KS} {dr : Hd} {qu : Bool} {N : Nat}
/-- A segment laid into the pool. -/
theorem poolPush {s k : Nat} {g : SegV} {T : TypeId} {Q : World → Prop} (h : LX w0 w a D K dr qu N) (hN : N ≤ 999999999) (os : Own w s (segC (g, k)).toArray T) (hk : Bf w k g.2) (hg : g.2.length ≤ 16) (hk0 : w0.heap.size ≤ k)
    (hQ : ∀ K' w', LX w0 w' a D K' dr qu (N + 1) → (∀ y, LF a D K' y → LF a D K y ∨ y = k ∨ w.heap.size ≤ y) → Wr w w' (fun y => LF a D K y ∧ ∀ cs, ¬ Own w y cs T_uint8) → Q w') :
    Pn (some (⟨a, 0, none⟩ : Addr)) fun a_1 => LdL (a_1.add 8) w fun pb pl pc => LdI .i64 ⟨s, 0, none⟩ w fun x0 => LdI .i64 ⟨s, 1, none⟩ w fun x1 => LdI .i64 ⟨s, 2, none⟩ w fun x2 => LdI .i64 ⟨s, 3, none⟩ w fun x3 => LdI .i64 ⟨s, 4, none⟩ w fun x4 => LdI .i64 ⟨s, 5, none⟩ w fun x5 => LdL ⟨s, 6, none⟩ w fun xb xl xc =>
      New (.cells #[.int .i64 x0, .int .i64 x1, .int .i64 x2, .int .i64 x3, .int .i64 x4, .int .i64 x5, .slice xb xl xc] 45) w fun nb w1 => w1.cell? (a_1.add 8) = some (.slice pb pl pc) ∧
      Append 45 (.agg #[.int .i64 0, .int .i64 0, .int .i64 0, .int .i64 0, .int .i64 0, .int .i64 0, .slice none 0 0]) 7 72 pb pl pc (some ⟨nb, 0, none⟩) 1 w1 fun b c w2 => Pn (some (⟨a, 0, none⟩ : Addr)) fun a_2 => Sts [.slice b (pl + 1) c] (a_2.add 8) 0 w2 fun w3 => Q w3 := by
  refine Pn.mk (h.ldL (b := K.pb) (l := K.pl) (c := K.pc) rfl (LdI.mk os rfl (LdI.mk os rfl (LdI.mk os rfl (LdI.mk os rfl (LdI.mk os rfl (LdI.mk os rfl (LdL.mk os rfl (New.mk fun nb w1 hnb hs1 onb he1 => ⟨?_, ?_⟩)))))))))
  · rw [add_mk]; exact (he1.own h.own (by simp)).cell rfl
  have h1 := h.ext0 he1
  have hbp := h.bp
  have hk1 := hk.ext0 he1
  refine Vc.Append.mk (e := T_api_Segment) (news := segC (g, k)) h1.kps.prow (CellsAt.own onb (fun j v hj => by simpa [segC] using hj)) rfl rfl rfl (by omega) (by omega) fun b' c' w2 hrow2 he2 hb2 => Pn.mk ?_
  have gM : ∀ y ∈ rowBlk K.pb, LF a D K y := fun y hy => .inr (.inr (.inl hy))
  have hz1 := he1.size
  have t2 : Tys w1 (rowBlk K.pb) [T_api_Segment] := Tys.row h1.kps.prow
  rw [add_mk, Nat.zero_add]
  -- the kept segment lists are other blocks than the pool's
  refine h1.store (N' := N + 1) (K' := { K with pb := b', pl := K.pl + 1, pc := c', P := K.P ++ [(g, k)] }) he2 (fun y hy hl => ?_) (fun y hy => h.ge y (gM y hy)) ⟨by
      show Row w2 b' (K.pl + 1) c' 7 T_api_Segment ((K.P ++ [(g, k)]).flatMap segC)
      rw [List.flatMap_append]; simpa using hrow2, fun e he => ?_, h1.kps.mine.extT he2 t2 (by decide) (by decide), h1.kps.ints.extT he2 t2 (by decide) (by decide), h1.kps.outs.ext he2 (fun y hy hl hf => ?_), fun y hy hx => ?_⟩ (fun y hy => ?_) (by show K.pl + 1 ≤ N + 1; omega) (by have := h.bm; show K.M.n ≤ N + 1; omega) (by have := h.bi; show K.I.n ≤ N + 1; omega) (by have := h.bo; show K.O.n ≤ N + 1; omega) rfl (by omega) rfl fun w3 hs3 h3 he3 => ?_
  · obtain ⟨cs, t, ho, ht⟩ := t2 y hy hl
    simp at ht
    subst ht
    exact ⟨Own.ne_type ho h1.own (by decide), fun hf => by
      obtain ⟨cs', t', ho', ht'⟩ := h1.duo.ty hf
      rw [(ho'.unique ho).2] at ht'
      exact absurd ht' (by decide)⟩
  · have nin : ∀ {z : Nat} {v : List Int}, Bf w1 z v → z ∉ rowBlk K.pb := fun {z v} hv hx => by
      obtain ⟨cs, ho⟩ := h1.kps.prow.ty hx
      exact Own.ne_type hv.1 ho (by decide) rfl
    rcases List.mem_append.1 he with q | q
    · exact ⟨(h1.kps.pdat e q).1.ext he2 (nin (h1.kps.pdat e q).1), (h1.kps.pdat e q).2⟩
    · simp at q
      subst q
      exact ⟨hk1.ext he2 (nin hk1), hg⟩
  · rcases hf with q | q
    · obtain ⟨cs, ho⟩ := h1.kps.outs.row.ty q
      obtain ⟨cs', ho'⟩ := h1.kps.prow.ty hy
      exact Own.ne_type ho ho' (by decide) rfl
    · exact h1.kps.sep y hy q
  · have hx' : InK y K.O.vs := hx
    obtain ⟨cs, ho⟩ := h1.kps.outs.kep.own hx'
    have := ho.lt
    rcases hb2 y hy with z | z
    · exact h1.kps.sep y z hx'
    · omega
  · rcases hy with z | ⟨e, he, z⟩ | z
    · rcases hb2 y z with z | z
      · exact .inl (.inl z)
      · have := h.sz; right; omega
    · rcases List.mem_append.1 he with q | q
      · exact .inl (.inr (.inl ⟨e, q, z⟩))
      · simp at q
        subst q
        right
        omega
    · exact .inl (.inr (.inr z))
  · refine hQ _ w3 h3 (fun y hy => ?_) ?_
    · rcases hy with z | z | z | ⟨e, he, z⟩ | z
      · exact .inl (.inl z)
      · exact .inl (.inr (.inl z))
      · rcases hb2 y z with z | z
        · exact .inl (gM y z)
        · right; right; omega
      · rcases List.mem_append.1 he with q | q
        · exact .inl (.inr (.inr (.inr (.inl ⟨e, q, z⟩))))
        · simp at q
          subst q
          exact .inr (.inl z)
      · exact .inl (.inr (.inr (.inr (.inr z))))
    · have n8 : ∀ y ∈ rowBlk K.pb, ∀ cs, ¬ Own w y cs T_uint8 := fun y hy cs q => by
        obtain ⟨cs', ho⟩ := h.kps.prow.ty hy
        exact Own.ne_type q ho (by decide) rfl
      exact ((Wr.of (F := fun y => LF a D K y ∧ ∀ cs, ¬ Own w y cs T_uint8) (he1.nil.trans he2) (fun y hy _ => ⟨gM y hy, n8 y hy⟩))).trans (Wr.of (F := fun y => y = a) he3 (fun y hy _ => by simpa using hy)) (fun y _ q => ⟨.inl q, fun cs z => by rw [q] at z; exact Own.ne_type z h.own (by decide) rfl⟩)
/-- The data of one segment. -/
theorem segRow_ld6 {b : Option Addr} {l c i : Nat} {E : List (SegV × Nat)} {e : SegV × Nat} {T : TypeId} {Q : Option Addr → Nat → Nat → Prop} (h : Row w b l c 7 T (E.flatMap segC)) (hl : E.length = l) (hi : E[i]? = some e) (hQ : Q (some ⟨e.2, 0, none⟩) e.1.2.length e.1.2.length) :
    Pn b fun a => (0 ≤ (i : Int) ∧ (i : Int) < (l : Int)) ∧ LdL ((Addr.add a ((i : Int).toNat * 7)).add 6) w Q := by
  have hlt := (List.getElem?_eq_some_iff.1 hi).1
  obtain ⟨k, rfl, cs, ho, hc⟩ := h.at (i := i) (by omega) (by omega)
  refine Pn.mk ⟨⟨by omega, by omega⟩, ?_⟩
  rw [Int.toNat_natCast, add_mk, add_mk, Nat.zero_add]
  exact LdL.mk ho (by rw [hc 6 (by omega), flat_get segC_len hi (by omega)]; rfl) hQ
/-- The real list stamped and kept. -/
theorem outKeep {ab : Option Addr} {al ac : Nat} {vs : List Value} {R : Bool → World → Prop} (h : LX w0 w a D K dr qu N) (hN : N ≤ 999999999) (hr : Row w ab al ac 7 T_api_Segment vs) (hc : ac ≤ 9223372036854775807) (hfr : ∀ k ∈ rowBlk ab, ¬ LF a D K k) (hg : ∀ k ∈ rowBlk ab, w0.heap.size ≤ k)
    (hR : ∀ K' w', LX w0 w' a D K' dr qu (N + 1) → R true w') :
    Bm (decide ((ac : Int) > 0)) (Pn (some (⟨a, 0, none⟩ : Addr)) fun a_4 => LdL (a_4.add 19) w fun _ xl _ => connlaw_World_Out.L2 (some ⟨a, 0, none⟩) ab ac ac (xl : Int) 0 w R) (R true w) := by
  refine Bm.ite (fun hpos => ?_) fun _ => hR K w (h.mono (by omega))
  rcases hr.2.2 with ⟨_, hz⟩ | ⟨k, cs, rfl, ho, hsz, _⟩
  · omega
  have hbo := h.bo
  have hkf := hfr k (by simp [rowBlk])
  have hkg := hg k (by simp [rowBlk])
  refine Pn.mk (h.ldL (b := K.O.b) (l := K.O.n) (c := K.O.c) rfl ?_)
  unfold connlaw_World_Out.L2
  refine ⟨fun m a' b' l' c' j i w' => ∃ (q : Nat) (cs' : Array Value), q ≤ ac ∧ m = ac - q ∧ some ⟨a, 0, none⟩ = a' ∧ some ⟨k, 0, none⟩ = b' ∧ ac = l' ∧ ac = c' ∧ ((K.O.n : Nat) : Int) = j ∧ i = (q : Int) ∧ Own w' k cs' T_api_Segment ∧ cs'.size = cs.size ∧ Stamped cs' q 7 (rcO K.O.n) ∧ w'.heap.size = w.heap.size ∧ Ext [k] w w', _,
    ⟨0, cs, by omega, rfl, rfl, rfl, rfl, rfl, rfl, rfl, ho, rfl, fun j hj => by omega, rfl, Ext.refl _ _⟩, ?_⟩
  rintro m a' b' l' c' j i w' ⟨q, cs', hq, rfl, rfl, rfl, rfl, rfl, rfl, rfl, ho', hsz', hst, hs', he'⟩
  unfold connlaw_World_Out.L2b
  refine Bm.ite (fun hlt => Pn.mk ⟨⟨by omega, by omega⟩, ?_⟩) fun hge => ?_
  · have hm : (q + 1) * 7 ≤ ac * 7 := Nat.mul_le_mul_right _ (by omega)
    rw [Int.toNat_natCast, add_mk, Nat.zero_add, w64 (by omega) (by omega)]
    refine Sts.mk (vs := rcO K.O.n) ho' (by show q * 7 + 7 ≤ cs'.size; omega) rfl fun w2 hs2 o2 he2 => ⟨ac - (q + 1), by omega, q + 1, _, by omega, rfl, rfl, rfl, rfl, rfl, rfl, by rw [w64 (by omega) (by omega)]; omega, o2, by rw [size_putArr]; exact hsz', hst.step rfl (by omega), by omega, he'.trans he2⟩
  · have hq : q = ac := by omega
    subst hq
    have h' : LX w0 w' a D K dr qu N := h.keep he' (fun y hy _ => by simp at hy; subst hy; exact hkf) (fun y hy => by simp at hy; omega)
    refine Pn.mk (h'.ldL (b := K.O.b) (l := K.O.n) (c := K.O.c) rfl (h'.kps.outs.push (by decide) ho' ⟨by omega, hst⟩ hc (by omega) fun b' c' w2 ls2 he2 hb2 => Pn.mk ?_))
    have t2 : Tys w' (rowBlk K.O.b) [T_outs] := Tys.row h'.kps.outs.row
    have gM : ∀ y ∈ rowBlk K.O.b, LF a D K y := fun y hy => .inr (.inr (.inr (.inr (.inr (.inr (.inl hy))))))
    rw [add_mk, Nat.zero_add]
    refine h'.store (N' := N + 1) (K' := { K with O := ⟨b', K.O.n + 1, c', K.O.vs ++ [.slice (some ⟨k, 0, none⟩) q q]⟩ }) he2 (fun y hy hl => ?_) (fun y hy => h.ge y (gM y hy)) ⟨rowT h'.kps.prow he2 t2 (by decide), fun e he => ⟨⟨ownT he2 t2 (h'.kps.pdat e he).1.1 (by decide), (h'.kps.pdat e he).1.2⟩, (h'.kps.pdat e he).2⟩, h'.kps.mine.extT he2 t2 (by decide) (by decide), h'.kps.ints.extT he2 t2 (by decide) (by decide), ls2, fun y hy hx => ?_⟩ (fun y hy => ?_) (by have := h.bp; show K.pl ≤ N + 1; omega) (by have := h.bm; show K.M.n ≤ N + 1; omega) (by have := h.bi; show K.I.n ≤ N + 1; omega) (by show K.O.n + 1 ≤ N + 1; omega) rfl (by omega) rfl fun w3 hs3 h3 he3 => hR _ w3 h3
    · obtain ⟨cs, t, ho, ht⟩ := t2 y hy hl
      simp at ht
      subst ht
      exact ⟨Own.ne_type ho h'.own (by decide) , fun hf => by
        obtain ⟨cs', t', ho', ht'⟩ := h'.duo.ty hf
        rw [(ho'.unique ho).2] at ht'
        exact absurd ht' (by decide)⟩
    · obtain ⟨n', c'', hx⟩ := hx
      rcases List.mem_append.1 hx with z | z
      · exact h'.kps.sep y hy ⟨n', c'', z⟩
      · simp at z
        rw [z.1] at hy
        exact hkf (.inr (.inr (.inl hy)))
    · rcases hy with z | z | z | z | z
      · exact .inl (.inl z)
      · exact .inl (.inr (.inl z))
      · exact .inl (.inr (.inr (.inl z)))
      · exact .inl (.inr (.inr (.inr (.inl z))))
      · rcases lfoot_push z with z | z | z
        · rcases hb2 y z with z | z
          · exact .inl (.inr (.inr (.inr (.inr (.inl z)))))
          · have := h.sz; right; omega
        · exact .inl (.inr (.inr (.inr (.inr z))))
        · right; omega
theorem out_ok {ab bb : Option Addr} {al ac bl bc lo lo2 : Nat} {A B : List (SegV × Nat)} {R : Bool → World → Prop} (h : LX w0 w a D K dr qu N) (hN : N ≤ 999999900) (sa : SL w ab al ac lo A) (sb : SL w bb bl bc lo2 B) (hE : A.map (·.1) = B.map (·.1)) (hs : Short (A.map (·.1))) (hal : al ≤ 10) (hlo : w0.heap.size ≤ lo)
    (sep : ∀ e ∈ A, e.2 < lo2) (fa : ∀ e ∈ A, ¬ LF a D K e.2) (far : ∀ k ∈ rowBlk ab, ¬ LF a D K k) (fbr : ∀ k ∈ rowBlk bb, ¬ LF a D K k)
    (hR : ∀ K' w', LX w0 w' a D K' dr qu (N + 21) → R true w') : connlaw_World_Out.Call (some ⟨a, 0, none⟩) ab al ac bb bl bc w R := by
  apply connlaw_World_Out.sound
  unfold connlaw_World_Out.B0
  refine sameSegs_ok sa sb hE hs (by omega) fun w1 he1 => Bm.neg rfl ?_
  have l1 := sa.len
  have l2 := sb.len
  have l3 : A.length = B.length := by have := congrArg List.length hE; simpa using this
  unfold connlaw_World_Out.L1
  refine ⟨fun m a' ab' al' ac' bb' bl' bc' i w' => ∃ (n : Nat) (K' : KS), n ≤ bl ∧ m = bl - n ∧ some ⟨a, 0, none⟩ = a' ∧ ab = ab' ∧ al = al' ∧ ac = ac' ∧ bb = bb' ∧ bl = bl' ∧ bc = bc' ∧ i = (n : Int) ∧ LX w0 w' a D K' dr qu (N + 2 * n) ∧ Row w' ab al ac 7 T_api_Segment (A.flatMap segC) ∧ (∀ e ∈ A.drop n, Bf w' e.2 e.1.2 ∧ ¬ LF a D K' e.2) ∧ (∀ k ∈ rowBlk ab, ¬ LF a D K' k) ∧ SL w' bb bl bc lo2 B ∧ (∀ k ∈ rowBlk bb, ¬ LF a D K' k), _,
    ⟨0, K, by omega, rfl, rfl, rfl, rfl, rfl, rfl, rfl, rfl, rfl, h.ext0 he1, (sa.ext0 he1).row, fun e he => ⟨(sa.ext0 he1).dat e (by simpa using he), fa e (by simpa using he)⟩, far, sb.ext0 he1, fbr⟩, ?_⟩
  rintro m a' ab' al' ac' bb' bl' bc' i w' ⟨n, K', hn, rfl, rfl, rfl, rfl, rfl, rfl, rfl, rfl, rfl, h', ra, da, fra, sb', frb⟩
  unfold connlaw_World_Out.L1b
  refine Bm.ite (fun hlt => ?_) fun hge => ?_
  · obtain ⟨f, hf⟩ := get_lt (L := B) (n := n) (by omega)
    obtain ⟨e, he⟩ := get_lt (L := A) (n := n) (by omega)
    have hfm := List.mem_of_getElem? hf
    have hem := List.mem_of_getElem? he
    have hef : e.1 = f.1 := by
      have h1 : (A.map (·.1))[n]? = some e.1 := by simp [he]
      have h2 : (B.map (·.1))[n]? = some f.1 := by simp [hf]
      rw [hE, h2] at h1
      simpa using h1.symm
    have hsh := hs e.1 (List.mem_map.2 ⟨e, hem, rfl⟩)
    have hsf : f.1.2.length ≤ 16 := by rw [← hef]; exact hsh
    have hdrop : A.drop n = e :: A.drop (n + 1) := by
      obtain ⟨hl, hx⟩ := List.getElem?_eq_some_iff.1 he
      rw [List.drop_eq_getElem_cons hl, hx]
    have hasc : ∀ x ∈ A.drop (n + 1), e.2 < x.2 := by
      have hp : (A.drop n).Pairwise (fun a b => a.2 < b.2) := List.Pairwise.sublist (List.drop_sublist n A) sa.asc
      rw [hdrop] at hp
      exact (List.pairwise_cons.1 hp).1
    refine sb'.ld hf (copySeg_ok (H := f.1.1) (sb'.dat f hfm).rd0 rfl (by omega) fun k w2 hk hfk he2 => NewSet.mk rfl rfl fun s w3 hs3 hz3 os he3 => ?_)
    have E3 : Ext [] w' w3.drew := (he2.trans he3).trans (Ext.drew _ _)
    have h3 := h'.ext0 E3
    have os3 : Own w3.drew s (segC (f.1, k)).toArray T_api_Segment := os
    have hfk3 : Bf w3.drew k f.1.2 := hfk.ext0 (he3.trans (Ext.drew _ _))
    have hz := h'.sz
    have hz3' := E3.size
    refine poolPush (K := K') h3 (by omega) os3 hfk3 hsf (by omega) fun K1 w4 h4 g4 wr4 => ?_
    have ra3 : Row w3.drew ab al ac 7 T_api_Segment (A.flatMap segC) := ra.ext E3 (fun _ _ q => by cases q)
    have ra4 := wr4.row ra3 (fun y hy q => fra y hy q.1)
    refine segRow_ld6 ra4 l1 he ?_
    have de := da e (by rw [hdrop]; simp)
    have de4 : Bf w4 e.2 e.1.2 := wr4.bf (de.1.ext0 E3) (fun q => de.2 q.1)
    have hel := de.1.lt
    have up1 : ∀ {y}, y < w'.heap.size → ¬ LF a D K' y → ¬ LF a D K1 y := fun {y} hy hn q => by
      rcases g4 y q with z | z | z
      · exact hn z
      · omega
      · omega
    refine lawOwn_ok h4 (by omega) de4 (up1 hel de.2) (by have := sa.ge e hem; omega) rfl (by omega) fun M' w5 h5 g5 wr5 => ?_
    have hz4 := wr4.size
    have up2 : ∀ {y}, y < w'.heap.size → ¬ LF a D K' y → y ≠ e.2 → ¬ LF a D { K1 with M := M' } y := fun {y} hy hn hne q => by
      rcases g5 y q with z | z | z
      · exact up1 hy hn z
      · exact hne z
      · omega
    have wr : Wr w' w5 (fun y => y = e.2 ∨ (LF a D K' y ∧ ∀ cs, ¬ Own w' y cs T_uint8)) := ((Wr.nil (F := fun y => y = e.2 ∨ (LF a D K' y ∧ ∀ cs, ¬ Own w' y cs T_uint8)) E3).trans wr4 (fun y _ q => .inr ⟨q.1, fun cs z => q.2 cs (E3.own z (by simp))⟩)).trans wr5 (fun y hy q => by
      rcases q with q | q
      · exact .inl q
      · rcases g4 y q.1 with z | z | z
        · exact .inr ⟨z, fun cs o => q.2 cs (wr4.own (E3.own o (by simp)) (fun u => u.2 cs (E3.own o (by simp))))⟩
        · omega
        · omega)
    have nf : ∀ {y}, ¬ LF a D K' y → y ≠ e.2 → ¬ (y = e.2 ∨ (LF a D K' y ∧ ∀ cs, ¬ Own w' y cs T_uint8)) := fun {y} h1 h2 q => by
      rcases q with q | q
      · exact h2 q
      · exact h1 q.1
    have rne : ∀ {b : Option Addr} {l c : Nat} {vs : List Value}, Row w' b l c 7 T_api_Segment vs → ∀ y ∈ rowBlk b, y ≠ e.2 := fun {b l c vs} hr y hy q => by
      obtain ⟨cs, ho⟩ := hr.ty hy
      rw [q] at ho
      exact Own.ne_type ho de.1.1 (by decide) rfl
    have hb2 : ∀ x ∈ B, x.2 ≠ e.2 := fun x hx q => by
      have := sep e hem
      have := sb.ge x hx
      omega
    refine ⟨bl - (n + 1), by omega, n + 1, _, by omega, rfl, rfl, rfl, rfl, rfl, rfl, rfl, rfl, by rw [w64 (by omega) (by omega)]; omega, h5.mono (by omega), wr.row ra (fun y hy => nf (fra y hy) (rne ra y hy)), fun x hx => ?_, fun y hy => up2 (ra.lt y hy) (fra y hy) (rne ra y hy), sb'.wr wr (fun y hy => nf (frb y hy) (rne sb'.row y hy)) (fun x hx q => q.elim (hb2 x hx) fun u => u.2 _ (sb'.dat x hx).1), fun y hy => up2 (sb'.row.lt y hy) (frb y hy) (rne sb'.row y hy)⟩
    have dx := da x (by rw [hdrop]; exact List.mem_cons_of_mem _ hx)
    have hne : x.2 ≠ e.2 := by have := hasc x hx; omega
    exact ⟨wr.bf dx.1 (nf dx.2 hne), up2 dx.1.lt dx.2 hne⟩
  · refine ⟨⟨by omega, by omega⟩, ?_⟩
    rw [slBase0]
    simp only [Int.toNat_natCast, Nat.sub_zero]
    exact outKeep h' (by omega) ra sa.cap fra (fun y hy => by have := sa.blk y hy; omega) fun K'' w2 h2 => hR K'' w2 (h2.mono (by omega))
end
end Go.Proofs.Qxb6500422aGreat
