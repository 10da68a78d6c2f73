/-
  sock: the model's changing calls.
-/
import Derived.Test.Qxb6500427aSkP
set_option linter.unusedVariables false
set_option linter.unusedSimpArgs false
open Go.Vc
namespace Go.Proofs.Qxb6500427a

/-- What a changing call of the model leaves. -/
def MOut (w : World) (m : Nat) (rb : Option Addr) (S' : SkS) (K : World → Prop) : Prop :=
  ∀ rb' rl' rc' w', MC w' m rb' rl' rc' S' → Ext (m :: rowBlk rb) w w' → (∀ k ∈ rowBlk rb', k ∈ rowBlk rb ∨ w.heap.size ≤ k) → K w'
section
variable {w : World} {m : Nat} {rb : Option Addr} {rl rc : Nat} {S : SkS}
theorem MOut.same {K : World → Prop} {w' : World} (hR : MOut w m rb S K) (h : MC w m rb rl rc S) (he : Ext [] w w') : K w' :=
  hR rb rl rc w' (h.ext0 he) he.nil fun k hk => .inl hk
/-- Behind a stretch that allocates alone. -/
theorem MOut.from {K : World → Prop} {w1 : World} {S' : SkS} (hR : MOut w m rb S' K) (he : Ext [] w w1) : MOut w1 m rb S' K := fun rb' rl' rc' w' h' he' hb =>
  hR rb' rl' rc' w' h' (he.nil.trans he') fun k hk => (hb k hk).imp id fun q => by have := he.size; omega
theorem modAdd_ok {e : Ent} {R : Int → World → Prop} (h : MC w m rb rl rc S) (hl : S.E.length ≤ 100) (hn : 1 ≤ S.nsd ∧ S.nsd ≤ 4611686018427387904) (hR : MOut w m rb (addS S e) (R S.nsd)) :
    sockm_Table_add.Call (some ⟨m, 0, none⟩) e.sd e.kind e.lp e.rh e.rp e.slot e.par e.rdy w R := by
  apply sockm_Table_add.sound
  unfold sockm_Table_add.B0
  have hln := h.len
  have hml := h.lt
  refine New.mk fun r w1 e1 s1 o1 he1 => ?_
  have h1 := h.ext0 he1
  refine Pn.mk (h1.ldNsd (Sts.mk (t := 40) o1 (by simp) rfl fun w2 hs2 o2 he2 => Pn.mk ?_))
  have ex12 : Ext [] w w2 := he1.trans' he2 (fun x hx hlt => by simp at hx; omega)
  have h2 := h.ext0 ex12
  have o2' : Own w2 r (entVs { e with sd := S.nsd }).toArray 40 := o2
  refine h2.ldNsd (Pn.mk ?_)
  rw [w64 (by omega) (by omega), add_mk, Nat.zero_add]
  refine Sts.mk h2.own (by simp [mArr]) rfl fun w3 hs3 o3 he3 => Pn.mk ?_
  have h3 : MC w3 m rb rl rc { S with nsd := S.nsd + 1 } := ⟨o3, h2.row.ext he3 (fun k hk hx => by simp at hx; subst hx; exact h.out hk)⟩
  have h3d := h3.drew
  have o3' : Own w3.drew r (entVs { e with sd := S.nsd }).toArray 40 := he3.own o2' (by simp; omega)
  refine h3d.ldR (ldEntB o3' (New.mk fun n w4 e4 s4 o4 he4 => ?_))
  have h4 := h3d.ext0 he4
  have s3 := he3.size
  have s12 := ex12.size
  have s4' : w4.heap.size = n + 1 := s4
  have e4' : n = w3.heap.size := e4
  refine ⟨h4.own.cell rfl, ?_⟩
  refine Vc.Append.mk (news := aeV ({ e with sd := S.nsd }, 0)) h4.row (CellsAt.own o4 (fun j v hj => by rw [Nat.zero_add]; simpa [aeV, entVs] using hj)) rfl rfl rfl (by omega) (by omega) fun b' c' w5 hr5 he5 hb5 => Pn.mk ?_
  have o5 := he5.own h4.own h4.out
  refine Sts.mk o5 (by simp [mArr]) rfl fun w6 hs6 o6 he6 => ?_
  have o6' : Own w6 r (entVs { e with sd := S.nsd }).toArray 40 := he6.own (he5.own (he4.own o3' (by simp)) (fun hx => by have := h.row.lt r hx; omega)) (by simp; omega)
  refine LdI.mk o6' rfl (hR b' (rl + 1) c' w6 ⟨o6, ?_⟩ ?_ fun k hk => ?_)
  · have hrow := hr5.ext he6 (fun k hk hx => by
      simp at hx
      subst hx
      obtain ⟨_, ho'⟩ := hr5.ty hk
      exact Own.ne_type o5 ho' (by decide) rfl)
    show Vc.Row _ _ _ _ _ _ (List.flatMap aeV (S.E ++ [({ e with sd := S.nsd }, 0)]))
    rw [List.flatMap_append]
    simpa using hrow
  · have f1 : Ext (m :: rowBlk rb) w w3 := (ex12.nil).trans (he3.mono (fun x hx _ => by simp at hx; simp [hx]))
    have f2 : Ext (m :: rowBlk rb) w w4 := (f1.trans (Ext.drew _ _)).trans he4.nil
    exact (f2.trans (he5.mono (fun x hx _ => List.mem_cons_of_mem _ hx))).trans (he6.mono (fun x hx _ => by simp at hx; simp [hx]))
  · rcases hb5 k hk with q | q
    · exact .inl q
    · exact .inr (by omega)
theorem modNextEph_ok {p : Int} (h0 : 0 ≤ p) {R : Int → World → Prop} (hR : R (nextP p) w) : sockm_nextEph.Call p w R := by
  apply sockm_nextEph.sound
  unfold sockm_nextEph.B0
  unfold nextP at hR
  refine Bm.ite (fun h => ?_) fun h => ?_
  · rw [if_pos (by omega)] at hR
    exact hR
  · rw [if_neg (by omega)] at hR
    rw [w64 (by omega) (by omega)]
    exact hR
theorem modListen_ok {p : Int} {R : Int → Int → World → Prop} (h : MC w m rb rl rc S) (hS : SkOk S) (hb : S.nsd ≤ 4611686018427387904) (hR : MOut w m rb (listenA p S).2 (R (listenA p S).1.1 (listenA p S).1.2)) : sockm_Table_Listen.Call (some ⟨m, 0, none⟩) p w R := by
  apply sockm_Table_Listen.sound
  unfold sockm_Table_Listen.B0
  have hl6 := hS.len6
  have bad : (p < 1 ∨ 8 ≤ p) → sockm_Table_Listen.B1 (some ⟨m, 0, none⟩) p true w R := fun hp => by
    unfold sockm_Table_Listen.B1
    unfold listenA at hR
    rw [if_pos hp] at hR
    exact Bm.pos rfl (hR.same h (Ext.refl _ _))
  refine Bm.ite (fun hp => bad (.inl hp)) fun hp => ?_
  by_cases hp8 : p ≥ 8
  · rw [decide_eq_true hp8]
    exact bad (.inr hp8)
  · rw [decide_eq_false hp8]
    unfold sockm_Table_Listen.B1
    unfold listenA at hR
    rw [if_neg (by omega)] at hR
    refine Bm.neg rfl (modListener_ok h (by omega) ?_)
    by_cases hz : lisE S.E p = 0
    · rw [if_neg (by simp [hz])] at hR
      refine Bm.neg (by simp [hz]) (modCount_ok h (by omega) ?_)
      by_cases h2 : (S.E.filter isL).length = 2
      · rw [if_pos h2] at hR
        exact Bm.pos (by simp [h2]) (hR.same h (Ext.refl _ _))
      · rw [if_neg h2] at hR
        exact Bm.neg (by simp; omega) (modAdd_ok (e := ⟨0, 1, p, 0, 0, -1, 0, false⟩) h (by omega) ⟨hS.nsd, hb⟩ hR)
    · rw [if_pos hz] at hR
      exact Bm.pos (by simp [hz]) (hR.same h (Ext.refl _ _))
theorem lowE_neg (E : List AE) : lowE E < 0 ↔ lowE E = -1 := by
  constructor
  · intro h
    by_cases e : lowE E = -1
    · exact e
    · obtain ⟨s, _, e2, _⟩ := lowF_some (f := occE E) e
      have e2' : lowE E = (s : Int) := e2
      omega
  · intro h; omega
theorem modConnect_ok {rh rp : Int} {R : Int → Int → World → Prop} (h : MC w m rb rl rc S) (hS : SkOk S) (hb : S.nsd ≤ 4611686018427387904) (hR : MOut w m rb (connectA rh rp S).2 (R (connectA rh rp S).1.1 (connectA rh rp S).1.2)) : sockm_Table_Connect.Call (some ⟨m, 0, none⟩) rh rp w R := by
  apply sockm_Table_Connect.sound
  unfold sockm_Table_Connect.B0
  have hl6 := hS.len6
  unfold connectA at hR
  have badA : (rh < 1 ∨ 255 < rh) → sockm_Table_Connect.B1 (some ⟨m, 0, none⟩) rh rp true w R := fun hp => by
    unfold sockm_Table_Connect.B1
    rw [if_pos hp] at hR
    exact Bm.pos rfl (hR.same h (Ext.refl _ _))
  refine Bm.ite (fun hp => badA (.inl hp)) fun hp => ?_
  by_cases hp2 : rh > 255
  · rw [decide_eq_true hp2]
    exact badA (.inr hp2)
  rw [decide_eq_false hp2]
  rw [if_neg (by omega)] at hR
  unfold sockm_Table_Connect.B1
  refine Bm.neg rfl ?_
  have badP : (rp < 1 ∨ 15 < rp) → sockm_Table_Connect.B2 (some ⟨m, 0, none⟩) rh rp true w R := fun hp => by
    unfold sockm_Table_Connect.B2
    rw [if_pos hp] at hR
    exact Bm.pos rfl (hR.same h (Ext.refl _ _))
  refine Bm.ite (fun hp => badP (.inl hp)) fun hp3 => ?_
  by_cases hp4 : rp > 15
  · rw [decide_eq_true hp4]
    exact badP (.inr hp4)
  rw [decide_eq_false hp4]
  rw [if_neg (by omega)] at hR
  unfold sockm_Table_Connect.B2
  refine Bm.neg rfl (modFree_ok h (by omega) ?_)
  by_cases hlow : lowE S.E = -1
  · rw [if_pos hlow] at hR
    exact Bm.pos (decide_eq_true ((lowE_neg _).2 hlow)) (hR.same h (Ext.refl _ _))
  rw [if_neg hlow] at hR
  refine Bm.neg (decide_eq_false fun hc => hlow ((lowE_neg _).1 hc)) (Pn.mk (h.ldEph ?_))
  unfold sockm_Table_Connect.L1
  refine ⟨fun f t a b s p w' => some ⟨m, 0, none⟩ = t ∧ rh = a ∧ rp = b ∧ lowE S.E = s ∧ Onway S.E rh rp S.eph f p ∧ Ext [] w w', 4, ⟨rfl, rfl, rfl, rfl, .inl ⟨rfl, rfl⟩, Ext.refl _ _⟩, ?_⟩
  rintro f t a b s p w' ⟨rfl, rfl, rfl, rfl, how, he⟩
  have h' := h.ext0 he
  have pb := how.bd hS
  unfold sockm_Table_Connect.L1b
  refine modLookup_ok h' (by omega) fun w1 he1 => ?_
  have ex1 := he.trans he1
  by_cases hz : lookE S.E p rh rp = 0
  · refine Bm.neg (by simp [hz]) (modNextEph_ok (by omega) (Pn.mk ?_))
    have h1 := h.ext0 ex1
    have hml := h.lt
    rw [add_mk, Nat.zero_add]
    refine Sts.mk h1.own (by simp [mArr]) rfl fun w2 hs2 o2 he2 => ?_
    have h2 : MC w2 m rb rl rc { S with eph := nextP p } := ⟨o2, h1.row.ext he2 (fun k hk hx => by simp at hx; subst hx; exact h.out hk)⟩
    refine modAdd_ok (e := ⟨0, 2, p, rh, rp, lowE S.E, 0, false⟩) h2 (Nat.le_trans hl6 (by omega)) ⟨hS.nsd, hb⟩ fun rb' rl' rc' w3 h3 he3 hb3 => ?_
    have ep := how.fin hz
    rw [ep] at hR
    refine hR rb' rl' rc' w3 h3 (((ex1.nil).trans (he2.mono (fun x hx _ => by simp at hx; simp [hx]))).trans he3) fun k hk => ?_
    rcases hb3 k hk with q | q
    · exact .inl q
    · exact .inr (by have := ex1.size; have := he2.size; omega)
  · refine Bm.pos (by simp [hz]) (modNextEph_ok (by omega) ?_)
    obtain ⟨hf, how'⟩ := how.step hS hlow hz
    exact ⟨f - 1, by omega, rfl, rfl, rfl, rfl, how', ex1⟩
theorem modChild_ok {lp rh rp : Int} {R : Int → Int → World → Prop} (h : MC w m rb rl rc S) (hS : SkOk S) (hb : S.nsd ≤ 4611686018427387904) (hR : MOut w m rb (childA lp rh rp S).2 (R (childA lp rh rp S).1.1 (childA lp rh rp S).1.2)) : sockm_Table_Child.Call (some ⟨m, 0, none⟩) lp rh rp w R := by
  apply sockm_Table_Child.sound
  unfold sockm_Table_Child.B0
  have hl6 := hS.len6
  have hln := h.len
  unfold childA at hR
  refine modListener_ok h (by omega) ?_
  by_cases hz : lisE S.E lp = 0
  · rw [if_pos hz] at hR
    exact Bm.pos (by simp [hz]) (hR.same h (Ext.refl _ _))
  rw [if_neg hz] at hR
  refine Bm.neg (by simp [hz]) ?_
  generalize lisE S.E lp = l at hz hR ⊢
  have badA : (rh < 1 ∨ 255 < rh) → sockm_Table_Child.B1 (some ⟨m, 0, none⟩) lp rh rp l true w R := fun hp => by
    unfold sockm_Table_Child.B1
    rw [if_pos hp] at hR
    exact Bm.pos rfl (hR.same h (Ext.refl _ _))
  refine Bm.ite (fun hp => badA (.inl hp)) fun hp => ?_
  by_cases hp2 : rh > 255
  · rw [decide_eq_true hp2]
    exact badA (.inr hp2)
  rw [decide_eq_false hp2]
  rw [if_neg (by omega)] at hR
  unfold sockm_Table_Child.B1
  refine Bm.neg rfl ?_
  have badP : (rp < 1 ∨ 15 < rp) → sockm_Table_Child.B2 (some ⟨m, 0, none⟩) lp rh rp l true w R := fun hp => by
    unfold sockm_Table_Child.B2
    rw [if_pos hp] at hR
    exact Bm.pos rfl (hR.same h (Ext.refl _ _))
  refine Bm.ite (fun hp => badP (.inl hp)) fun hp3 => ?_
  by_cases hp4 : rp > 15
  · rw [decide_eq_true hp4]
    exact badP (.inr hp4)
  rw [decide_eq_false hp4]
  rw [if_neg (by omega)] at hR
  unfold sockm_Table_Child.B2
  refine Bm.neg rfl (modLookup_ok h (by omega) fun w1 he1 => ?_)
  have h1 := h.ext0 he1
  by_cases hk : lookE S.E lp rh rp = 0
  rotate_left
  · rw [if_pos hk] at hR
    exact Bm.pos (by simp [hk]) (hR.same h he1)
  rw [if_neg (by simp [hk])] at hR
  refine Bm.neg (by simp [hk]) ?_
  unfold sockm_Table_Child.L1
  refine ⟨fun mm t a b c l' q i w' => ∃ n : Nat, n ≤ rl ∧ mm = rl - n ∧ some ⟨m, 0, none⟩ = t ∧ lp = a ∧ rh = b ∧ rp = c ∧ l = l' ∧ q = (((S.E.take n).filter (kidOf l)).length : Int) ∧ i = (n : Int) ∧ w1 = w', _, ⟨0, by omega, rfl, rfl, rfl, rfl, rfl, rfl, rfl, rfl, rfl⟩, ?_⟩
  rintro mm t a b c l' q i w' ⟨n, hn, rfl, rfl, rfl, rfl, rfl, rfl, rfl, rfl, rfl⟩
  have hcl := List.length_filter_le (kidOf l) (S.E.take n)
  have htl : (S.E.take n).length ≤ n := by simp; omega
  unfold sockm_Table_Child.L1b
  refine Pn.mk (h1.ldR (Bm.ite (fun hlt => ?_) fun hge => ?_))
  · obtain ⟨a, ha⟩ := get_lt (L := S.E) (n := n) (by omega)
    unfold sockm_Table_Child.B3
    refine Pn.mk (h1.ldR (h1.fI 6 ha rfl (Bm.mk (fun e => ?_) fun e => ?_)))
    · refine ⟨rl - (n + 1), by omega, n + 1, by omega, rfl, rfl, rfl, rfl, rfl, rfl, ?_, by rw [w64 (by omega) (by omega)]; omega, rfl⟩
      rw [w64 (by omega) (by omega), take1 ha, List.filter_append, List.length_append, List.filter_cons_of_pos (by simpa [kidOf] using e)]
      simp
    · refine ⟨rl - (n + 1), by omega, n + 1, by omega, rfl, rfl, rfl, rfl, rfl, rfl, ?_, by rw [w64 (by omega) (by omega)]; omega, rfl⟩
      rw [take1 ha, List.filter_append, List.length_append, List.filter_cons_of_neg (by simpa [kidOf] using e)]
      simp
  · rw [List.take_of_length_le (by omega)] at hcl ⊢
    refine modFree_ok h1 (by omega) ?_
    have full : (2 ≤ (S.E.filter (kidOf l)).length ∨ lowE S.E = -1) → sockm_Table_Child.B4 (some ⟨m, 0, none⟩) lp rh rp l (lowE S.E) true w1 R := fun hf => by
      unfold sockm_Table_Child.B4
      rw [if_pos hf] at hR
      exact Bm.pos rfl (hR.same h he1)
    refine Bm.ite (fun h2 => full (.inl (by omega))) fun h2 => ?_
    by_cases hlow : lowE S.E = -1
    · rw [decide_eq_true ((lowE_neg _).2 hlow)]
      exact full (.inr hlow)
    · rw [decide_eq_false fun hc => hlow ((lowE_neg _).1 hc)]
      unfold sockm_Table_Child.B4
      rw [if_neg (fun hc => by rcases hc with hc | hc; omega; exact hlow hc)] at hR
      exact Bm.neg rfl (modAdd_ok (e := ⟨0, 2, lp, rh, rp, lowE S.E, l, false⟩) h1 (by omega) ⟨hS.nsd, hb⟩ (hR.from he1))
/-! ### one row turned -/
theorem MC.put {i : Nat} (j : Nat) {a : AE} (a' : AE) {v : Value} {K : World → Prop} (h : MC w m rb rl rc S) (ha : S.E[i]? = some a) (hj : j < 9) (he : aeV a' = (aeV a).set j v) (h1 : [v].all Value.oneCell' = true)
    (hk : ∀ w', w'.heap.size = w.heap.size → MC w' m rb rl rc { S with E := S.E.set i a' } → Ext (rowBlk rb) w w' → K w') : Pn rb fun x => (0 ≤ (i : Int) ∧ (i : Int) < (rl : Int)) ∧ Sts [v] ((Addr.add x ((i : Int).toNat * 9)).add j) 0 w K := by
  have hi := (List.getElem?_eq_some_iff.1 ha).1
  have hln := h.len
  obtain ⟨k, e, _⟩ := h.cell (j := 0) ha rfl
  subst e
  refine Pn.mk ⟨⟨by omega, by omega⟩, ?_⟩
  rw [add_mk, add_mk, Int.toNat_natCast, Nat.zero_add]
  refine Vc.Row.put h.row (by simp; omega) h1 fun w' hs hr he' => hk w' hs ⟨he'.own h.own (fun hx => h.out (by simpa [rowBlk] using hx)), ?_⟩ (by simpa [rowBlk] using he')
  rw [show ([v] : List Value).length = 1 from rfl, flat_set1 aeV_len ha hj he] at hr
  exact hr
theorem turn_set (hS : SkOk S) {i : Nat} {a : AE} (ha : S.E[i]? = some a) (g : AE → AE) : turnE a.1.sd g S.E = S.E.set i (g a) := by
  apply List.ext_getElem?
  intro j
  unfold turnE
  rw [List.getElem?_map, List.getElem?_set]
  by_cases e : i = j
  · subst e
    rw [if_pos rfl, if_pos (List.getElem?_eq_some_iff.1 ha).1, ha]
    simp
  · rw [if_neg e]
    cases hj : S.E[j]? with
    | none => rfl
    | some c =>
      simp only [Option.map_some]
      rw [if_neg fun hc => e (asc_inj hS.asc ha hj (by show a.1.sd.toNat = c.1.sd.toNat; rw [hc]))]
theorem modReady_ok {sd : Int} {R : Int → World → Prop} (h : MC w m rb rl rc S) (hS : SkOk S) (hb : S.tick ≤ 1000000000) (hR : MOut w m rb (readyA sd S).2 (R (readyA sd S).1)) : sockm_Table_Ready.Call (some ⟨m, 0, none⟩) sd w R := by
  apply sockm_Table_Ready.sound
  unfold sockm_Table_Ready.B0
  have hl6 := hS.len6
  unfold readyA at hR
  refine modAt_ok h ⟨fun i a ha esd => ?_, fun hn => ?_⟩ (by omega)
  · have eg : getE S.E sd = some a := by rw [← esd]; exact getE_some hS.ei (List.mem_of_getElem? ha)
    simp only [eg] at hR
    refine Bm.ite (fun hc => absurd hc (by omega)) fun _ => Pn.mk (h.ldR (h.fI 6 ha rfl ?_))
    unfold sockm_Table_Ready.B1
    by_cases hp : a.1.par = 0
    · rw [if_pos hp] at hR
      exact Bm.pos (by simp [hp]) (hR.same h (Ext.refl _ _))
    rw [if_neg hp] at hR
    refine Bm.neg (by simp [hp]) (Pn.mk (h.ldR (h.fB ha ?_)))
    cases hrd : a.1.rdy with
    | true =>
      rw [if_pos hrd] at hR
      exact Bm.pos rfl (hR.same h (Ext.refl _ _))
    | false =>
      rw [if_neg (by simp [hrd])] at hR
      refine Bm.neg rfl (Pn.mk (h.ldR (h.put 7 ({ a.1 with rdy := true }, a.2) ha (by omega) rfl rfl fun w1 hs1 h1 he1 => Pn.mk (h1.ldTick (Pn.mk ?_)))))
      show Sts [.int .i64 (IntKind.i64.wrap ((S.tick : Int) + 1))] _ 0 w1 _
      rw [add_mk, Nat.zero_add, w64 (by omega) (by omega)]
      refine Sts.mk h1.own (by simp [mArr]) rfl fun w2 hs2 o2 he2 => ?_
      have h2 : MC w2 m rb rl rc { S with E := S.E.set i ({ a.1 with rdy := true }, a.2), tick := S.tick + 1 } := ⟨o2, h1.row.ext he2 (fun k hk hx => by simp at hx; subst hx; exact h.out hk)⟩
      have h2d := h2.drew
      have hi := (List.getElem?_eq_some_iff.1 ha).1
      have ha2 : (S.E.set i ({ a.1 with rdy := true }, a.2))[i]? = some ({ a.1 with rdy := true }, a.2) := by
        rw [List.getElem?_set, if_pos rfl, if_pos hi]
      refine Pn.mk (h2d.ldR (Pn.mk (h2d.ldTick (h2d.put 8 (rdyG (S.tick + 1) a) ha2 (by omega) rfl rfl fun w3 hs3 h3 he3 => hR rb rl rc w3 ?_ ?_ fun k hk => .inl hk))))
      · rw [← esd, turn_set hS ha]
        simp only [List.set_set] at h3
        exact h3
      · exact (((he1.mono (fun x hx _ => List.mem_cons_of_mem _ hx)).trans (he2.mono (fun x hx _ => by simp at hx; simp [hx]))).trans (Ext.drew _ _)).trans (he3.mono (fun x hx _ => List.mem_cons_of_mem _ hx))
  · have eg := getE_none hn
    simp only [eg] at hR
    unfold sockm_Table_Ready.B1
    exact Bm.pos rfl (Bm.pos rfl (hR.same h (Ext.refl _ _)))
theorem modAccept_ok {lsd : Int} {R : Int → Int → World → Prop} (h : MC w m rb rl rc S) (hS : SkOk S) (hR : MOut w m rb (acceptA lsd S).2 (R (acceptA lsd S).1.1 (acceptA lsd S).1.2)) : sockm_Table_Accept.Call (some ⟨m, 0, none⟩) lsd w R := by
  apply sockm_Table_Accept.sound
  unfold sockm_Table_Accept.B0
  have hl6 := hS.len6
  unfold acceptA at hR
  refine modAt_ok h ⟨fun i a ha esd => ?_, fun hn => ?_⟩ (by omega)
  · have eg : getE S.E lsd = some a := by rw [← esd]; exact getE_some hS.ei (List.mem_of_getElem? ha)
    simp only [eg] at hR
    refine Bm.ite (fun hc => absurd hc (by omega)) fun _ => Pn.mk (h.ldR (h.fI 1 ha rfl ?_))
    unfold sockm_Table_Accept.B1
    by_cases hp : a.1.kind = 1
    rotate_left
    · rw [if_pos hp] at hR
      exact Bm.pos (by simp [hp]) (hR.same h (Ext.refl _ _))
    rw [if_neg (by simp [hp])] at hR
    refine Bm.neg (by simp [hp]) (modQueue_ok h hS fun b c w1 hr1 hge1 he1 => ?_)
    have h1 := h.ext0 he1
    cases hq : qE S.E lsd with
    | nil =>
      rw [hq] at hR
      exact Bm.pos rfl (hR.same h he1)
    | cons q Q =>
      rw [hq] at hR hr1
      simp only at hR
      refine Bm.neg (by simp; omega) ?_
      obtain ⟨k, ek, cs, ho, hc⟩ := hr1.at (i := 0) (by simp) (by omega)
      subst ek
      have hc0 : cs[0]? = some (iv q.1.sd) := by
        have := hc 0 (by omega)
        simpa using this
      have hkge := hge1 k (by simp [rowBlk])
      refine Pn.mk ⟨⟨by omega, by simp⟩, LdI.mk ho hc0 ?_⟩
      have hqm : q ∈ S.E := by
        have h5 := (qE_spec hS.ei lsd).2.subset (a := q) (by rw [hq]; exact List.mem_cons_self ..)
        exact (List.mem_filter.1 h5).1
      refine modAt_ok h1 ⟨fun i2 a2 ha2 esd2 => ?_, fun hn => absurd rfl (hn q hqm)⟩ (by omega)
      have ea2 : a2 = q := hS.ei.uniq (List.mem_of_getElem? ha2) hqm esd2
      subst ea2
      have h1d := h1.drew
      have hi2 := (List.getElem?_eq_some_iff.1 ha2).1
      refine Pn.mk (h1d.ldR (Pn.mk (h1d.ldR (h1d.put 6 ({ a2.1 with par := 0 }, a2.2) ha2 (by omega) rfl rfl fun w3 hs3 h3 he3 => ?_))))
      have ha3 : (S.E.set i2 ({ a2.1 with par := 0 }, a2.2))[i2]? = some ({ a2.1 with par := 0 }, a2.2) := by
        rw [List.getElem?_set, if_pos rfl, if_pos hi2]
      refine h3.put 7 (accG a2) ha3 (by omega) rfl rfl fun w4 hs4 h4 he4 => Pn.mk ⟨⟨by omega, by simp⟩, ?_⟩
      have hno : k ∉ rowBlk rb := fun hx => by have := h.row.lt k hx; omega
      have ho4 := he4.own (he3.own (Own.drew ho) hno) hno
      refine LdI.mk ho4 hc0 (hR rb rl rc w4 ?_ ?_ fun k hk => .inl hk)
      · rw [turn_set hS ha2]
        simp only [List.set_set] at h4
        exact h4
      · exact (((he1.nil).trans (Ext.drew _ _)).trans (he3.mono (fun x hx _ => List.mem_cons_of_mem _ hx))).trans (he4.mono (fun x hx _ => List.mem_cons_of_mem _ hx))
  · have eg := getE_none hn
    simp only [eg] at hR
    unfold sockm_Table_Accept.B1
    exact Bm.pos rfl (Bm.pos rfl (hR.same h (Ext.refl _ _)))
theorem del_at (hS : SkOk S) {i : Nat} {a : AE} (ha : S.E[i]? = some a) : delE a.1.sd S.E = S.E.take i ++ S.E.drop (i + 1) := by
  obtain ⟨hi, e⟩ := List.getElem?_eq_some_iff.1 ha
  have hsp : S.E = S.E.take i ++ a :: S.E.drop (i + 1) := by
    rw [← e, List.getElem_cons_drop]
    exact (List.take_append_drop i S.E).symm
  have h1 : ∀ x ∈ S.E.take i, x.1.sd ≠ a.1.sd := fun x hx => by
    have := hS.ei.nd
    rw [hsp] at this
    exact (List.pairwise_append.1 this).2.2 x hx a (List.mem_cons_self ..)
  have h2 : ∀ x ∈ S.E.drop (i + 1), x.1.sd ≠ a.1.sd := fun x hx => by
    have := hS.ei.nd
    rw [hsp] at this
    exact fun q => (List.pairwise_cons.1 (List.pairwise_append.1 this).2.1).1 x hx q.symm
  have d1 := del_same (sd := a.1.sd) h1
  have d2 := del_same (sd := a.1.sd) h2
  unfold delE at d1 d2 ⊢
  conv => lhs; rw [hsp]
  rw [List.filter_append, List.filter_cons_of_neg (by simp), d1, d2]
theorem modFreeC_ok {sd : Int} {R : Int → World → Prop} (h : MC w m rb rl rc S) (hS : SkOk S) (hR : MOut w m rb (freeA sd S).2 (R (freeA sd S).1)) : sockm_Table_Free.Call (some ⟨m, 0, none⟩) sd w R := by
  apply sockm_Table_Free.sound
  unfold sockm_Table_Free.B0
  have hl6 := hS.len6
  have hln := h.len
  unfold freeA at hR
  refine modAt_ok h ⟨fun i a ha esd => ?_, fun hn => ?_⟩ (by omega)
  · have eg : getE S.E sd = some a := by rw [← esd]; exact getE_some hS.ei (List.mem_of_getElem? ha)
    simp only [eg] at hR
    have hi := (List.getElem?_eq_some_iff.1 ha).1
    have hd := h.drew
    have hrc := h.row.2.1
    refine Bm.ite (fun hc => absurd hc (by omega)) fun _ => Pn.mk (hd.ldR ⟨⟨by omega, by omega⟩, ⟨by omega, by omega⟩, Pn.mk (hd.ldR ⟨?_, ?_⟩)⟩)
    · rw [w64 (by omega) (by omega)]; omega
    rw [w64 (by omega) (by omega), slBase0]
    have hsub := hd.row.sub (i := i) (by omega)
    have htail := hd.row.tail (i + 1) (m := ((rc : Nat) : Int)) (by omega)
    rw [flat_take aeV_len] at hsub
    rw [flat_drop aeV_len] at htail
    have et : ((i : Int)).toNat - ((0 : Nat) : Int).toNat = i := by omega
    have et2 : ((i : Int) + 1) = ((i + 1 : Nat) : Int) := by omega
    have et3 : ((rl : Nat) : Int).toNat - ((i + 1 : Nat) : Int).toNat = rl - (i + 1) := by omega
    rw [et, et2, et3]
    have hno : ∀ L : List AE, (L.flatMap aeV).all Value.oneCell' = true := fun L => by
      rw [List.all_eq_true]
      intro v hv
      rw [List.mem_flatMap] at hv
      obtain ⟨c, _, hv⟩ := hv
      exact List.all_eq_true.1 (show (aeV c).all Value.oneCell' = true from rfl) v hv
    refine Vc.Append.mk (news := (S.E.drop (i + 1)).flatMap aeV) hsub htail (by rw [flat_length aeV_len]; simp; omega) rfl (hno _) (by omega) (by omega) fun b' c' w2 hr2 he2 hb2 => Pn.mk ?_
    have ho2 := he2.own hd.own hd.out
    refine Sts.mk ho2 (by simp [mArr]) rfl fun w3 hs3 o3 he3 => ?_
    have hr3 := hr2.ext he3 (fun k hk hx => by
      simp at hx
      subst hx
      obtain ⟨_, ho'⟩ := hr2.ty hk
      exact Own.ne_type ho2 ho' (by decide) rfl)
    rw [← List.flatMap_append, ← del_at hS ha, esd] at hr3
    have h3 : MC w3 m b' (i + (rl - (i + 1))) c' { S with E := delE sd S.E } := ⟨o3, hr3⟩
    have hx3 : Ext (m :: rowBlk rb) w w3 := ((Ext.drew _ _).trans (he2.mono (fun x hx _ => List.mem_cons_of_mem _ hx))).trans (he3.mono (fun x hx _ => by simp at hx; simp [hx]))
    have hb3 : ∀ k ∈ rowBlk b', k ∈ rowBlk rb ∨ w.heap.size ≤ k := fun k hk => (hb2 k hk).imp id fun q => q.1
    generalize hL : delE sd S.E = L at h3 hR
    generalize hlen : i + (rl - (i + 1)) = l' at h3
    have hl' : l' = L.length := h3.len
    have hLl : L.length ≤ 6 := by
      rw [← hL]
      unfold delE
      have := List.length_filter_le (fun a : AE => !decide (a.1.sd = sd)) S.E
      omega
    unfold sockm_Table_Free.L1
    refine ⟨fun mm t s k w' => ∃ n : Nat, n ≤ l' ∧ mm = l' - n ∧ some ⟨m, 0, none⟩ = t ∧ sd = s ∧ k = (n : Int) ∧ MC w' m b' l' c' { S with E := (L.take n).map (orp sd) ++ L.drop n } ∧ Ext (m :: rowBlk b') w3 w', _, ⟨0, by omega, rfl, rfl, rfl, rfl, by simpa using h3, Ext.refl _ _⟩, ?_⟩
    rintro mm t s k w' ⟨n, hn, rfl, rfl, rfl, rfl, h', he'⟩
    unfold sockm_Table_Free.L1b sockm_Table_Free.B1
    refine Pn.mk (h'.ldR (Bm.ite (fun hlt => ?_) fun hge => ?_))
    · obtain ⟨c, hc⟩ := get_lt (L := L) (n := n) (by omega)
      have hnl := (List.getElem?_eq_some_iff.1 hc).1
      have tl : ((L.take n).map (orp sd)).length = n := by simp; omega
      have hc' : ((L.take n).map (orp sd) ++ L.drop n)[n]? = some c := by
        rw [List.getElem?_append_right (by omega), tl, Nat.sub_self, List.getElem?_drop, Nat.add_zero]
        exact hc
      have hset : ∀ a', ((L.take n).map (orp sd) ++ L.drop n).set n a' = (L.take n).map (orp sd) ++ a' :: L.drop (n + 1) := fun a' => by
        rw [List.set_append_right _ _ (by omega), tl, Nat.sub_self]
        congr 1
        rw [List.drop_eq_getElem_cons hnl, List.set_cons_zero]
      have hdr : L.drop n = c :: L.drop (n + 1) := by
        rw [List.drop_eq_getElem_cons hnl, (List.getElem?_eq_some_iff.1 hc).2]
      have hnx : (L.take n).map (orp sd) ++ orp sd c :: L.drop (n + 1) = (L.take (n + 1)).map (orp sd) ++ L.drop (n + 1) := by
        rw [take1 hc, List.map_append, List.append_assoc]
        rfl
      refine Pn.mk (h'.ldR (h'.fI 6 hc' rfl ?_))
      by_cases hp : c.1.par = sd
      · have hd' := h'.drew
        refine Bm.pos (by simp [hp]) (Pn.mk (hd'.ldR (Pn.mk (hd'.ldR (hd'.put 6 ({ c.1 with par := 0 }, c.2) hc' (by omega) rfl rfl fun w4 hs4 h4 he4 => ?_)))))
        have hc4 : (((L.take n).map (orp sd) ++ L.drop n).set n ({ c.1 with par := 0 }, c.2))[n]? = some ({ c.1 with par := 0 }, c.2) := by
          rw [List.getElem?_set, if_pos rfl, if_pos (List.getElem?_eq_some_iff.1 hc').1]
        refine h4.put 7 (orp sd c) hc4 (by omega) (by unfold orp; rw [if_pos hp]; rfl) rfl fun w5 hs5 h5 he5 => ⟨l' - (n + 1), by omega, n + 1, by omega, rfl, rfl, rfl, by rw [w64 (by omega) (by omega)]; omega, ?_, ((he'.trans (Ext.drew _ _)).trans (he4.mono (fun x hx _ => List.mem_cons_of_mem _ hx))).trans (he5.mono (fun x hx _ => List.mem_cons_of_mem _ hx))⟩
        simp only [List.set_set] at h5
        rw [hset, hnx] at h5
        exact h5
      · refine Bm.neg (by simp [hp]) ⟨l' - (n + 1), by omega, n + 1, by omega, rfl, rfl, rfl, by rw [w64 (by omega) (by omega)]; omega, ?_, he'⟩
        rw [← hnx]
        unfold orp
        rw [if_neg hp, ← hdr]
        exact h'
    · have en : n = L.length := by omega
      subst en
      rw [List.take_of_length_le (Nat.le_refl _), List.drop_of_length_le (Nat.le_refl _), List.append_nil] at h'
      refine hR b' l' c' w' h' (hx3.trans' he' fun x hx hlt => ?_) hb3
      rcases List.mem_cons.1 hx with rfl | hx
      · exact List.mem_cons_self ..
      · rcases hb3 x hx with q | q
        · exact List.mem_cons_of_mem _ q
        · omega
  · have eg := getE_none hn
    simp only [eg] at hR
    exact Bm.pos rfl (hR.same h (Ext.refl _ _))
end
end Go.Proofs.Qxb6500427a
