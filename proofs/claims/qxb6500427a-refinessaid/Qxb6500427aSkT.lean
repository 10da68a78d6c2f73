/-
  socklaw: the observers on both sides, Alike, Play, the walk and the two theorems.
-/
import Derived.Test.Qxb6500427aSkR
import Derived.Test.Qxb6500427aScript
set_option linter.unusedVariables false
set_option linter.unusedSimpArgs false
open Go.Vc
namespace Go.Proofs.Qxb6500427a

section
variable {w0 w : World} {d x m : Nat} {S : SkS} {N : Nat}
theorem DX.parts (h : DX w0 w d x m S N) : ∃ rb rl rc, MC w m rb rl rc S ∧ RAt w x S ∧ SkOk S := by
  obtain ⟨rb, rl, rc, _, _, _, _, h1, _⟩ := h
  exact ⟨rb, rl, rc, h1.md, h1.re, h1.ok⟩
theorem sameLookup_ok {lp rh rp : Int} {R : Bool → World → Prop} (h : DX w0 w d x m S N) (hR : ∀ w', Ext [] w w' → R true w') : socklaw_SameLookup.Call (some ⟨x, 0, none⟩) (some ⟨m, 0, none⟩) lp rh rp w R := by
  apply socklaw_SameLookup.sound
  unfold socklaw_SameLookup.B0
  obtain ⟨rb, rl, rc, hm, hr, hok⟩ := h.parts
  have hl6 := hok.len6
  obtain ⟨T, F, C, occ, ht, hrel⟩ := hr
  refine lookup_ok ht hrel hok fun w1 he1 => modLookup_ok (hm.ext0 he1) (by omega) fun w2 he2 => ?_
  rw [beq_self_eq_true]
  exact hR w2 (he1.trans he2)
theorem sameListener_ok {p : Int} {R : Bool → World → Prop} (h : DX w0 w d x m S N) (hR : R true w) : socklaw_SameListener.Call (some ⟨x, 0, none⟩) (some ⟨m, 0, none⟩) p w R := by
  apply socklaw_SameListener.sound
  unfold socklaw_SameListener.B0
  obtain ⟨rb, rl, rc, hm, hr, hok⟩ := h.parts
  have hl6 := hok.len6
  refine realListener_ok hr hok (modListener_ok hm (by omega) ?_)
  rw [beq_self_eq_true]
  exact hR
theorem sameEntry_ok {e : Ent} {R : Bool → World → Prop} (hR : ∀ w', Ext [] w w' → R true w') : socklaw_SameEntry.Call e.sd e.kind e.lp e.rh e.rp e.slot e.par e.rdy e.sd e.kind e.lp e.rh e.rp e.slot e.par e.rdy w R := by
  apply socklaw_SameEntry.sound
  unfold socklaw_SameEntry.B0
  refine New.mk fun a w1 e1 s1 o1 he1 => New.mk fun b w2 e2 s2 o2 he2 => ?_
  have o1' := he2.own o1 (by simp)
  have hx := he1.trans he2
  refine LdI.mk o1' rfl (LdI.mk o2 rfl (Bm.neg (by simp) (LdI.mk o1' rfl (LdI.mk o2 rfl (Bm.neg (by simp) (LdI.mk o1' rfl (LdI.mk o2 rfl (Bm.neg (by simp) (LdI.mk o1' rfl (LdI.mk o2 rfl ?_))))))))))
  unfold socklaw_SameEntry.B1
  refine Bm.neg (by simp) (LdI.mk o1' rfl (LdI.mk o2 rfl (Bm.pos (by simp) (LdI.mk o1' rfl (LdI.mk o2 rfl (Bm.pos (by simp) (LdI.mk o1' rfl (LdI.mk o2 rfl (Bm.pos (by simp) (LdB.mk o1' rfl (LdB.mk o2 rfl ?_)))))))))))
  rw [beq_self_eq_true]
  exact hR w2 hx
theorem sameGet_ok {sd : Int} {R : Bool → World → Prop} (h : DX w0 w d x m S N) (hR : ∀ w', Ext [] w w' → R true w') : socklaw_SameGet.Call (some ⟨x, 0, none⟩) (some ⟨m, 0, none⟩) sd w R := by
  apply socklaw_SameGet.sound
  unfold socklaw_SameGet.B0
  obtain ⟨rb, rl, rc, hm, hr, hok⟩ := h.parts
  have hl6 := hok.len6
  refine realGet_ok hr hok fun w1 he1 => New.mk fun a w2 e2 s2 o2 he2 => Sts.full (vs := entVs (getV S.E sd).1) o2 rfl rfl fun w3 hs3 o3 he3 => ?_
  have ex3 : Ext [] w w3 := (he1.trans he2).trans' he3 (fun q hq hlt => by simp at hq; have := he1.size; omega)
  refine modGet_ok (hm.ext0 ex3) hok (by omega) fun w4 he4 => New.mk fun b w5 e5 s5 o5 he5 => Sts.full (vs := entVs (getV S.E sd).1) o5 rfl rfl fun w6 hs6 o6 he6 => Bm.pos (by simp) ?_
  have ex6 : Ext [] w3 w6 := (he4.trans he5).trans' he6 (fun q hq hlt => by simp at hq; have := he4.size; omega)
  have o3' := ex6.own o3 (by simp)
  refine ldEntB o3' (ldEntB o6 (sameEntry_ok fun w7 he7 => hR w7 ((ex3.trans ex6).trans he7)))
theorem sameNext_ok {R : Bool → World → Prop} (h : DX w0 w d x m S N) (hR : ∀ w', Ext [] w w' → R true w') : socklaw_SameNext.Call (some ⟨x, 0, none⟩) (some ⟨m, 0, none⟩) w R := by
  apply socklaw_SameNext.sound
  unfold socklaw_SameNext.B0
  obtain ⟨rb, rl, rc, hm, hr, hok⟩ := h.parts
  refine realNext_ok hr (modNext_ok hm.drew (Bm.pos (by simp) ?_))
  rw [beq_self_eq_true]
  exact hR _ ((Ext.drew _ _).trans (Ext.drew _ _))
/-- Both lists, compared and kept. -/
theorem DX.ints {r : Nat} {L : List Int} {bb : Option Addr} {bc : Nat} {w1 w2 : World} {R : Bool → World → Prop} (h : DX w0 w d x m S N) (hN : N ≤ 999999999) (hL : L.length ≤ 100) (hr : w.heap.size ≤ r) (ha : IAt w1 r L) (he1 : Ext [] w w1) (hb : IRow w2 bb L.length bc L) (hbg : ∀ k ∈ rowBlk bb, w1.heap.size ≤ k) (he2 : Ext [] w1 w2)
    (hR : ∀ w', DX w0 w' d x m S (N + 1) → ISafe w w' → R true w') : socklaw_SameInts.Call (some ⟨d, 0, none⟩) (some ⟨r, 0, none⟩) L.length L.length bb L.length bc w2 R := by
  obtain ⟨rb, rl, rc, kb, kn, kc, vs, h1, h2, h3, h4⟩ := h
  have h12 := h1.ext0 (he1.trans he2)
  have hrl := ha.lt
  refine sameInts_ok h12 (ha.ext he2 (by simp)) hL hb (fun hx => by have := hbg r hx; omega) (h1.kept.fresh hr) (by omega) fun kb' kn' kc' vs' w3 h3' hk3 he3 hb3 => ?_
  have s12 := (he1.trans he2).size
  refine hR w3 ⟨rb, rl, rc, kb', kn', kc', vs', h3', by omega, fun k hk => ?_, ?_⟩ fun k cs ho => ?_
  · simp only [List.mem_cons, List.mem_append] at hk h3
    have s4 := h4.size
    rcases hk with q | q | q | q | q
    · exact h3 k (.inl q)
    · exact h3 k (.inr (.inl q))
    · exact h3 k (.inr (.inr (.inl q)))
    · exact h3 k (.inr (.inr (.inr (.inl q))))
    · rcases hb3 k q with q | q
      · exact h3 k (.inr (.inr (.inr (.inr q))))
      · omega
  · refine (h4.trans (he1.trans he2)).trans' he3 (fun k hk hlt => ?_)
    have s4 := h4.size
    rcases List.mem_cons.1 hk with q | q
    · omega
    · have := h3 k (by
        rcases List.mem_cons.1 q with q | q
        · subst q; exact List.mem_cons_self ..
        · simp only [List.mem_cons, List.mem_append]; exact .inr (.inr (.inr (.inr q))))
      omega
  · refine he3.own ((he1.trans he2).own ho (by simp)) fun hx => ?_
    have := ho.lt
    rcases List.mem_cons.1 hx with q | q
    · omega
    · rcases List.mem_cons.1 q with q | q
      · subst q; exact Own.ne_type ho h1.own (by decide) rfl
      · obtain ⟨_, ho'⟩ := h1.krow.ty q
        exact Own.ne_type ho ho' (by decide) rfl
theorem sameList_ok {R : Bool → World → Prop} (h : DX w0 w d x m S N) (hN : N ≤ 999999999) (hR : ∀ w', DX w0 w' d x m S (N + 1) → ISafe w w' → R true w') : socklaw_SameList.Call (some ⟨d, 0, none⟩) w R := by
  apply socklaw_SameList.sound
  unfold socklaw_SameList.B0
  have hx := h
  obtain ⟨rb, rl, rc, kb, kn, kc, vs, h1, h2, h3, h4⟩ := hx
  have hl6 := h1.ok.len6
  refine Pn.mk (h1.ldX (realList_ok h1.re h1.ok fun r w1 hr ha he1 => Pn.mk ((h1.ext0 he1).ldM (modList_ok (h1.ext0 he1).md (by omega) fun bb bc w2 hb hbg he2 => ?_))))
  have el : (S.E.map fun a : AE => a.1.sd).length = S.E.length := by simp
  have := h.ints (R := R) (L := S.E.map fun a : AE => a.1.sd) hN (by rw [el]; omega) hr ha he1 (by rw [el]; exact hb) hbg he2 hR
  rw [el] at this
  exact this
theorem sameQueue_ok {lsd : Int} {R : Bool → World → Prop} (h : DX w0 w d x m S N) (hN : N ≤ 999999999) (hR : ∀ w', DX w0 w' d x m S (N + 1) → ISafe w w' → R true w') : socklaw_SameQueue.Call (some ⟨d, 0, none⟩) lsd w R := by
  apply socklaw_SameQueue.sound
  unfold socklaw_SameQueue.B0
  have hx := h
  obtain ⟨rb, rl, rc, kb, kn, kc, vs, h1, h2, h3, h4⟩ := hx
  have hl6 := h1.ok.len6
  have ql : (qE S.E lsd).length ≤ 6 := by
    have h5 := (qE_spec h1.ok.ei lsd).2.length_eq
    have h6 := List.length_filter_le (rdyOf lsd) S.E
    omega
  refine Pn.mk (h1.ldX (realQueue_ok h1.re h1.ok fun r w1 hr ha he1 => Pn.mk ((h1.ext0 he1).ldM (modQueue_ok (h1.ext0 he1).md h1.ok fun bb bc w2 hb hbg he2 => ?_))))
  have el : ((qE S.E lsd).map fun a : AE => a.1.sd).length = (qE S.E lsd).length := by simp
  have := h.ints (R := R) (L := (qE S.E lsd).map fun a : AE => a.1.sd) hN (by rw [el]; omega) hr ha he1 (by rw [el]; exact hb) hbg he2 hR
  rw [el] at this
  exact this
theorem sameRow_ok {a : AE} {R : Bool → World → Prop} (h : DX w0 w d x m S N) (hN : N ≤ 999999999) (ha : a ∈ S.E) (hR : ∀ w', DX w0 w' d x m S (N + 1) → ISafe w w' → R true w') : socklaw_SameRow.Call (some ⟨d, 0, none⟩) a.1.sd w R := by
  apply socklaw_SameRow.sound
  unfold socklaw_SameRow.B0
  have hd := h.ext0 (Ext.drew [] w)
  have hx := hd
  obtain ⟨rb, rl, rc, kb, kn, kc, vs, h1, h2, h3, h4⟩ := hx
  refine Pn.mk (h1.ldX (Pn.mk (h1.ldM (sameGet_ok hd fun w1 he1 => Bm.neg rfl (sameQueue_ok (hd.ext0 he1) hN fun w2 h2' hi2 => Bm.neg rfl (Pn.mk ?_))))))
  have hi : ISafe w w2 := ((ISafe.ext0 (Ext.drew [] w)).trans (ISafe.ext0 he1)).trans hi2
  have hx2 := h2'
  obtain ⟨rb, rl, rc, kb, kn, kc, vs, g1, g2, g3, g4⟩ := hx2
  have hl6 := g1.ok.len6
  have eg : getV S.E a.1.sd = (a.1, 0) := by unfold getV; rw [getE_some g1.ok.ei ha]
  refine g1.ldM (modGet_ok g1.md g1.ok (by omega) fun w3 he3 => ?_)
  rw [eg]
  refine New.mk fun e w4 e4 s4 o4 he4 => Sts.full (vs := entVs a.1) o4 rfl rfl fun w5 hs5 o5 he5 => LdI.mk o5 rfl ?_
  have ex5 : Ext [] w2 w5 := (he3.trans he4).trans' he5 (fun q hq hlt => by simp at hq; have := he3.size; omega)
  have hi5 := hi.trans (ISafe.ext0 ex5)
  refine Bm.mk (fun _ => hR w5 (h2'.ext0 ex5) hi5) fun k => ?_
  have k2 : a.1.kind = 2 := by simpa using k
  have g5 := g1.ext0 (ex5.trans (Ext.drew _ _))
  have o5' : Own w5.drew e (entVs a.1).toArray 40 := o5
  obtain ⟨T, F, C, occ, ht, hrel⟩ := g5.re
  refine Pn.mk (g5.ldX (LdI.mk o5' rfl (LdI.mk o5' rfl (LdI.mk o5' rfl (lookup_ok ht hrel g5.ok fun w6 he6 => ?_)))))
  rw [lookE_some g1.ok.ei ha (lookP_iff.2 ⟨k2, rfl, rfl, rfl⟩), beq_self_eq_true]
  have ex6 := (ex5.trans (Ext.drew [] _)).trans he6
  exact hR w6 (h2'.ext0 ex6) (hi.trans (ISafe.ext0 ex6))
theorem alike_ok {R : Bool → World → Prop} (h : DX w0 w d x m S N) (hN : N ≤ 900000000) (hR : ∀ w', DX w0 w' d x m S (N + 7) → R true w') : socklaw_Alike.Call (some ⟨d, 0, none⟩) w R := by
  apply socklaw_Alike.sound
  unfold socklaw_Alike.B0
  have hd := h.ext0 (Ext.drew [] w)
  have hx := hd
  obtain ⟨rb, rl, rc, kb, kn, kc, vs, h1, h2, h3, h4⟩ := hx
  refine Pn.mk (h1.ldX (Pn.mk (h1.ldM (sameNext_ok hd fun w1 he1 => Bm.neg rfl (sameList_ok (hd.ext0 he1) (by omega) fun w2 h2' hi2 => Bm.neg rfl ?_)))))
  have hx2 := h2'
  obtain ⟨rb, rl, rc, kb, kn, kc, vs, g1, g2, g3, g4⟩ := hx2
  have hl6 := g1.ok.len6
  refine modList_ok g1.md (by omega) fun bb bc w3 hb hbg he3 => ?_
  unfold socklaw_Alike.L1
  refine ⟨fun mm d' x' m' lb ll lc top i w' => ∃ n : Nat, n ≤ S.E.length ∧ mm = S.E.length - n ∧ some ⟨d, 0, none⟩ = d' ∧ some ⟨x, 0, none⟩ = x' ∧ some ⟨m, 0, none⟩ = m' ∧ bb = lb ∧ S.E.length = ll ∧ bc = lc ∧ i = (n : Int) ∧ DX w0 w' d x m S (N + 1 + n) ∧ IRow w' bb S.E.length bc (S.E.map fun a => a.1.sd), _,
    ⟨0, by omega, rfl, rfl, rfl, rfl, rfl, rfl, rfl, rfl, h2'.ext0 he3, hb⟩, ?_⟩
  rintro mm d' x' m' lb ll lc top i w' ⟨n, hn, rfl, rfl, rfl, rfl, rfl, rfl, rfl, rfl, hd', hb'⟩
  unfold socklaw_Alike.L1b
  refine Bm.ite (fun hlt => ?_) fun hge => ?_
  · obtain ⟨a, ha⟩ := get_lt (L := S.E) (n := n) (by omega)
    have ld : ∀ {w2 : World} {K : Int → Prop}, IRow w2 bb S.E.length bc (S.E.map fun a => a.1.sd) → K a.1.sd → Pn bb fun q => (0 ≤ (n : Int) ∧ (n : Int) < ((S.E.length : Nat) : Int)) ∧ LdI .i64 (Addr.add q ((n : Int).toNat * 1)) w2 K := fun {w2 K} hrow hK => by
      obtain ⟨k, ek, cs, ho, hcs⟩ := hrow.at (i := n) (by omega) (by omega)
      rw [ek]
      refine Pn.mk ⟨⟨by omega, by omega⟩, ?_⟩
      rw [addr_k]
      refine LdI.mk ho ?_ hK
      have := hcs 0 (by omega)
      simp only [Nat.mul_one, Nat.add_zero] at this
      rw [this, List.getElem?_map, List.getElem?_map, ha]
      rfl
    refine ld hb' (sameRow_ok hd' (by omega) (List.mem_of_getElem? ha) fun w4 h4' hi4 => Bm.neg rfl ?_)
    have hb4 : IRow w4 bb S.E.length bc (S.E.map fun a => a.1.sd) := by
      refine ⟨hb'.1, hb'.2.1, ?_⟩
      rcases hb'.2.2 with q | ⟨k, cs, e, ho, hr⟩
      · exact .inl q
      · exact .inr ⟨k, cs, e, hi4 k cs ho, hr⟩
    exact ld hb4 ⟨S.E.length - (n + 1), by omega, n + 1, by omega, rfl, rfl, rfl, rfl, rfl, rfl, rfl, by rw [w64 (by omega) (by omega)]; omega, h4', hb4⟩
  · unfold socklaw_Alike.L2
    refine ⟨fun mm x' m' t p w2 => ∃ q : Nat, q ≤ 17 ∧ mm = 17 - q ∧ some ⟨x, 0, none⟩ = x' ∧ some ⟨m, 0, none⟩ = m' ∧ p = (q : Int) ∧ w' = w2, _, ⟨0, by omega, rfl, rfl, rfl, rfl, rfl⟩, ?_⟩
    rintro mm x' m' t p w2 ⟨q, hq, rfl, rfl, rfl, rfl, rfl⟩
    unfold socklaw_Alike.L2b
    refine Bm.ite (fun hlt => sameListener_ok hd' (Bm.neg rfl ⟨17 - (q + 1), by omega, q + 1, by omega, rfl, rfl, rfl, by rw [w64 (by omega) (by omega)]; omega, rfl⟩)) fun hge2 => ?_
    refine sameGet_ok hd' fun w3 he3 => Bm.neg rfl (sameGet_ok (hd'.ext0 he3) fun w4 he4 => Bm.neg rfl ?_)
    have hd4 := (hd'.ext0 he3).ext0 he4
    obtain ⟨rb, rl, rc, hm, hr, hok⟩ := hd4.parts
    exact realCheck_ok hr hok fun w5 he5 => hR w5 ((hd4.ext0 he5).mono (by omega))
theorem nsd_listen (p : Int) : (listenA p S).2.nsd ≤ S.nsd + 1 ∧ (listenA p S).2.tick = S.tick := by
  unfold listenA addS
  split
  · exact ⟨Int.le_add_one (Int.le_refl _), rfl⟩
  · split
    · exact ⟨Int.le_add_one (Int.le_refl _), rfl⟩
    · split
      · exact ⟨Int.le_add_one (Int.le_refl _), rfl⟩
      · exact ⟨Int.le_refl _, rfl⟩
theorem nsd_connect (rh rp : Int) : (connectA rh rp S).2.nsd ≤ S.nsd + 1 ∧ (connectA rh rp S).2.tick = S.tick := by
  unfold connectA addS
  split
  · exact ⟨Int.le_add_one (Int.le_refl _), rfl⟩
  · split
    · exact ⟨Int.le_add_one (Int.le_refl _), rfl⟩
    · split
      · exact ⟨Int.le_add_one (Int.le_refl _), rfl⟩
      · exact ⟨Int.le_refl _, rfl⟩
theorem nsd_child (lp rh rp : Int) : (childA lp rh rp S).2.nsd ≤ S.nsd + 1 ∧ (childA lp rh rp S).2.tick = S.tick := by
  unfold childA addS
  split
  · exact ⟨Int.le_add_one (Int.le_refl _), rfl⟩
  · split
    · exact ⟨Int.le_add_one (Int.le_refl _), rfl⟩
    · split
      · exact ⟨Int.le_add_one (Int.le_refl _), rfl⟩
      · split
        · exact ⟨Int.le_add_one (Int.le_refl _), rfl⟩
        · split
          · exact ⟨Int.le_add_one (Int.le_refl _), rfl⟩
          · exact ⟨Int.le_refl _, rfl⟩
theorem nsd_ready (sd : Int) : (readyA sd S).2.nsd = S.nsd ∧ (readyA sd S).2.tick ≤ S.tick + 1 := by
  unfold readyA
  split
  · exact ⟨rfl, Nat.le_succ _⟩
  · split
    · exact ⟨rfl, Nat.le_succ _⟩
    · split
      · exact ⟨rfl, Nat.le_succ _⟩
      · exact ⟨rfl, Nat.le_refl _⟩
theorem nsd_accept (sd : Int) : (acceptA sd S).2.nsd = S.nsd ∧ (acceptA sd S).2.tick = S.tick := by
  unfold acceptA
  split
  · exact ⟨rfl, rfl⟩
  · split
    · exact ⟨rfl, rfl⟩
    · split <;> exact ⟨rfl, rfl⟩
theorem nsd_free (sd : Int) : (freeA sd S).2.nsd = S.nsd ∧ (freeA sd S).2.tick = S.tick := by
  unfold freeA
  split <;> exact ⟨rfl, rfl⟩
theorem play_ok {o : OpV} {R : Bool → World → Prop} (h : DX w0 w d x m S N) (hN : N ≤ 900000000) (hb : S.nsd ≤ 1000000000) (ht : S.tick ≤ 1000000000)
    (hR : ∀ S' w', DX w0 w' d x m S' (N + 1) → S'.nsd ≤ S.nsd + 1 → S'.tick ≤ S.tick + 1 → R true w') : socklaw_Play.Call (some ⟨d, 0, none⟩) o.k o.a o.b o.c o.s o.t w R := by
  apply socklaw_Play.sound
  unfold socklaw_Play.B0
  refine New.mk fun ob w1 e1 s1 o1 he1 => ?_
  have ex := he1.trans (Ext.drew [] w1)
  have hd := h.ext0 ex
  have hx := hd
  obtain ⟨rb, rl, rc, kb, kn, kc, vs, h1, h2, h3, h4⟩ := hx
  have oo : Own w1.drew ob #[.int .i64 o.k, .int .i64 o.a, .int .i64 o.b, .int .i64 o.c, .string o.s, .string o.t] T_api_Op := o1
  have same : ∀ w', Ext [] w1.drew w' → R true w' := fun w' he => hR S w' ((hd.ext0 he).mono (by omega)) (by omega) (by omega)
  refine Pn.mk (h1.ldX (Pn.mk (h1.ldM (LdI.mk oo rfl ?_))))
  refine Bm.mk (fun _ => LdI.mk oo rfl (sameListen_ok hd (by omega) fun w2 q => hR _ w2 (q.mono (by omega)) (nsd_listen _).1 (by rw [(nsd_listen _).2]; omega))) fun _ => ?_
  refine Bm.mk (fun _ => LdI.mk oo rfl (LdI.mk oo rfl (sameConnect_ok hd (by omega) fun w2 q => hR _ w2 (q.mono (by omega)) (nsd_connect _ _).1 (by rw [(nsd_connect _ _).2]; omega)))) fun _ => ?_
  refine Bm.mk (fun _ => LdI.mk oo rfl (LdI.mk oo rfl (LdI.mk oo rfl (sameChild_ok hd (by omega) fun w2 q => hR _ w2 (q.mono (by omega)) (nsd_child _ _ _).1 (by rw [(nsd_child _ _ _).2]; omega))))) fun _ => ?_
  refine Bm.mk (fun _ => LdI.mk oo rfl (sameReady_ok hd (by omega) fun w2 q => hR _ w2 (q.mono (by omega)) (by rw [(nsd_ready _).1]; omega) (nsd_ready _).2)) fun _ => ?_
  refine Bm.mk (fun _ => LdI.mk oo rfl (sameAccept_ok hd fun w2 q => hR _ w2 (q.mono (by omega)) (by rw [(nsd_accept _).1]; omega) (by rw [(nsd_accept _).2]; omega))) fun _ => ?_
  refine Bm.mk (fun _ => LdI.mk oo rfl (sameFree_ok hd fun w2 q => hR _ w2 (q.mono (by omega)) (by rw [(nsd_free _).1]; omega) (by rw [(nsd_free _).2]; omega))) fun _ => ?_
  refine Bm.mk (fun _ => LdI.mk oo rfl (LdI.mk oo rfl (LdI.mk oo rfl (sameLookup_ok hd same)))) fun _ => ?_
  refine Bm.mk (fun _ => LdI.mk oo rfl (sameListener_ok hd (same _ (Ext.refl _ _)))) fun _ => ?_
  refine Bm.mk (fun _ => LdI.mk oo rfl (sameGet_ok hd same)) fun _ => ?_
  refine Bm.mk (fun _ => LdI.mk oo rfl (sameQueue_ok hd (by omega) fun w2 q _ => hR S w2 q (by omega) (by omega))) fun _ => ?_
  refine Bm.mk (fun _ => sameList_ok hd (by omega) fun w2 q _ => hR S w2 q (by omega) (by omega)) fun _ => ?_
  refine Bm.mk (fun _ => realCheck_ok h1.re h1.ok same) fun _ => ?_
  exact Bm.mk (fun _ => sameNext_ok hd same) fun _ => same _ (Ext.refl _ _)
end
theorem walk_ok {w : World} {sb : Option Addr} {n c : Nat} {ops : Nat → OpV} {quiet : Bool} {R : Int → Int → World → Prop} (hs : ScriptIs w sb n ops) (hR : ∀ k w', Ext [] w w' → R (-1) k w') : socklaw_walk.Call sb n c quiet w R := by
  apply socklaw_walk.sound
  unfold socklaw_walk.B0
  have hnn := hs.1
  refine realNew_ok fun x w1 hx hxl h1 he1 => modNew_ok fun m w2 hm h2 he2 => New.mk fun d w3 e3 s3 o3 he3 => ?_
  have ex := (he1.trans he2).trans he3
  have z1 := he1.size
  have z2 := he2.size
  have hD : DX w w3 d x m S0 0 := ⟨none, 0, 0, none, 0, 0, [], ⟨o3, (h1.ext0 he2).ext0 he3, h2.ext0 he3, S0_ok, Vc.Row.nil _ _ _, fun j v hv => (by simp at hv)⟩, Nat.le_refl _, fun k hk => by simp [rowBlk] at hk; omega, ex⟩
  have main : ∀ w4, DX w w4 d x m S0 7 → socklaw_walk.B1 sb n c quiet d w4 R := by
    intro w4 hd4
    unfold socklaw_walk.B1 socklaw_walk.L1
    refine ⟨fun mm sb' n' c' qu' d' i w' => ∃ (j : Nat) (S : SkS), sb = sb' ∧ n = n' ∧ c = c' ∧ quiet = qu' ∧ d = d' ∧ i = (j : Int) ∧ j ≤ n ∧ j ≤ 1048576 ∧ mm = n - j ∧ DX w w' d x m S (8 * j + 7) ∧ S.nsd ≤ (j : Int) + 1 ∧ S.tick ≤ j, _,
      ⟨0, S0, rfl, rfl, rfl, rfl, rfl, rfl, by omega, by omega, rfl, hd4, by decide, by decide⟩, ?_⟩
    rintro mm sb' n' c' qu' d' i w' ⟨j, S, rfl, rfl, rfl, rfl, rfl, hij, j1, j2, rfl, hd, hn1, ht1⟩
    unfold socklaw_walk.L1b
    have stop : ∀ tt : Bool, tt = false → ∀ N1, socklaw_walk.B2 sb n c quiet d i tt w' N1 R := by
      intro tt htt N1
      have hx := hd
      obtain ⟨rb, rl, rc, kb, kn, kc, vs, g1, g2, g3, g4⟩ := hx
      unfold socklaw_walk.B2
      have b4 : ∀ q : Int, socklaw_walk.B4 d q w' R := fun q => by
        unfold socklaw_walk.B4
        exact untouched_ok g1 (by omega) (Bm.neg rfl (hR _ w' g4))
      generalize (decide (((n : Nat) : Int) > 1048576)) = bb
      generalize (1048576 : Int) = big
      exact Bm.neg htt (Bm.mk (fun _ => b4 _) fun _ => b4 _)
    by_cases hi : i < (n : Int)
    rotate_left
    · generalize hf : false = ff
      exact Bm.neg (decide_eq_false hi) (stop ff hf.symm _)
    refine Bm.pos (decide_eq_true hi) ?_
    by_cases hi2 : i < 1048576
    rotate_left
    · exact stop _ (decide_eq_false hi2) _
    rw [decide_eq_true hi2]
    unfold socklaw_walk.B2
    subst hij
    obtain ⟨y, hy, hop⟩ := hs.2 j (by omega)
    subst hy
    have he : Ext [] w w' := by obtain ⟨_, _, _, _, _, _, _, _, _, _, g4⟩ := hd; exact g4
    have ldI : ∀ {w' : World} {a : Addr} {v : Int} {K : Int → Prop}, Ext [] w w' → a.block < w.heap.size → w.cell? a = some (.int .i64 v) → K v → LdI .i64 a w' K := fun he hb hc hk => LdI.cell (by rw [he.cell hb (by simp)]; exact hc) hk
    have ldS : ∀ {w' : World} {a : Addr} {v : ByteArray} {K : ByteArray → Prop}, Ext [] w w' → a.block < w.heap.size → w.cell? a = some (.string v) → K v → LdS a w' K := fun he hb hc hk => LdS.cell (by rw [he.cell hb (by simp)]; exact hc) hk
    have hblk := hop.blk
    have hbk : ∀ k, ((y.add (j * 6)).add k).block < w.heap.size := fun k => by
      have : ((y.add (j * 6)).add k).block = (y.add (j * 6)).block := by
        unfold Addr.add
        split <;> (split <;> rfl)
      omega
    refine Bm.pos rfl (Pn.mk ⟨⟨by omega, by omega⟩, ?_⟩)
    rw [Int.toNat_natCast]
    refine ldI he hblk hop.k (ldI he (hbk 1) hop.a (ldI he (hbk 2) hop.b (ldI he (hbk 3) hop.c (ldS he (hbk 4) hop.s (ldS he (hbk 5) hop.t (play_ok hd (by omega) (by omega) (by omega) fun S' w5 h5 hn5 ht5 => Bm.neg rfl ?_))))))
    have go : ∀ w6, DX w w6 d x m S' (8 * (j + 1) + 7) → socklaw_walk.B3 (some y) n c quiet d (j : Int) w6 (fun sb' n' c' qu' d' i w' => ∃ m', m' < n - j ∧ ∃ (j : Nat) (S : SkS), some y = sb' ∧ n = n' ∧ c = c' ∧ quiet = qu' ∧ d = d' ∧ i = (j : Int) ∧ j ≤ n ∧ j ≤ 1048576 ∧ m' = n - j ∧ DX w w' d x m S (8 * j + 7) ∧ S.nsd ≤ (j : Int) + 1 ∧ S.tick ≤ j) R := fun w6 h6 => by
      unfold socklaw_walk.B3
      exact ⟨n - (j + 1), by omega, j + 1, S', rfl, rfl, rfl, rfl, rfl, by rw [w64 (by omega) (by omega)]; omega, by omega, by omega, rfl, h6, by omega, by omega⟩
    exact Bm.mk (fun _ => alike_ok h5 (by omega) fun w6 h6 => Bm.neg rfl (go w6 (h6.mono (by omega)))) fun _ => go w5 (h5.mono (by omega))
  exact Bm.mk (fun _ => alike_ok hD (by omega) fun w4 h4 => Bm.neg rfl (main w4 h4)) fun _ => main w3 (hD.mono (by omega))
theorem refines_law {w : World} {sb : Option Addr} {n c : Nat} {ops : Nat → OpV} (hs : ScriptIs w sb n ops) {R : Bool → World → Prop} (hR : ∀ w', Ext [] w w' → R true w') : socklaw_Refines.Call sb n c w R := by
  apply socklaw_Refines.sound
  unfold socklaw_Refines.B0
  apply socklaw_RefinesUpTo.sound
  unfold socklaw_RefinesUpTo.B0
  exact walk_ok hs fun m w' he => hR w' he
theorem refinesQuiet_law {w : World} {sb : Option Addr} {n c : Nat} {ops : Nat → OpV} (hs : ScriptIs w sb n ops) {R : Bool → World → Prop} (hR : ∀ w', Ext [] w w' → R true w') : socklaw_RefinesQuiet.Call sb n c w R := by
  apply socklaw_RefinesQuiet.sound
  unfold socklaw_RefinesQuiet.B0
  exact walk_ok hs fun m w' he => hR w' he
end Go.Proofs.Qxb6500427a
