/-
  kv: Check of the real layer.
-/
import Derived.Test.Qxb6500429aKvJ
set_option linter.unusedVariables false
open Go.Vc
namespace Go.Proofs.Qxb6500429a

structure CelOk (c : Cel) : Prop where
  k0 : 0 ≤ ci c 1 ∧ ci c 1 ≤ 2
  v0 : 0 ≤ ci c 4 ∧ ci c 4 ≤ 3
  k : ∀ i : Nat, ci c 1 ≤ i → i < 2 → ci c (2 + i) = 0
  v : ∀ i : Nat, ci c 4 ≤ i → i < 3 → ci c (5 + i) = 0
theorem celOk {c : Cel} (h : ∀ p, c = some (some p) → PairOk p) : CelOk c := by
  rcases c with _ | _ | p
  · exact ⟨⟨by decide, by decide⟩, ⟨by decide, by decide⟩, fun i _ _ => rfl, fun i _ _ => rfl⟩
  · refine ⟨⟨by decide, by decide⟩, ⟨by decide, by decide⟩, fun i _ _ => ?_, fun i _ _ => ?_⟩
    · show (if 2 + i = 0 then (2 : Int) else 0) = 0
      rw [if_neg (by omega)]
    · show (if 5 + i = 0 then (2 : Int) else 0) = 0
      rw [if_neg (by omega)]
  · have hp := h p rfl
    refine ⟨?_, ?_, fun i h1 h2 => ?_, fun i h1 h2 => ?_⟩
    · show 0 ≤ (p.1.size : Int) ∧ (p.1.size : Int) ≤ 2
      have := hp.2
      omega
    · show 0 ≤ (p.2.size : Int) ∧ (p.2.size : Int) ≤ 3
      have := hp.2
      omega
    · have h1' : (p.1.size : Int) ≤ i := h1
      have := byteAt_over (s := p.1) (i := i) (by omega)
      match i, h2 with
      | 0, _ => exact this
      | 1, _ => exact this
    · have h1' : (p.2.size : Int) ≤ i := h1
      have := byteAt_over (s := p.2) (i := i) (by omega)
      match i, h2 with
      | 0, _ => exact this
      | 1, _ => exact this
      | 2, _ => exact this
section
variable {w : World} {b : Nat}
theorem cellFine_ok {c : Cel} (h : ∀ p, c = some (some p) → PairOk p) {R : ByteArray → World → Prop} (hR : ∀ w', Ext [] w w' → R estr w') : kv_cellFine.Call (ci c 0) (ci c 1) (ci c 2) (ci c 3) (ci c 4) (ci c 5) (ci c 6) (ci c 7) w R := by
  apply kv_cellFine.sound
  unfold kv_cellFine.B0
  refine New.mk fun a w1 ha hs1 ho1 he1 => ?_
  have ho : Own w1 a (cellVs c).toArray T_kv_cell := ho1
  have hc := celOk h
  have c2 : ∀ i : Nat, i < 2 → (cellVs c).toArray[2 + i]? = some (.int .u8 (ci c (2 + i))) := fun i hi => by
    match i, hi with
    | 0, _ | 1, _ => rfl
  have c5 : ∀ i : Nat, i < 3 → (cellVs c).toArray[5 + i]? = some (.int .u8 (ci c (5 + i))) := fun i hi => by
    match i, hi with
    | 0, _ | 1, _ | 2, _ => rfl
  have b4 : kv_cellFine.B4 a false w1 R := by
    unfold kv_cellFine.B4
    refine Bm.neg rfl (LdI.mk ho rfl ⟨fun m a' i w' => ∃ n : Nat, ci c 1 ≤ n ∧ n ≤ 2 ∧ m = 2 - n ∧ a = a' ∧ i = (n : Int) ∧ w1 = w', _, ⟨(ci c 1).toNat, by have := hc.k0; omega, by have := hc.k0; omega, rfl, rfl, by have := hc.k0; omega, rfl⟩, ?_⟩)
    rintro m a' i w' ⟨n, hn1, hn2, rfl, rfl, rfl, rfl⟩
    unfold kv_cellFine.L1b
    refine Bm.ite (fun hlt => ⟨⟨by omega, by omega⟩, ?_⟩) fun hge => LdI.mk ho rfl ?_
    · rw [add_mk, Int.toNat_natCast, Nat.mul_one]
      refine LdI.mk ho (c2 n (by omega)) ?_
      rw [hc.k n hn1 (by omega)]
      exact Bm.neg rfl ⟨_, by omega, n + 1, by omega, by omega, rfl, rfl, by rw [w64 (by omega) (by omega)]; omega, rfl⟩
    · refine ⟨fun m a' i w' => ∃ n : Nat, ci c 4 ≤ n ∧ n ≤ 3 ∧ m = 3 - n ∧ a = a' ∧ i = (n : Int) ∧ w1 = w', _, ⟨(ci c 4).toNat, by have := hc.v0; omega, by have := hc.v0; omega, rfl, rfl, by have := hc.v0; omega, rfl⟩, ?_⟩
      rintro m a' i w' ⟨n, hn1, hn2, rfl, rfl, rfl, rfl⟩
      unfold kv_cellFine.L2b
      refine Bm.ite (fun hlt => ⟨⟨by omega, by omega⟩, ?_⟩) fun hge => hR w1 he1
      rw [add_mk, Int.toNat_natCast, Nat.mul_one]
      refine LdI.mk ho (c5 n (by omega)) ?_
      rw [hc.v n hn1 (by omega)]
      exact Bm.neg rfl ⟨_, by omega, n + 1, by omega, by omega, rfl, rfl, by rw [w64 (by omega) (by omega)]; omega, rfl⟩
  have b3 : kv_cellFine.B3 a false w1 R := by
    unfold kv_cellFine.B3
    have h1 := hc.k0
    have h2 := hc.v0
    refine Bm.neg rfl (LdI.mk ho rfl (Bm.ite (fun hx => absurd hx (by omega)) fun _ => LdI.mk ho rfl (Bm.ite (fun hx => absurd hx (by omega)) fun _ => LdI.mk ho rfl (Bm.ite (fun hx => absurd hx (by omega)) fun _ => LdI.mk ho rfl ?_))))
    rw [decide_eq_false (by omega)]
    exact b4
  have b2 : kv_cellFine.B2 a false w1 R := by
    unfold kv_cellFine.B2
    refine Bm.neg rfl (LdI.mk ho rfl ?_)
    rcases c with _ | _ | p
    · exact Bm.pos rfl (LdI.mk ho rfl (Bm.neg rfl (LdI.mk ho rfl b3)))
    · exact Bm.pos rfl (LdI.mk ho rfl (Bm.neg rfl (LdI.mk ho rfl b3)))
    · exact Bm.neg rfl b3
  have b1 : kv_cellFine.B1 a false w1 R := by
    unfold kv_cellFine.B1
    refine Bm.neg rfl (LdI.mk ho rfl ?_)
    rcases c with _ | _ | p
    · exact Bm.neg rfl b2
    · exact Bm.neg rfl b2
    · refine Bm.pos rfl (LdI.mk ho rfl ?_)
      have hp := (h p rfl).1
      rw [decide_eq_false (show ¬ ci (some (some p)) 1 < 1 from (by show ¬ ((p.1.size : Int)) < 1; omega))]
      exact b2
  refine LdI.mk ho rfl ?_
  rcases c with _ | _ | p
  · exact Bm.neg rfl b1
  · exact Bm.pos rfl (LdI.mk ho rfl (Bm.pos rfl (LdI.mk ho rfl b1)))
  · exact Bm.pos rfl (LdI.mk ho rfl (Bm.neg rfl b1))
theorem sessionFine_ok {s : Sess} (h : SessOk s) {R : ByteArray → World → Prop} (hR : ∀ w', Ext [] w w' → R estr w') : kv_sessionFine.Call (si s 0) (si s 1) (si s 2) (si s 3) (si s 4) (si s 5) w R := by
  apply kv_sessionFine.sound
  unfold kv_sessionFine.B0
  refine New.mk fun a w1 ha hs1 ho1 he1 => ?_
  have ho : Own w1 a (sessVs s).toArray T_kv_session := ho1
  obtain ⟨h1, h2, h3, h4, h5⟩ := h
  have e0 : si s 0 = s.1 := rfl
  have e1 : si s 1 = s.2.1 := rfl
  have e2 : si s 2 = (s.2.2.size : Int) := rfl
  refine LdI.mk ho rfl (Bm.ite (fun hx => absurd hx (by omega)) fun _ => LdI.mk ho rfl ?_)
  rw [decide_eq_false (by omega)]
  unfold kv_sessionFine.B1
  refine Bm.neg rfl (LdI.mk ho rfl (Bm.ite (fun hx => absurd hx (by omega)) fun _ => LdI.mk ho rfl ?_))
  rw [decide_eq_false (by omega)]
  unfold kv_sessionFine.B2
  refine Bm.neg rfl (LdI.mk ho rfl (Bm.ite (fun hx => absurd hx (by omega)) fun _ => LdI.mk ho rfl ?_))
  rw [decide_eq_false (by omega)]
  unfold kv_sessionFine.B3
  refine Bm.neg rfl (LdI.mk ho rfl ⟨fun m a' i w' => ∃ n : Nat, s.2.2.size ≤ n ∧ n ≤ 3 ∧ m = 3 - n ∧ a = a' ∧ i = (n : Int) ∧ w1 = w', _, ⟨s.2.2.size, by omega, by omega, rfl, rfl, rfl, rfl⟩, ?_⟩)
  rintro m a' i w' ⟨n, hn1, hn2, rfl, rfl, rfl, rfl⟩
  unfold kv_sessionFine.L1b
  refine Bm.ite (fun hlt => ⟨⟨by omega, by omega⟩, ?_⟩) fun hge => hR w1 he1
  rw [add_mk, Int.toNat_natCast, Nat.mul_one]
  have hz := byteAt_over (s := s.2.2) (i := n) hn1
  have hcell : (sessVs s).toArray[3 + n]? = some (.int .u8 (byteAt s.2.2 (n : Int))) := by
    have hn' : n < 3 := by omega
    match n, hn' with
    | 0, _ | 1, _ | 2, _ => rfl
  refine LdI.mk ho hcell ?_
  rw [hz]
  exact Bm.neg rfl ⟨_, by omega, n + 1, by omega, by omega, rfl, rfl, by rw [w64 (by omega) (by omega)]; omega, rfl⟩
theorem str_ne_estr : (!(estr.toList == (ByteArray.mk #[]).toList)) = false := by
  rw [str_beq, decide_eq_true (show estr = ByteArray.mk #[] from rfl)]
  rfl
theorem realCheck_ok {A : List Pair} {S : Ss} {R : ByteArray → World → Prop} (h : RealAt w b A S) (hk : KvOk A S) (hR : ∀ w', Ext [] w w' → R estr w') : kv_KV_Check.Call (some ⟨b, 0, none⟩) w R := by
  apply kv_KV_Check.sound
  unfold kv_KV_Check.B0
  obtain ⟨T, m, h, hg, hp⟩ := h
  have hlen := hp.length_eq
  have hle := hk.le
  refine ⟨fun mm k' l t i w' => ∃ e : Nat, e ≤ 8 ∧ mm = 8 - e ∧ some ⟨b, 0, none⟩ = k' ∧ l = ((Lvi T e).length : Int) ∧ t = ((tmi T e).length : Int) ∧ (tmi T e).length ≤ e ∧ (Lvi T e).length ≤ e ∧ i = (e : Int) ∧ Ext [] w w', _,
    ⟨0, by omega, rfl, rfl, rfl, rfl, by simp [tmi], by simp [Lvi], rfl, Ext.refl _ _⟩, ?_⟩
  rintro mm k' l t i w' ⟨e, he8, rfl, rfl, rfl, rfl, ht8, hl8, rfl, he⟩
  have h' := h.ext0 he
  unfold kv_KV_Check.L1b
  refine Bm.ite (fun hlt => Pn.mk ⟨⟨by omega, by omega⟩, h'.ld (by omega) (NewSet.mk rfl rfl fun a w1 ha hs1 ho1 he1 => ?_)⟩) fun hge => ?_
  · have ho : Own w1 a (cellVs (T e)).toArray T_kv_cell := ho1
    refine ld8b ho (cellFine_ok (fun p hpe => hg.inv.ok e (by omega) p hpe) fun w2 he2 => ?_)
    have ho2 := he2.own ho (by simp)
    have e2 := (he.trans he1).trans he2
    refine Bm.neg str_ne_estr (LdI.mk ho2 rfl ?_)
    rcases ci_state (T e) with ⟨h0, hc⟩ | ⟨h0, hc⟩ | ⟨p, h0, hc⟩
    · rw [h0]
      refine Bm.neg rfl ?_
      unfold kv_KV_Check.B1
      refine LdI.mk ho2 rfl ?_
      rw [h0]
      refine Bm.neg rfl ⟨8 - (e + 1), by omega, e + 1, by omega, rfl, rfl, ?_, ?_, ?_, ?_, by rw [w64 (by omega) (by omega)]; omega, e2⟩
      · rw [Lvi_succ, hc]; simp [lv]
      · rw [tmi_succ, hc]; simp [tm]
      · rw [tmi_succ, hc]; simp [tm]; omega
      · rw [Lvi_succ, hc]; simp [lv]; omega
    · rw [h0]
      refine Bm.pos rfl ?_
      unfold kv_KV_Check.B1
      refine LdI.mk ho2 rfl ?_
      rw [h0]
      refine Bm.neg rfl ⟨8 - (e + 1), by omega, e + 1, by omega, rfl, rfl, ?_, ?_, ?_, ?_, by rw [w64 (by omega) (by omega)]; omega, e2⟩
      · rw [Lvi_succ, hc]; simp [lv]
      · rw [w64 (by omega) (by omega), tmi_succ, hc]; simp [tm]
      · rw [tmi_succ, hc]; simp [tm]; omega
      · rw [Lvi_succ, hc]; simp [lv]; omega
    · rw [h0]
      refine Bm.neg rfl ?_
      unfold kv_KV_Check.B1
      refine LdI.mk ho2 rfl ?_
      rw [h0]
      refine Bm.pos rfl (ld8b ho2 ?_)
      rw [hc]
      have hpo := hg.inv.ok e (by omega) p hc
      refine keyOf_ok hpo fun w3 he3 => Pn.mk (find_ok (h.ext0 (e2.trans he3)) hg.inv (by have := hpo.2; omega) fun w4 he4 => ⟨fun i q hi hq hqk => ?_, fun hab => absurd rfl (hab e (by omega) p hc)⟩)
      have hie : i = e := hg.inv.uniq i e hi (by omega) q p hq hc hqk
      subst hie
      refine Bm.neg (by simp) ⟨8 - (i + 1), by omega, i + 1, by omega, rfl, rfl, ?_, ?_, ?_, ?_, by rw [w64 (by omega) (by omega)]; omega, (e2.trans he3).trans he4⟩
      · rw [w64 (by omega) (by omega), Lvi_succ, hc]; simp [lv]
      · rw [tmi_succ, hc]; simp [tm]
      · rw [tmi_succ, hc]; simp [tm]; omega
      · rw [Lvi_succ, hc]; simp [lv]; omega
  have e8 : e = 8 := by omega
  subst e8
  have hlv : ((Lvi T 8).length : Int) = (A.length : Int) := by
    have : (Lvi T 8).length = A.length := hlen
    omega
  have htm : ((tmi T 8).length : Int) = m := hg.tomb.symm
  have hlt6 : (Lvi T 8).length + (tmi T 8).length < 6 := hg.lt
  refine Pn.mk (h'.ldL (Bm.neg (by rw [hlv]; simp) (Pn.mk (h'.ldM ?_))))
  have hc0 : (((tmi T 8).length : Int) != m) = false := by rw [htm]; simp
  rw [hc0]
  unfold kv_KV_Check.B2
  refine Bm.neg rfl (Bm.ite (fun hx => absurd hx (by omega)) fun _ => ?_)
  rw [w64 (by omega) (by omega), decide_eq_false (by omega)]
  unfold kv_KV_Check.B4
  refine Bm.neg rfl ⟨fun mm k' c w' => ∃ e : Nat, e ≤ 3 ∧ mm = 3 - e ∧ some ⟨b, 0, none⟩ = k' ∧ c = (e : Int) ∧ Ext [] w w', _, ⟨0, by omega, rfl, rfl, rfl, he⟩, ?_⟩
  clear he h' hge w'
  rintro mm k' c w' ⟨e, he3, rfl, rfl, rfl, he⟩
  unfold kv_KV_Check.L2b
  refine Bm.ite (fun hlt => Pn.mk ⟨⟨by omega, by omega⟩, (h.ext0 he).ldSess (by omega) (sessionFine_ok (hk.s e (by omega)) fun w2 he2 => Bm.neg str_ne_estr ⟨3 - (e + 1), by omega, e + 1, by omega, rfl, rfl, by rw [w64 (by omega) (by omega)]; omega, he.trans he2⟩)⟩) fun hge => hR w' he
end
end Go.Proofs.Qxb6500429a
