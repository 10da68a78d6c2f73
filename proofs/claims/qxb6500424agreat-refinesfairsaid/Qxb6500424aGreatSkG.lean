/-
  sock: Connect, Child, Ready, Accept of the real table.
-/
import Derived.Test.Qxb6500424aGreatSkF
set_option linter.unusedVariables false
open Go.Vc
namespace Go.Proofs.Qxb6500424aGreat.Sk

theorem lookE_ne {E : List AE} {lp rh rp : Int} (h : lookE E lp rh rp ≠ 0) : ∃ a ∈ E, lookP lp rh rp a = true ∧ a.1.sd = lookE E lp rh rp := by
  unfold lookE at h ⊢
  cases hf : E.find? (lookP lp rh rp) with
  | none => rw [hf] at h; exact absurd rfl h
  | some c => exact ⟨c, List.mem_of_find?_eq_some hf, List.find?_some hf, rfl⟩
theorem nextP_bd {p : Int} (h : 8 ≤ p ∧ p ≤ 15) : 8 ≤ nextP p ∧ nextP p ≤ 15 := by
  unfold nextP
  split <;> omega
theorem pigeon {S : SkS} (hS : SkOk S) (hlow : lowE S.E ≠ -1) {rh rp : Int} {p : Int} (hp : 8 ≤ p ∧ p ≤ 15) (h0 : lookE S.E p rh rp ≠ 0) (h1 : lookE S.E (nextP p) rh rp ≠ 0) (h2 : lookE S.E (nextP (nextP p)) rh rp ≠ 0) (h3 : lookE S.E (nextP (nextP (nextP p))) rh rp ≠ 0) : False := by
  obtain ⟨s, hs4, _, hf⟩ := lowF_some hlow
  obtain ⟨a0, m0, q0, _⟩ := lookE_ne h0
  obtain ⟨a1, m1, q1, _⟩ := lookE_ne h1
  obtain ⟨a2, m2, q2, _⟩ := lookE_ne h2
  obtain ⟨a3, m3, q3, _⟩ := lookE_ne h3
  have z0 := lookP_iff.1 q0
  have z1 := lookP_iff.1 q1
  have z2 := lookP_iff.1 q2
  have z3 := lookP_iff.1 q3
  have d : p ≠ nextP p ∧ p ≠ nextP (nextP p) ∧ p ≠ nextP (nextP (nextP p)) ∧ nextP p ≠ nextP (nextP p) ∧ nextP p ≠ nextP (nextP (nextP p)) ∧ nextP (nextP p) ≠ nextP (nextP (nextP p)) := by
    have : p = 8 ∨ p = 9 ∨ p = 10 ∨ p = 11 ∨ p = 12 ∨ p = 13 ∨ p = 14 ∨ p = 15 := by omega
    rcases this with rfl | rfl | rfl | rfl | rfl | rfl | rfl | rfl <;> decide
  have key : ∀ {x y : AE}, x ∈ S.E → y ∈ S.E → x.1.kind = 2 → y.1.kind = 2 → x.1.lp ≠ y.1.lp → x.1.slot.toNat ≠ y.1.slot.toNat := fun {x y} mx my kx ky hl e => by
    have s1 := (hS.ei.ok x mx).con kx
    have s2 := (hS.ei.ok y my).con ky
    have := hS.ei.uniq mx my (hS.ei.slt x mx y my kx ky (by omega))
    rw [this] at hl
    exact hl rfl
  have ks : ∀ {x : AE}, x ∈ S.E → x.1.kind = 2 → s ≠ x.1.slot.toNat ∧ x.1.slot.toNat < 4 := fun {x} mx kx => by
    have s1 := (hS.ei.ok x mx).con kx
    refine ⟨fun e => ?_, by omega⟩
    have := occE_iff.2 ⟨x, mx, kx, (by omega : x.1.slot = (s : Int))⟩
    rw [hf] at this
    cases this
  have k0 := ks m0 z0.1
  have k1 := ks m1 z1.1
  have k2 := ks m2 z2.1
  have k3 := ks m3 z3.1
  have d01 := key m0 m1 z0.1 z1.1 (by rw [z0.2.1, z1.2.1]; exact d.1)
  have d02 := key m0 m2 z0.1 z2.1 (by rw [z0.2.1, z2.2.1]; exact d.2.1)
  have d03 := key m0 m3 z0.1 z3.1 (by rw [z0.2.1, z3.2.1]; exact d.2.2.1)
  have d12 := key m1 m2 z1.1 z2.1 (by rw [z1.2.1, z2.2.1]; exact d.2.2.2.1)
  have d13 := key m1 m3 z1.1 z3.1 (by rw [z1.2.1, z3.2.1]; exact d.2.2.2.2.1)
  have d23 := key m2 m3 z2.1 z3.1 (by rw [z2.2.1, z3.2.1]; exact d.2.2.2.2.2)
  have := nodup_len 4 (L := [s, a0.1.slot.toNat, a1.1.slot.toNat, a2.1.slot.toNat, a3.1.slot.toNat]) (by
    simp only [List.nodup_cons, List.mem_cons, List.not_mem_nil, or_false, not_or, List.nodup_nil, and_true, not_false_eq_true]
    exact ⟨⟨k0.1, k1.1, k2.1, k3.1⟩, ⟨d01, d02, d03⟩, ⟨d12, d13⟩, d23⟩) (fun x hx => by
    simp only [List.mem_cons, List.not_mem_nil, or_false] at hx
    omega)
  simp at this
theorem pick_spec {S : SkS} (hS : SkOk S) (hlow : lowE S.E ≠ -1) (rh rp : Int) : lookE S.E (pickE S.E rh rp 4 S.eph) rh rp = 0 ∧ 8 ≤ pickE S.E rh rp 4 S.eph ∧ pickE S.E rh rp 4 S.eph ≤ 15 := by
  have hp := hS.eph
  have hp1 := nextP_bd hp
  have hp2 := nextP_bd hp1
  have hp3 := nextP_bd hp2
  simp only [pickE]
  by_cases h0 : lookE S.E S.eph rh rp = 0
  · rw [if_pos h0]; exact ⟨h0, hp⟩
  · rw [if_neg h0]
    by_cases h1 : lookE S.E (nextP S.eph) rh rp = 0
    · rw [if_pos h1]; exact ⟨h1, hp1⟩
    · rw [if_neg h1]
      by_cases h2 : lookE S.E (nextP (nextP S.eph)) rh rp = 0
      · rw [if_pos h2]; exact ⟨h2, hp2⟩
      · rw [if_neg h2]
        by_cases h3 : lookE S.E (nextP (nextP (nextP S.eph))) rh rp = 0
        · rw [if_pos h3]; exact ⟨h3, hp3⟩
        · exact absurd (pigeon hS hlow hp h0 h1 h2 h3) id
/-- A place on the search for a port. -/
def Onway (E : List AE) (rh rp eph : Int) (f : Nat) (p : Int) : Prop := (f = 4 ∧ p = eph) ∨ (f = 3 ∧ p = nextP eph ∧ lookE E eph rh rp ≠ 0) ∨ (f = 2 ∧ p = nextP (nextP eph) ∧ lookE E eph rh rp ≠ 0 ∧ lookE E (nextP eph) rh rp ≠ 0) ∨ (f = 1 ∧ p = nextP (nextP (nextP eph)) ∧ lookE E eph rh rp ≠ 0 ∧ lookE E (nextP eph) rh rp ≠ 0 ∧ lookE E (nextP (nextP eph)) rh rp ≠ 0)
theorem Onway.step {S : SkS} (hS : SkOk S) (hlow : lowE S.E ≠ -1) {rh rp : Int} {f : Nat} {p : Int} (h : Onway S.E rh rp S.eph f p) (hl : lookE S.E p rh rp ≠ 0) : 1 < f ∧ Onway S.E rh rp S.eph (f - 1) (nextP p) := by
  rcases h with ⟨rfl, rfl⟩ | ⟨rfl, rfl, h0⟩ | ⟨rfl, rfl, h0, h1⟩ | ⟨rfl, rfl, h0, h1, h2⟩
  · exact ⟨by omega, .inr (.inl ⟨rfl, rfl, hl⟩)⟩
  · exact ⟨by omega, .inr (.inr (.inl ⟨rfl, rfl, h0, hl⟩))⟩
  · exact ⟨by omega, .inr (.inr (.inr ⟨rfl, rfl, h0, h1, hl⟩))⟩
  · exact absurd (pigeon hS hlow hS.eph h0 h1 h2 hl) id
theorem Onway.fin {S : SkS} {rh rp : Int} {f : Nat} {p : Int} (h : Onway S.E rh rp S.eph f p) (hl : lookE S.E p rh rp = 0) : pickE S.E rh rp 4 S.eph = p := by
  simp only [pickE]
  rcases h with ⟨rfl, rfl⟩ | ⟨rfl, rfl, h0⟩ | ⟨rfl, rfl, h0, h1⟩ | ⟨rfl, rfl, h0, h1, h2⟩
  · rw [if_pos hl]
  · rw [if_neg h0, if_pos hl]
  · rw [if_neg h0, if_neg h1, if_pos hl]
  · rw [if_neg h0, if_neg h1, if_neg h2, if_pos hl]
theorem Onway.bd {S : SkS} (hS : SkOk S) {rh rp : Int} {f : Nat} {p : Int} (h : Onway S.E rh rp S.eph f p) : 8 ≤ p ∧ p ≤ 15 := by
  have hp := hS.eph
  rcases h with ⟨_, rfl⟩ | ⟨_, rfl, _⟩ | ⟨_, rfl, _⟩ | ⟨_, rfl, _⟩
  · exact hp
  · exact nextP_bd hp
  · exact nextP_bd (nextP_bd hp)
  · exact nextP_bd (nextP_bd (nextP_bd hp))
theorem Onway.le {E : List AE} {rh rp eph : Int} {f : Nat} {p : Int} (h : Onway E rh rp eph f p) : 1 ≤ f ∧ f ≤ 4 := by
  rcases h with ⟨rfl, _⟩ | ⟨rfl, _⟩ | ⟨rfl, _⟩ | ⟨rfl, _⟩ <;> omega
section
variable {w : World} {b : Nat} {S : SkS}
theorem realConnect_ok {rh rp : Int} {R : Int → Int → World → Prop} (h : RAt w b S) (hS : SkOk S) (hb : S.nsd ≤ 4611686018427387904) (hR : ∀ w', RAt w' b (connectA rh rp S).2 → Ext [b] w w' → R (connectA rh rp S).1.1 (connectA rh rp S).1.2 w') : sock_Table_Connect.Call (some ⟨b, 0, none⟩) rh rp w R := by
  apply sock_Table_Connect.sound
  unfold sock_Table_Connect.B0
  have bad1 : (rh < 1 ∨ 255 < rh) → sock_Table_Connect.B1 (some ⟨b, 0, none⟩) rh rp true w R := fun hp => by
    unfold sock_Table_Connect.B1
    have e : connectA rh rp S = ((0, 5), S) := by unfold connectA; rw [if_pos hp]
    rw [e] at hR
    exact Bm.pos rfl (hR w h (Ext.refl _ _))
  refine Bm.ite (fun hlt => bad1 (.inl hlt)) fun hge => ?_
  by_cases h255 : rh > 255
  · rw [decide_eq_true h255]; exact bad1 (.inr h255)
  rw [decide_eq_false h255]
  unfold sock_Table_Connect.B1
  have bad2 : (rp < 1 ∨ 15 < rp) → sock_Table_Connect.B2 (some ⟨b, 0, none⟩) rh rp true w R := fun hp => by
    unfold sock_Table_Connect.B2
    have e : connectA rh rp S = ((0, 22), S) := by unfold connectA; rw [if_neg (by omega), if_pos hp]
    rw [e] at hR
    exact Bm.pos rfl (hR w h (Ext.refl _ _))
  refine Bm.neg rfl (Bm.ite (fun hlt => bad2 (.inl hlt)) fun hge2 => ?_)
  by_cases h15 : rp > 15
  · rw [decide_eq_true h15]; exact bad2 (.inr h15)
  rw [decide_eq_false h15]
  unfold sock_Table_Connect.B2
  have hh := h
  obtain ⟨T, F, C, o, ht, hr⟩ := h
  refine Bm.neg rfl (lowBlock_ok ht hr.rs.blk fun w1 he1 => ?_)
  rw [hr.low]
  by_cases hlow : lowE S.E = -1
  · rw [hlow]
    have e : connectA rh rp S = ((0, 11), S) := by unfold connectA; rw [if_neg (by omega), if_neg (by omega), if_pos hlow]
    rw [e] at hR
    exact Bm.pos rfl (hR w1 (hh.ext0 he1) he1.nil)
  have hlow' : lowF (occE S.E) ≠ -1 := hlow
  obtain ⟨s, hs4, es, hfs⟩ := lowF_some hlow'
  have es' : lowE S.E = (s : Int) := es
  have e : connectA rh rp S = ((S.nsd, 0), { addS S ⟨0, 2, pickE S.E rh rp 4 S.eph, rh, rp, lowE S.E, 0, false⟩ with eph := nextP (pickE S.E rh rp 4 S.eph) }) := by unfold connectA; rw [if_neg (by omega), if_neg (by omega), if_neg hlow]
  rw [e] at hR
  obtain ⟨i, F', rfl⟩ := hr.free_slot hS hlow
  have hi6 := (hr.rs.fmem i).1 (List.mem_cons_self ..)
  have ht1 := ht.ext0 he1
  refine Bm.neg (by simp; omega) (Pn.mk (ht1.ldEph ?_))
  rw [hr.eph]
  refine lookup_ok ht1 hr hS fun w2 he2 => ?_
  refine ⟨fun m t' rh' rp' s' p held n w' => ∃ f : Nat, m = f ∧ some ⟨b, 0, none⟩ = t' ∧ rh = rh' ∧ rp = rp' ∧ lowE S.E = s' ∧ Onway S.E rh rp S.eph f p ∧ held = lookE S.E p rh rp ∧ n = ((4 - f : Nat) : Int) ∧ Ext [] w w', _,
    ⟨4, rfl, rfl, rfl, rfl, rfl, .inl ⟨rfl, rfl⟩, rfl, rfl, he1.trans he2⟩, ?_⟩
  rintro m t' rh' rp' s' p held n w' ⟨f, rfl, rfl, rfl, rfl, rfl, hon, rfl, rfl, he⟩
  have hle := hon.le
  have ht' := ht.ext0 he
  unfold sock_Table_Connect.L1b
  refine Bm.mk (fun hne => ?_) fun heq => ?_
  · have hne' : lookE S.E p rh rp ≠ 0 := by simpa using hne
    have hst := hon.step hS hlow hne'
    rw [decide_eq_true (by omega)]
    unfold sock_Table_Connect.B3
    refine Bm.pos rfl (nextEph_ok (by have := hon.bd hS; omega) (lookup_ok ht' hr hS fun w3 he3 => ⟨m - 1, by omega, m - 1, rfl, rfl, rfl, rfl, rfl, hst.2, rfl, ?_, he.trans he3⟩))
    rw [w64 (by omega) (by omega)]
    omega
  · have heq' : lookE S.E p rh rp = 0 := by simpa using heq
    have hpick := hon.fin heq'
    have hbd := hon.bd hS
    rw [hpick] at hR
    unfold sock_Table_Connect.B3
    have hn := hS.nsd
    have hnsd : T.nsd = S.nsd := hr.nsd
    rw [es']
    refine Bm.neg rfl (conn_ok (occ := o) ht' hr.rs.fr hi6.1 hs4 (by omega) hr.rs.blk fun w3 h3 he3 => ?_)
    rw [hnsd]
    refine Bm.neg (by simp; omega) (nextEph_ok (by omega) (Pn.mk (h3.stEph fun w4 hs4' h4 he4 => hR w4 ⟨_, F', updC C (hE ⟨S.nsd, 2, p, rh, rp, (s : Int), 0, false⟩) (i :: C (hE ⟨S.nsd, 2, p, rh, rp, (s : Int), 0, false⟩)), updB o s true, h4, ?_⟩ ((he.nil.trans he3).trans he4))))
    have hE0 : ({ addS S ⟨0, 2, p, rh, rp, lowE S.E, 0, false⟩ with eph := nextP p } : SkS) = ⟨S.E ++ [(⟨S.nsd, 2, p, rh, rp, (s : Int), 0, false⟩, 0)], S.nsd + 1, nextP p, S.tick⟩ := by unfold addS; rw [es']
    show Rel _ ({ addS S ⟨0, 2, p, rh, rp, lowE S.E, 0, false⟩ with eph := nextP p } : SkS) _ _ _
    rw [hE0]
    refine hr.conn (e := ⟨S.nsd, 2, p, rh, rp, (s : Int), 0, false⟩) (s := s) rfl rfl rfl hs4 (fun j hj => ?_) ?_ (by simp [connT, linkT, updR, takeT]) (by simp [connT, linkT, updR, takeT, hnsd]) (by simp [connT, linkT, updR, takeT]) (by simp [connT, linkT, updR, takeT]) (by simp [connT, linkT, updR, takeT]) (by simp [connT, linkT, updR, takeT]) rfl
    · have hrow : (connT T i ⟨T.nsd, 2, p, rh, rp, (s : Int), 0, false⟩ (blkOf (updB o s true))).rows j = T.rows j := connT_rows hj
      show _ ∧ _
      refine ⟨by rw [hrow], by rw [hrow], by rw [hrow], by rw [hrow], by rw [hrow], by rw [hrow], by rw [hrow], fun hj6 u k => ?_⟩
      rw [hrow]
      obtain ⟨a, ha, ea⟩ := hr.toE hj6 u
      have := hS.ei.sd a ha
      rw [if_neg (by rw [← ea]; simp only; omega)]
      omega
    · rw [connT_row, hnsd]
      exact ⟨rfl, rfl, rfl⟩
theorem realChild_ok {lp rh rp : Int} {R : Int → Int → World → Prop} (h : RAt w b S) (hS : SkOk S) (hb : S.nsd ≤ 4611686018427387904) (hR : ∀ w', RAt w' b (childA lp rh rp S).2 → Ext [b] w w' → R (childA lp rh rp S).1.1 (childA lp rh rp S).1.2 w') : sock_Table_Child.Call (some ⟨b, 0, none⟩) lp rh rp w R := by
  apply sock_Table_Child.sound
  unfold sock_Table_Child.B0
  have hh := h
  obtain ⟨T, F, C, o, ht, hr⟩ := h
  refine listenerRow_ok ht ?_
  rcases port_of hr hS lp with ⟨e1, e2⟩ | ⟨l, a, hl6, e1, u, k, elp, ha, ea, e2, hp1, hp8⟩
  · rw [e1]
    have e : childA lp rh rp S = ((0, 21), S) := by unfold childA; rw [if_pos e2]
    rw [e] at hR
    exact Bm.pos rfl (hR w hh (Ext.refl _ _))
  rw [e1]
  have hasd := hS.ei.sd a ha
  have hl0 : lisE S.E lp ≠ 0 := by omega
  refine Bm.neg (by simp) ?_
  have bad1 : (rh < 1 ∨ 255 < rh) → sock_Table_Child.B1 (some ⟨b, 0, none⟩) lp rh rp (l : Int) true w R := fun hp => by
    unfold sock_Table_Child.B1
    have e : childA lp rh rp S = ((0, 5), S) := by unfold childA; rw [if_neg hl0, if_pos hp]
    rw [e] at hR
    exact Bm.pos rfl (hR w hh (Ext.refl _ _))
  refine Bm.ite (fun hlt => bad1 (.inl hlt)) fun hge => ?_
  by_cases h255 : rh > 255
  · rw [decide_eq_true h255]; exact bad1 (.inr h255)
  rw [decide_eq_false h255]
  unfold sock_Table_Child.B1
  have bad2 : (rp < 1 ∨ 15 < rp) → sock_Table_Child.B2 (some ⟨b, 0, none⟩) lp rh rp (l : Int) true w R := fun hp => by
    unfold sock_Table_Child.B2
    have e : childA lp rh rp S = ((0, 22), S) := by unfold childA; rw [if_neg hl0, if_neg (by omega), if_pos hp]
    rw [e] at hR
    exact Bm.pos rfl (hR w hh (Ext.refl _ _))
  refine Bm.neg rfl (Bm.ite (fun hlt => bad2 (.inl hlt)) fun hge2 => ?_)
  by_cases h15 : rp > 15
  · rw [decide_eq_true h15]; exact bad2 (.inr h15)
  rw [decide_eq_false h15]
  unfold sock_Table_Child.B2
  refine Bm.neg rfl (lookup_ok ht hr hS fun w1 he1 => Bm.mk (fun hne => ?_) fun heq => lowBlock_ok (ht.ext0 he1) hr.rs.blk fun w2 he2 => ?_)
  · have hne' : lookE S.E lp rh rp ≠ 0 := by simpa using hne
    have e : childA lp rh rp S = ((0, 23), S) := by unfold childA; rw [if_neg hl0, if_neg (by omega), if_neg (by omega), if_pos hne']
    rw [e] at hR
    exact hR w1 (hh.ext0 he1) he1.nil
  have heq' : lookE S.E lp rh rp = 0 := by simpa using heq
  have e12 := he1.trans he2
  have ht2 := ht.ext0 e12
  rw [hr.low]
  refine Pn.mk ⟨⟨by omega, by omega⟩, ht2.ldKids hl6 ?_⟩
  obtain ⟨hnext, hkids, hring⟩ := hr.ring l hl6 u k
  have hkid2 := hS.ei.kid a.1.sd (by omega)
  rw [← ea] at hkids
  rw [hkids]
  have full : (2 ≤ (S.E.filter (kidOf (lisE S.E lp))).length ∨ lowE S.E = -1) → sock_Table_Child.B3 (some ⟨b, 0, none⟩) lp rh rp (l : Int) (lowE S.E) true w2 R := fun hf => by
    unfold sock_Table_Child.B3
    have e : childA lp rh rp S = ((0, 11), S) := by unfold childA; rw [if_neg hl0, if_neg (by omega), if_neg (by omega), if_neg (by omega), if_pos hf]
    rw [e] at hR
    exact Bm.pos rfl (hR w2 (hh.ext0 e12) e12.nil)
  refine Bm.ite (fun h2 => full (.inl (by rw [e2]; omega))) fun h2 => ?_
  by_cases hlow : lowE S.E = -1
  · rw [show (lowE S.E == -1) = true by simp [hlow]]
    exact full (.inr hlow)
  rw [show (lowE S.E == -1) = false by simp [hlow]]
  have hlow' : lowF (occE S.E) ≠ -1 := hlow
  obtain ⟨s, hs4, es, hfs⟩ := lowF_some hlow'
  have es' : lowE S.E = (s : Int) := es
  have e : childA lp rh rp S = ((S.nsd, 0), addS S ⟨0, 2, lp, rh, rp, lowE S.E, lisE S.E lp, false⟩) := by unfold childA; rw [if_neg hl0, if_neg (by omega), if_neg (by omega), if_neg (by omega), if_neg (by rw [e2]; omega)]
  rw [e] at hR
  obtain ⟨i, F', rfl⟩ := hr.free_slot hS hlow
  have hi6 := (hr.rs.fmem i).1 (List.mem_cons_self ..)
  have hli : l ≠ i := fun z => by rw [z, hi6.2] at u; cases u
  have hn := hS.nsd
  have hnsd : T.nsd = S.nsd := hr.nsd
  unfold sock_Table_Child.B3
  rw [es']
  refine Bm.neg rfl (Pn.mk ⟨⟨by omega, by omega⟩, ht2.ldSd hl6 (conn_ok (occ := o) ht2 hr.rs.fr hi6.1 hs4 (by omega) hr.rs.blk fun w3 h3 he3 => ?_)⟩)
  rw [hnsd] at h3 ⊢
  refine Bm.neg (by simp; omega) (Pn.mk ⟨⟨by omega, by omega⟩, h3.drew.ldKids hl6 (Pn.mk ⟨⟨by omega, by omega⟩, h3.drew.stKids hl6 fun w4 hs4' h4 he4 => hR w4 ⟨_, F', updC C (hE ⟨S.nsd, 2, lp, rh, rp, (s : Int), lisE S.E lp, false⟩) (i :: C (hE ⟨S.nsd, 2, lp, rh, rp, (s : Int), lisE S.E lp, false⟩)), updB o s true, h4, ?_⟩ ((e12.nil.trans (he3.trans (Ext.drew _ _))).trans he4)⟩)⟩)
  have hE0 : addS S ⟨0, 2, lp, rh, rp, lowE S.E, lisE S.E lp, false⟩ = ⟨S.E ++ [(⟨S.nsd, 2, lp, rh, rp, (s : Int), lisE S.E lp, false⟩, 0)], S.nsd + 1, S.eph, S.tick⟩ := by unfold addS; rw [es']
  show Rel _ (addS S ⟨0, 2, lp, rh, rp, lowE S.E, lisE S.E lp, false⟩) _ _ _
  rw [hE0]
  have hpar : (T.rows l).e.sd = lisE S.E lp := by rw [e2, ea]
  rw [hpar]
  refine hr.conn (e := ⟨S.nsd, 2, lp, rh, rp, (s : Int), lisE S.E lp, false⟩) (s := s) rfl rfl rfl hs4 (fun j hj => ?_) ?_ (by simp [connT, linkT, updR, takeT]) (by simp [connT, linkT, updR, takeT]) (by simp [connT, linkT, updR, takeT]) (by simp [connT, linkT, updR, takeT]) (by simp [connT, linkT, updR, takeT]) (by simp [connT, linkT, updR, takeT, hnsd]) (by simp [connT, linkT, updR, takeT, hr.eph])
  · have hrow : (connT T i ⟨S.nsd, 2, lp, rh, rp, (s : Int), lisE S.E lp, false⟩ (blkOf (updB o s true))).rows j = T.rows j := connT_rows hj
    by_cases hjl : j = l
    · subst hjl
      rw [updR_eq, hrow]
      refine ⟨rfl, rfl, rfl, rfl, rfl, rfl, rfl, fun hj6 uj kj => ?_⟩
      rw [if_pos hpar.symm]
      have hk1 : (T.rows j).kids = ((S.E.filter (kidOf a.1.sd)).length : Int) := hkids
      show IntKind.i64.wrap ((T.rows j).kids + 1) = _
      rw [w64 (by omega) (by omega)]
    · rw [updR_ne hjl, hrow]
      refine ⟨rfl, rfl, rfl, rfl, rfl, rfl, rfl, fun hj6 uj kj => ?_⟩
      rw [if_neg]
      · omega
      · intro z
        have z' : lisE S.E lp = (T.rows j).e.sd := z
        exact hjl (hr.uniq hS j l hj6 hl6 uj u (by rw [← z', hpar]))
  · rw [updR_ne (fun z => hli z.symm), connT_row]
    exact ⟨rfl, rfl, rfl⟩
end
end Go.Proofs.Qxb6500424aGreat.Sk
