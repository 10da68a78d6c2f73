/-
  The law's Encode, Round, Flip, Untouched, AllAlike.
-/
import Derived.Test.Qxb6500423aLawB
set_option linter.unusedVariables false
open Go.Vc
namespace Go.Proofs.Qxb6500423a

theorem _root_.Go.Vc.LdL.cell {a : Addr} {w : World} {s : Option Addr} {l c : Nat} {K : Option Addr → Nat → Nat → Prop} (h : w.cell? a = some (.slice s l c)) (hk : K s l c) : LdL a w K := ⟨s, l, c, h, hk⟩

theorem lawEncode_ok {w : World} {a : Nat} {σ : LawS} {N : Int} {c dst typ : Int} {s : ByteArray} {R : Bool → World → Prop}
    (h : LawAt w a σ N) (hN : N < 1048576) (c0 : 0 ≤ c) (c2 : c < 2) (hsl : s.size ≤ 140737488351232) (hR : ∀ w', Next w a σ N w' → R true w') :
    framelaw_Encode.Call (some ⟨a, 0, none⟩) c dst typ s w R := by
  apply framelaw_Encode.sound
  unfold framelaw_Encode.B0
  have hcn : c.toNat < 2 := by omega
  have hpr := h.real _ hcn
  have hqm := h.mod _ hcn
  have hwf := h.wf _ hcn
  have hplt := Own.lt hpr
  have hqlt := Own.lt hqm
  have hpq : σ.P c.toNat ≠ σ.Q c.toNat := Own.ne_type hpr hqm (by decide)
  have hap : a ≠ σ.P c.toNat := Own.ne_type h.own hpr (by decide)
  have haq : a ≠ σ.Q c.toNat := Own.ne_type h.own hqm (by decide)
  have hsl' := strB_length s
  refine toBytes_ok fun k1 cap1 w1 z1 hcap1 hk1 hs1 hf1 he1 => Pn.mk ⟨⟨c0, by omega⟩, ?_⟩
  have h1 := h.ext0 he1
  have hb1 : Bs w1 (some ⟨k1, 0, none⟩) s.size cap1 (strB s) := ⟨hsl'.symm, .inr ⟨k1, z1, rfl, hf1, by omega⟩⟩
  refine h1.ldP c0 c2 (realEncode_ok (h1.real _ hcn) hwf (by omega) hf1.rd hsl' (by omega) (fun k o e => ?_) (fun herr => ?_) fun hok r w2 hr hfr hp2 he2 => ?_)
  · simp only [Option.some.injEq, Addr.mk.injEq] at e
    omega
  · -- an error: nothing changes
    refine spoil_ok hb1 (by omega) fun w3 hs3 hb3 he3 => Pn.mk ⟨⟨c0, by omega⟩, ?_⟩
    have E3 : Ext [] w w3 := he1.trans' he3 (fun x hx hlt => by simp [rowBlk] at hx; omega)
    have h3 := h.ext0 E3
    refine h3.ldQ c0 c2 (toBytes_ok fun k4 cap4 w4 z4 hcap4 hk4 hs4 hf4 he4 => ?_)
    have h4 := h3.ext0 he4
    refine modEncode_ok (h4.mod _ hcn) hwf (by omega) hf4.rd hsl' (by omega) (fun herr' => Bm.neg (by simp) (sameBytes_ok (Rd.nil _ _) (Rd.nil _ _) rfl rfl (by omega) fun w6 he6 _ => ?_)) (fun hok => absurd hok herr)
    unfold framelaw_Encode.B1
    refine Bm.neg (by simp) (Bm.neg (by simpa using herr) ?_)
    have E6 := (E3.trans he4).trans he6
    exact hR w6 ((h.ext0 E6).next E6)
  · obtain ⟨bd, bt, bl⟩ := encErr_zero hok
    have hz1 := he1.size
    have hz2 := he2.size
    refine spoil_ok (hb1.ext he2 (fun k e hk => by simp at e hk; omega)) (by omega) fun w3 hs3 hb3 he3 => Pn.mk ⟨⟨c0, by omega⟩, ?_⟩
    have E2 : Ext [σ.P c.toNat] w w2 := he1.nil.trans he2
    have E3 : Ext [σ.P c.toNat] w w3 := E2.trans' he3 (fun x hx hlt => by simp [rowBlk] at hx; omega)
    have hown3 : Own w3 a σ.cells T_framelaw_World := E3.own h.own (by simp; exact hap)
    have getQ3 : w3.cell? ⟨a, 2 + c.toNat, none⟩ = some (.pointer (some ⟨σ.Q c.toNat, 0, none⟩)) := by
      match hh : c.toNat, hcn with
      | 0, _ => exact hown3.cell rfl
      | 1, _ => exact hown3.cell rfl
    refine LdP.cell (by rw [add_mk, add_mk, Nat.mul_one, Nat.zero_add]; exact getQ3) (toBytes_ok fun k4 cap4 w4 z4 hcap4 hk4 hs4 hf4 he4 => ?_)
    have E4 : Ext [σ.P c.toNat] w w4 := E3.trans he4.nil
    have hp4 : RealAt w4 (σ.P c.toNat) ((σ.S c.toNat).bump 0) := he4.own (he3.own hp2 (by simp [rowBlk]; omega)) (by simp)
    have hr4 : Bf w4 r (encFrame dst (σ.S c.toNat).addr typ (strB s)) := (hfr.ext he3 (by simp [rowBlk]; omega)).ext0 he4
    have hrl := encFrame_length dst (σ.S c.toNat).addr typ (strB s)
    refine modEncode_ok (E4.own hqm (by simp; omega)) hwf (by omega) hf4.rd hsl' (by omega) (fun herr => absurd hok herr) fun _ qb qc w5 hq5 hqf hq5m he5 => Bm.neg rfl ?_
    have hz3 := he3.size
    have hz4 := he4.size
    have hz5 := he5.size
    have hr5 : Bf w5 r (encFrame dst (σ.S c.toNat).addr typ (strB s)) := hr4.ext he5 (by simp; omega)
    refine sameBytes_ok hr5.rd0 hq5 (by omega) (by omega) (by omega) fun w6 he6 hs6 => ?_
    rw [decide_eq_true rfl]
    unfold framelaw_Encode.B1
    refine Bm.neg rfl (Bm.pos rfl (Pn.mk ⟨⟨c0, by omega⟩, ?_⟩))
    have E6 : Ext [σ.P c.toNat, σ.Q c.toNat] w w6 := ((E4.mono (fun x hx _ => by simp at hx; simp [hx])).trans (he5.mono (fun x hx _ => by simp at hx; simp [hx]))).trans he6.nil
    have hp6 : RealAt w6 (σ.P c.toNat) ((σ.S c.toNat).bump 0) := he6.own (he5.own hp4 (by simp; omega)) (by simp)
    have hq6 : ModAt w6 (σ.Q c.toNat) ((σ.S c.toNat).bump 0) := he6.own hq5m (by simp)
    have h6 := h.stepped hcn E6 (fun k hk => by cases hk) hp6 hq6 (hwf.bump _)
    refine h6.ldQ c0 c2 (modAddr_ok hq6 ?_)
    rw [LinkS.bump_addr]
    refine copyBytes_ok (hq5.ext0 he6) (by omega) (by omega) fun r7 w7 hr7 hs7 hf7 he7 => ?_
    have h7 := h6.ext0 he7
    simp only [Pn, add_mk, Nat.zero_add]
    refine Sts.mk h7.own (by simp [LawS.cells]) rfl fun w8 hs8 ho8 he8 => toBytes_ok fun k9 cap9 w9 z9 hcap9 hk9 hs9 hf9 he9 => ?_
    refine Sts.mk (he9.own ho8 (by simp)) (by simp [LawS.cells, size_putArr]) rfl fun w10 hs10 ho10 he10 => ?_
    have E10 : Ext [a] w7 w10 := (he8.trans he9.nil).trans he10
    have ha7 := h7.own.lt
    have halt := h.own.lt
    have hzE6 := E6.size
    have hz7 := he7.size
    have hz8 : w8.heap.size = w7.heap.size := hs8
    have h10 : LawAt w10 a { σ with S := upd σ.S c.toNat ((σ.S c.toNat).bump 0), lb := some ⟨r7, 0, none⟩, ll := s.size + 6, lc := s.size + 6, last := encFrame dst (σ.S c.toNat).addr typ (strB s), d := dst, sr := (σ.S c.toNat).addr, t := typ, pb := some ⟨k9, 0, none⟩, pl := s.size, pc := cap9, pay := strB s } (N + 1) := by
      have noa : ∀ {k : Nat} {cs : Array Value} {T : TypeId}, Own w7 k cs T → T ≠ T_framelaw_World → k ∉ [a] := fun {k cs T} hoo hT hk => by
        simp at hk
        exact Own.ne_type hoo h7.own hT hk
      have nb : NoB w7 [a] := fun k hk cs hoo => noa hoo (by decide) hk
      refine ⟨ho10, fun c hc => E10.own (h7.real c hc) (noa (h7.real c hc) (by decide)), fun c hc => E10.own (h7.mod c hc) (noa (h7.mod c hc) (by decide)), h7.wf, h7.pne, h7.qne, ?_, ?_, .inr ⟨rfl, ?_, hwf.addr⟩,
        h7.mine.ext E10 (fun k hk => by obtain ⟨cs, ho⟩ := rowT h7.mine hk; exact noa ho (by decide)), h7.mark.ext E10 (fun k hk => by obtain ⟨cs, ho⟩ := rowT h7.mark hk; exact noa ho (by decide)), h7.apart, h7.kept.extT E10 nb, h7.cnt⟩
      · have q := (hf7.ext E10 (by simp; omega)).bs
        rw [hrl, hsl'] at q
        exact q
      · exact ⟨hsl'.symm, .inr ⟨k9, z9, rfl, hf9.ext he10 (by simp; omega), by show cap9 = (strB s).length + z9.length; omega⟩⟩
      · show encErr dst typ (strB s).length = 0
        rw [hsl']
        exact hok
    have hbr : Bs w10 (some ⟨r, 0, none⟩) (s.size + 6) (s.size + 6) (encFrame dst (σ.S c.toNat).addr typ (strB s)) := by
      have q := ((hr5.ext0 (he6.trans he7)).ext E10 (by simp; omega)).bs
      rw [hrl, hsl'] at q
      exact q
    have hcnt := h.cnt
    refine lawKeep_ok (wo := w) h10 (by show ((σ.n + 1 : Nat) : Int) ≤ N + 1; omega) (by omega) hbr (by omega) (fun k hk => ?_) fun w11 σ' h11 e1 e2 e3 e4 e5 e6 e7 e8 e9 e10 e11 e12 e13 e14 hg11 he11 => ?_
    · obtain ⟨q1, q2, q3⟩ := h.old (b := some ⟨r, 0, none⟩) (fun k hk => by simp [rowBlk] at hk; omega) k hk
      have hrlt := hr5.lt
      simp [rowBlk] at hk
      exact ⟨by simp [rowBlk]; omega, by simp [rowBlk]; omega, q3⟩
    · have hc01 : c.toNat = 0 ∨ c.toNat = 1 := by omega
      refine hR w11 ⟨σ', h11, ?_, fun k hk => ?_⟩
      · have m1 : Ext (blk a σ) w w7 := (E6.mono (fun x hx _ => by
          simp only [List.mem_cons, List.not_mem_nil, or_false] at hx
          simp only [blk, List.mem_cons, List.mem_append]
          rcases hc01 with e | e <;> rw [e] at hx <;> rcases hx with rfl | rfl <;> simp)).trans he7.nil
        refine (m1.trans (E10.mono (fun x hx _ => by simp at hx; simp [blk, hx]))).trans' he11 (fun x hx hlt => ?_)
        simp only [blk, List.mem_cons, List.mem_append]
        rcases List.mem_cons.1 hx with e | hx
        · exact .inl e
        rcases List.mem_append.1 hx with hx | hx
        · simp [rowBlk] at hx
          omega
        · exact .inr (.inr (.inr (.inr (.inr (List.mem_append.1 hx)))))
      · rcases hg11 k hk with q | q
        · exact .inl q
        · exact .inr (by have := E10.size; omega)

theorem lawRound_ok {w : World} {a : Nat} {σ : LawS} {N : Int} {c : Int} {R : Bool → World → Prop}
    (h : LawAt w a σ N) (hN : N < 1048576) (c0 : 0 ≤ c) (c2 : c < 2) (hR : ∀ w', Next w a σ N w' → R true w') :
    framelaw_Round.Call (some ⟨a, 0, none⟩) c w R := by
  apply framelaw_Round.sound
  unfold framelaw_Round.B0
  have hcn : c.toNat < 2 := by omega
  have hlast : σ.last.length ≤ 30 := by
    rcases h.good with e | ⟨e, e2, _⟩
    · rw [e]; simp
    · rw [e, encFrame_length]
      have := (encErr_zero e2).2.2
      omega
  have hcap : σ.ll ≤ σ.lc := by
    have h1 := h.last.1
    rcases h.last.2 with ⟨_, h2, h3⟩ | ⟨k, z, _, _, h2⟩
    · rw [h3] at h1; simp at h1; omega
    · omega
  simp only [Pn, add_mk, Nat.zero_add]
  refine LdL.mk h.own rfl (lawDecode_ok h hN c0 c2 h.last.rd h.last.1.symm hcap (by rw [h.last.1]; omega) (fun k o e => bsBlk h.last e) fun w1 σ' gb gl h1 kin hbg he1 hg1 => ?_)
  refine NewSet.mk rfl rfl fun g w3 hg3 hs3 hog he3 => Bm.neg rfl ?_
  have h3 := h1.ext0 he3
  have hbg3 := hbg.ext0 he3
  refine ⟨⟨c0, by omega⟩, LdP.cell (by rw [Nat.mul_one]; exact h3.getQ hcn) (modAddr_ok (h3.mod _ hcn) ?_)⟩
  rw [kin.A]
  have nx : ∀ w', Ext [] w3 w' → Next w a σ N w' := fun w' he => ⟨σ', h3.ext0 he, (he1.trans he3.nil).trans he.nil, hg1⟩
  refine LdL.mk h3.own rfl (Bm.mk (fun hl0 => ?_) (fun hl0 => ?_))
  · unfold framelaw_Round.B1
    exact Bm.pos rfl (hR w3 (nx w3 (Ext.refl _ _)))
  have hl0' : σ'.ll ≠ 0 := by
    have : ((σ'.ll : Nat) : Int) ≠ 0 := by simpa using hl0
    omega
  have hlen : σ'.ll = σ'.last.length := h3.last.1
  obtain ⟨x0, hx0⟩ : ∃ x, σ'.last[0]? = some x := ⟨_, List.getElem?_eq_getElem (by omega)⟩
  obtain ⟨kk, oo, hkk, hc0⟩ := h3.last.rd.at hx0
  refine LdL.mk h3.own rfl ?_
  rw [hkk]
  refine ⟨⟨by omega, by omega⟩, LdI.cell hc0 ?_⟩
  have hxb := h3.last.rd.1.get hx0
  rw [w64b hxb]
  unfold framelaw_Round.B1
  refine Bm.mk (fun hne => hR w3 (nx w3 (Ext.refl _ _))) (fun heq => ?_)
  have heq' : x0 = (σ.S c.toNat).addr := by simpa using heq
  rw [kin.last] at hx0
  rcases h.good with e | ⟨e, e2, e3⟩
  · rw [e] at hx0; simp at hx0
  have hd : σ.d = (σ.S c.toNat).addr := by
    rw [e] at hx0
    have : x0 = σ.d := by simpa [encFrame, encBody] using hx0.symm
    omega
  have hdr := decR_enc (dst := σ.d) (addr := σ.sr) (typ := σ.t) (a := (σ.S c.toNat).addr) (v := σ.pay) (encErr_zero e2).2.2 hd
  rw [e, hdr] at hbg3
  rw [e, hdr] at hog
  rw [e, hdr]
  have ogd := hog.drew
  have hod := h3.own.drew
  refine Bm.pos rfl (LdI.mk ogd rfl (LdI.mk ogd rfl (LdI.mk ogd rfl (LdL.mk ogd rfl ?_))))
  simp only [Pn, add_mk, Nat.zero_add]
  refine LdI.mk hod rfl (LdI.mk hod rfl (LdI.mk hod rfl (LdL.mk hod rfl ?_)))
  refine sameFrame_ok (hbg3.ext0 (Ext.drew [] w3)) (h3.pay.ext0 (Ext.drew [] w3)) ?_ kin.d.symm kin.sr.symm kin.t.symm kin.pay.symm fun w5 he5 => hR w5 (nx w5 ((Ext.drew [] w3).trans he5))
  have := hbg3.1
  have := (encErr_zero e2).2.2
  simp only at *
  omega

theorem lawFlip_ok {w : World} {a : Nat} {σ : LawS} {N : Int} {c k : Int} {R : Bool → World → Prop}
    (h : LawAt w a σ N) (hN : N < 1048576) (c0 : 0 ≤ c) (c2 : c < 2) (hR : ∀ w', Next w a σ N w' → R true w') :
    framelaw_Flip.Call (some ⟨a, 0, none⟩) c k w R := by
  apply framelaw_Flip.sound
  unfold framelaw_Flip.B0
  have hcn : c.toNat < 2 := by omega
  have hlast : σ.last.length ≤ 30 := by
    rcases h.good with e | ⟨e, e2, _⟩
    · rw [e]; simp
    · rw [e, encFrame_length]
      have := (encErr_zero e2).2.2
      omega
  have hll := h.last.1
  refine Bm.ite (fun hk => ?_) (fun hk => ?_)
  · unfold framelaw_Flip.B1
    exact Bm.pos rfl (hR w (h.next (Ext.refl _ _)))
  simp only [Pn, add_mk, Nat.zero_add]
  refine LdL.mk h.own rfl ?_
  rw [w64 (by omega) (by omega)]
  unfold framelaw_Flip.B1
  refine Bm.ite (fun hk2 => hR w (h.next (Ext.refl _ _))) (fun hk2 => ?_)
  simp only [Pn, add_mk, Nat.zero_add]
  rcases h.good with e | ⟨e, e2, e3⟩
  · rw [e] at hll
    simp at hll
    rw [hll] at hk2
    omega
  refine LdL.mk h.own rfl (copyBytes_ok h.last.rd hll.symm (by omega) fun r w1 hr hs1 hf1 he1 => ⟨by decide, by decide, ?_⟩)
  have hd0 : k.tdiv 8 = k / 8 := Int.tdiv_eq_ediv_of_nonneg (by omega)
  have hm0 : k.tmod 8 = k % 8 := Int.tmod_eq_emod_of_nonneg (by omega)
  rw [hd0, hm0, w64 (x := k / 8) (by omega) (by omega)]
  have hjl : (k / 8).toNat < σ.last.length := by omega
  obtain ⟨x, hx⟩ : ∃ x, σ.last[(k / 8).toNat]? = some x := ⟨_, List.getElem?_eq_getElem hjl⟩
  have hxb := h.last.rd.1.get hx
  obtain ⟨k', o', eb, hc1⟩ := hf1.rd0.at hx
  simp only [Option.some.injEq, Addr.mk.injEq] at eb
  obtain ⟨rfl, rfl, _⟩ := eb
  refine ⟨⟨by omega, by omega⟩, LdI.cell (by rw [add_mk, Nat.mul_one]; exact hc1) ⟨by decide, ?_, ⟨by omega, by omega⟩, ?_⟩⟩
  · have e64 : IntKind.u64.wrap (k % 8) = k % 8 := by
      simp only [IntKind.wrap, IntKind.signed, IntKind.bits, Bool.false_and, Bool.false_eq_true, if_false]
      have e : (2 : Int) ^ (64 : Nat) = 18446744073709551616 := by decide
      rw [e]
      omega
    rw [e64]
    omega
  have e64 : IntKind.u64.wrap (k % 8) = k % 8 := by
    simp only [IntKind.wrap, IntKind.signed, IntKind.bits, Bool.false_and, Bool.false_eq_true, if_false]
    have e : (2 : Int) ^ (64 : Nat) = 18446744073709551616 := by decide
    rw [e]
    omega
  rw [e64, add_mk, Nat.mul_one, Nat.zero_add]
  have hfv : IntKind.u8.wrap (BitVec.ofInt IntKind.u8.bits x ^^^ BitVec.ofInt IntKind.u8.bits (IntKind.u8.wrap ((1 : Int) * 2 ^ (min (k % 8).toNat IntKind.u8.bits)))).toNat = flipV x (k % 8).toNat := rfl
  rw [hfv]
  refine hf1.set hjl (flipV_isB _ _) fun w2 hs2 hf2 he2 => ?_
  have E2 : Ext [] w w2 := he1.trans' he2 (fun x hx hlt => by simp at hx; omega)
  have h2 := h.ext0 E2
  refine lawDecode_ok h2 hN c0 c2 hf2.rd0 (by rw [List.length_set]; exact hll.symm) (Nat.le_refl _) (by omega) (fun k o e => ?_) fun w3 σ' gb gl h3 kin hbg he3 hg3 => ?_
  · simp only [Option.some.injEq, Addr.mk.injEq] at e
    rw [← e.1]
    exact ⟨_, hf2.1⟩
  refine NewSet.mk rfl rfl fun v__ w5 hv5 hs5 ho5 he5 => Bm.pos rfl ?_
  have nx : Next w a σ N w5 := ⟨σ', h3.ext0 he5, (E2.nil.trans he3).trans he5.nil, fun k hk => by
    rcases hg3 k hk with q | q
    · exact .inl q
    · exact .inr (by have := E2.size; omega)⟩
  have key := decR_flip (a := (σ.S c.toNat).addr) (encErr_zero e2).2.2 (e ▸ hx) hxb (flipV_isB x (k % 8).toNat) (flipV_ne hxb (by omega))
  rw [← e] at key
  refine Bm.mk (fun _ => hR w5 nx) (fun hne => ?_)
  have h4 : (decR (σ.S c.toNat).addr (σ.last.set (k / 8).toNat (flipV x (k % 8).toNat))).err = 4 := by
    rcases key with q | q
    · rw [q] at hne
      simp at hne
    · exact q
  rw [h4]
  exact hR w5 nx

theorem untouched_ok {w : World} {a : Nat} {σ : LawS} {N : Int} {R : Bool → World → Prop} (h : LawAt w a σ N) (hN : N ≤ 1048576) (hR : ∀ w', Ext [] w w' → R true w') : framelaw_Untouched.Call (some ⟨a, 0, none⟩) w R := by
  apply framelaw_Untouched.sound
  unfold framelaw_Untouched.B0 framelaw_Untouched.L1
  have hcnt := h.cnt
  refine ⟨fun m a' j w' => some ⟨a, 0, none⟩ = a' ∧ 0 ≤ j ∧ j ≤ σ.n ∧ m = (σ.n - j).toNat ∧ Ext [] w w', σ.n, ⟨rfl, by omega, by omega, by omega, Ext.refl _ _⟩, ?_⟩
  rintro m a' j w' ⟨rfl, j0, j1, rfl, he⟩
  unfold framelaw_Untouched.L1b
  simp only [Pn, add_mk, Nat.zero_add]
  have h' := h.ext0 he
  refine LdL.mk h'.own rfl (Bm.ite (fun hj => ?_) (fun hj => hR w' he))
  have hd := h'.ext0 (Ext.drew [] w')
  have hml : σ.mine.length = σ.n := by have := hd.mine.1; omega
  obtain ⟨x, hx⟩ : ∃ x, σ.mine[j.toNat]? = some x := ⟨_, List.getElem?_eq_getElem (by omega)⟩
  obtain ⟨b, l, c, b', l', c', v, e1, e2, q1, q2, q3⟩ := hd.kept.2 _ _ hx
  subst e1
  obtain ⟨k1, ek1, cs1, o1, c1⟩ := hd.mine.at (i := j.toNat) (by omega) (by omega)
  obtain ⟨k2, ek2, cs2, o2, c2⟩ := hd.mark.at (i := j.toNat) (by omega) (by omega)
  have c1' := c1 0 (by omega)
  have c2' := c2 0 (by omega)
  simp only [Nat.mul_one, Nat.add_zero] at c1' c2'
  rw [hx] at c1'
  rw [e2] at c2'
  refine LdL.mk hd.own rfl ?_
  rw [ek1]
  refine ⟨⟨j0, by omega⟩, LdL.cell (by rw [add_mk, Nat.mul_one, Nat.zero_add]; exact o1.cell c1') (LdL.mk hd.own rfl ?_)⟩
  rw [ek2]
  refine ⟨⟨j0, by omega⟩, LdL.cell (by rw [add_mk, Nat.mul_one, Nat.zero_add]; exact o2.cell c2') ?_⟩
  refine sameBytes_ok q1.rd q2.rd q1.1.symm q2.1.symm (by omega) fun w3 he3 _ => ?_
  rw [decide_eq_true rfl]
  refine Bm.neg rfl ?_
  rw [w64 (by omega) (by omega)]
  exact ⟨(σ.n - (j + 1)).toNat, by omega, by trivial, by omega, by omega, rfl, (he.trans (Ext.drew [] w')).trans he3⟩

theorem allAlike_ok {w : World} {a : Nat} {σ : LawS} {N : Int} {R : Bool → World → Prop} (h : LawAt w a σ N) (hN : N ≤ 1048576) (hR : ∀ w', Ext [] w w' → R true w') : framelaw_AllAlike.Call (some ⟨a, 0, none⟩) w R := by
  apply framelaw_AllAlike.sound
  unfold framelaw_AllAlike.B0 framelaw_AllAlike.L1
  refine ⟨fun m a' c w' => some ⟨a, 0, none⟩ = a' ∧ 0 ≤ c ∧ c ≤ 2 ∧ m = (2 - c).toNat ∧ Ext [] w w', 2, ⟨rfl, by omega, by omega, by omega, Ext.refl _ _⟩, ?_⟩
  rintro m a' c w' ⟨rfl, c0, c1, rfl, he⟩
  unfold framelaw_AllAlike.L1b
  refine Bm.ite (fun hc => ?_) (fun hc => hR w' he)
  have hd := h.ext0 (he.trans (Ext.drew [] w'))
  have hcn : c.toNat < 2 := by omega
  refine Pn.mk ⟨⟨c0, by omega⟩, hd.ldP c0 hc (Pn.mk ⟨⟨c0, by omega⟩, hd.ldQ c0 hc (alike_ok (hd.real _ hcn) (hd.mod _ hcn) (hd.wf _ hcn) hN fun w2 he2 => Bm.neg rfl ?_)⟩)⟩
  rw [w64 (by omega) (by omega)]
  exact ⟨(2 - (c + 1)).toNat, by omega, rfl, by omega, by omega, rfl, (he.trans (Ext.drew [] w')).trans he2⟩
end Go.Proofs.Qxb6500423a
