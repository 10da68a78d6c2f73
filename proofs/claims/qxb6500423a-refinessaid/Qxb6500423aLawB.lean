/-
  The law's Decode, Encode, Round, Flip.
-/
import Derived.Test.Qxb6500423aLawA
set_option linter.unusedVariables false
open Go.Vc
namespace Go.Proofs.Qxb6500423a

structure Kin (σ σ' : LawS) : Prop where
  P : σ'.P = σ.P
  Q : σ'.Q = σ.Q
  A : ∀ c, (σ'.S c).addr = (σ.S c).addr
  lb : σ'.lb = σ.lb
  ll : σ'.ll = σ.ll
  lc : σ'.lc = σ.lc
  last : σ'.last = σ.last
  d : σ'.d = σ.d
  sr : σ'.sr = σ.sr
  t : σ'.t = σ.t
  pb : σ'.pb = σ.pb
  pl : σ'.pl = σ.pl
  pc : σ'.pc = σ.pc
  pay : σ'.pay = σ.pay

theorem decR_pay_le {a : Int} {v : List Int} : (decR a v).pay.length ≤ 24 := by
  unfold decR
  split
  · simp
  split
  · simp
  rename_i h1 h2
  have h1' : frameErr v = 0 := by simpa using h1
  have := frameErr_zero h1'
  simp
  omega

theorem lawDecode_ok {w : World} {a : Nat} {σ : LawS} {N : Int} {c : Int} {b : Option Addr} {l cp : Nat} {v : List Int} {R : Bool → Int → Int → Int → Option Addr → Nat → Nat → Int → World → Prop}
    (h : LawAt w a σ N) (hN : N < 1048576) (c0 : 0 ≤ c) (c2 : c < 2) (hv : Rd w b v) (hl : v.length = l) (hcp : l ≤ cp) (hlb : l ≤ 281474976710656) (hbt : ∀ k o, b = some ⟨k, o, none⟩ → ∃ cs, Own w k cs T_uint8)
    (hR : ∀ w' σ' gb gl, LawAt w' a σ' (N + 1) → Kin σ σ' → Bs w' gb gl gl (decR (σ.S c.toNat).addr v).pay → Ext (blk a σ) w w' → (∀ k ∈ blk a σ', k ∈ blk a σ ∨ w.heap.size ≤ k) →
      R true (decR (σ.S c.toNat).addr v).dst (decR (σ.S c.toNat).addr v).src (decR (σ.S c.toNat).addr v).typ gb gl gl (decR (σ.S c.toNat).addr v).err w') :
    framelaw_Decode.Call (some ⟨a, 0, none⟩) c b l cp w R := by
  apply framelaw_Decode.sound
  unfold framelaw_Decode.B0
  have hcn : c.toNat < 2 := by omega
  have hpr := h.real _ hcn
  have hqm := h.mod _ hcn
  have hwf := h.wf _ hcn
  have hplt := Own.lt hpr
  have hqlt := Own.lt hqm
  have hpq : σ.P c.toNat ≠ σ.Q c.toNat := Own.ne_type hpr hqm (by decide)
  refine New.mk fun t7 w1 ht7 hs1 ho7 he1 => copyBytes_ok (hv.ext0 he1) hl hlb fun r w2 hr hs2 hf2 he2 => Pn.mk ⟨⟨c0, by omega⟩, ?_⟩
  have E2 := he1.trans he2
  have h2 := h.ext0 E2
  refine h2.ldP c0 c2 (realDecode_ok (h2.real _ hcn) hwf (by omega) hf2.rd0 hl (Nat.le_refl _) hlb (fun k o e => ?_) fun fb fl w3 hb3 hfr3 hp3 he3 => ?_)
  · simp only [Option.some.injEq, Addr.mk.injEq] at e
    omega
  have hz2 := E2.size
  have hz3 := he3.size
  refine NewSet.mk rfl rfl fun f w5 hf5 hs5 ho5 he5 => ?_
  have E5 : Ext [σ.P c.toNat] w w5 := (E2.nil.trans he3).trans he5.nil
  have hbr : Bs w5 (some ⟨r, 0, none⟩) l l v := by
    have := ((hf2.ext he3 (by simp; omega)).ext0 he5).bs
    rwa [hl] at this
  refine spoil_ok hbr hlb fun w6 hs6 hb6 he6 => Pn.mk ⟨⟨c0, by omega⟩, ?_⟩
  have he6' : Ext [r] w5 w6 := by simpa [rowBlk] using he6
  have E6 : Ext [σ.P c.toNat] w w6 := E5.trans' he6' (fun x hx hlt => by simp at hx; omega)
  have hpw6 : RealAt w6 (σ.P c.toNat) ((σ.S c.toNat).bump (decR (σ.S c.toNat).addr v).cls) := he6'.own (he5.own hp3 (by simp)) (by simp; omega)
  have hown6 : Own w6 a σ.cells T_framelaw_World := E6.own h.own (by simp; exact Own.ne_type h.own hpr (by decide))
  have hv6 : Rd w6 b v := hv.ext E6 (fun k o e hk => by
    obtain ⟨cs, q⟩ := hbt k o e
    simp at hk
    exact Own.ne_type q hpr (by decide) hk)
  have getQ6 : w6.cell? ⟨a, 2 + c.toNat, none⟩ = some (.pointer (some ⟨σ.Q c.toNat, 0, none⟩)) := by
    match hh : c.toNat, hcn with
    | 0, _ => exact hown6.cell rfl
    | 1, _ => exact hown6.cell rfl
  refine LdP.cell (by rw [add_mk, add_mk, Nat.mul_one, Nat.zero_add]; exact getQ6) ?_
  have hq6 : ModAt w6 (σ.Q c.toNat) (σ.S c.toNat) := E6.own hqm (by simp; omega)
  refine modDecode_ok hq6 hwf (by omega) hv6 hl hcp hlb (fun k o e => ?_) fun gb gl w7 hb7 hfr7 hq7 he7 => ?_
  · obtain ⟨cs, q⟩ := hbt k o e
    exact Own.ne_type q hqm (by decide)
  refine NewSet.mk rfl rfl fun g w9 hg9 hs9 ho9 he9 => Bm.pos (by simp) ?_
  have hz6 := E6.size
  have hz7 := he7.size
  have ho5_9 := he9.own (he7.own (he6'.own ho5 (by simp; omega)) (by simp; omega)) (by simp)
  refine LdI.mk ho5_9 rfl (LdI.mk ho5_9 rfl (LdI.mk ho5_9 rfl (LdL.mk ho5_9 rfl (LdI.mk ho9 rfl (LdI.mk ho9 rfl (LdI.mk ho9 rfl (LdL.mk ho9 rfl ?_)))))))
  have hbf9 : Bs w9 fb fl fl (decR (σ.S c.toNat).addr v).pay := by
    have q5 := hb3.ext0 he5
    have q6 := q5.ext he6' (fun k e hk => by
      simp at hk
      obtain ⟨_, q⟩ := bsBlk hb3 e
      have : k ∈ rowBlk fb := by rw [e]; simp [rowBlk]
      have := hfr3 k this
      omega)
    have q7 := q6.ext he7 (fun k e hk => by
      simp at hk
      have : k ∈ rowBlk fb := by rw [e]; simp [rowBlk]
      have := hfr3 k this
      omega)
    exact q7.ext0 he9
  have hbg9 := hb7.ext0 he9
  have hfl : fl ≤ 24 := by rw [hb3.1]; exact decR_pay_le
  refine sameFrame_ok hbf9 hbg9 (by omega) rfl rfl rfl rfl fun w10 he10 => ?_
  have E10 : Ext [σ.P c.toNat, σ.Q c.toNat] w w10 := (((E6.mono (fun x hx _ => by simp at hx; simp [hx])).trans (he7.mono (fun x hx _ => by simp at hx; simp [hx]))).trans he9.nil).trans he10.nil
  have hp10 : RealAt w10 (σ.P c.toNat) ((σ.S c.toNat).bump (decR (σ.S c.toNat).addr v).cls) := he10.own (he9.own (he7.own hpw6 (by simp; omega)) (by simp)) (by simp)
  have hq10 : ModAt w10 (σ.Q c.toNat) ((σ.S c.toNat).bump (decR (σ.S c.toNat).addr v).cls) := he10.own (he9.own hq7 (by simp)) (by simp)
  have h10 := h.stepped hcn E10 (fun k hk => by cases hk) hp10 hq10 (hwf.bump _)
  have hb10 := hbf9.ext0 he10
  have of10 := he10.own ho5_9 (by simp)
  have og10 := he10.own ho9 (by simp)
  have o7_3 := he3.own (he2.own ho7 (by simp)) (by simp; omega)
  have o7_10 := he10.own (he9.own (he7.own (he6'.own (he5.own o7_3 (by simp)) (by simp; omega)) (by simp; omega)) (by simp)) (by simp)
  unfold framelaw_Decode.B1
  refine LdL.mk of10 rfl ?_
  have hcnt := h.cnt
  have hz10 := he10.size
  have hz9 := he9.size
  refine lawKeep_ok (w := w10) (wo := w) h10 (by show ((σ.n + 1 : Nat) : Int) ≤ N + 1; omega) (by omega) hb10 (by omega) (fun k hk => ?_) fun w11 σ' h11 e1 e2 e3 e4 e5 e6 e7 e8 e9 e10 e11 e12 e13 e14 hg11 he11 => ?_
  · exact h.old (b := fb) (fun k hk => by have := hfr3 k hk; omega) k hk
  -- the two temporaries live on
  have nT : ∀ {k : Nat} {cs : Array Value}, Own w10 k cs T_api_Frame → k ∉ a :: (rowBlk fb ++ (rowBlk σ.mb ++ rowBlk σ.kb)) := fun {k cs} hoo hkk => by
    rcases List.mem_cons.1 hkk with e | hkk
    · exact Own.ne_type hoo h10.own (by decide) e
    rcases List.mem_append.1 hkk with hkk | hkk
    · obtain ⟨_, q⟩ := bsT hb10 hkk
      exact Own.ne_type hoo q (by decide) rfl
    rcases List.mem_append.1 hkk with hkk | hkk
    · obtain ⟨_, q⟩ := rowT h10.mine hkk
      exact Own.ne_type hoo q (by decide) rfl
    · obtain ⟨_, q⟩ := rowT h10.mark hkk
      exact Own.ne_type hoo q (by decide) rfl
  have og11 := (he11.own og10 (nT og10)).drew
  have o711 := (he11.own o7_10 (nT o7_10)).drew
  refine LdI.mk og11 rfl (LdI.mk og11 rfl (LdI.mk og11 rfl (LdL.mk og11 rfl (Sts.full o711 rfl rfl fun w12 hs12 ho12 he12 => ?_))))
  refine LdI.mk ho12 rfl (LdI.mk ho12 rfl (LdI.mk ho12 rfl (LdL.mk ho12 rfl ?_)))
  have al : Alien w11.drew [t7] := fun k hk => by
    simp at hk
    subst hk
    exact ⟨_, _, o711, by decide, by decide, by decide, by decide, by decide⟩
  have h12 : LawAt w12 a σ' (N + 1) := (h11.ext0 (Ext.drew [] w11)).extA he12 al
  have hbgk : ∀ k ∈ rowBlk gb, w6.heap.size ≤ k := hfr7
  have hg12 : Bs w12 gb gl gl (decR (σ.S c.toNat).addr v).pay := by
    have q10 := hbg9.ext0 he10
    have q11 := q10.ext he11 (fun k e hkk => by
      have hkg : k ∈ rowBlk gb := by rw [e]; simp [rowBlk]
      obtain ⟨_, qo⟩ := bsBlk q10 e
      have hge := hbgk k hkg
      rcases List.mem_cons.1 hkk with e' | hkk
      · exact Own.ne_type qo h10.own (by decide) e'
      rcases List.mem_append.1 hkk with hkk | hkk
      · have h1 := hfr3 k hkk
        obtain ⟨_, q⟩ := bsT (w := w3) hb3 hkk
        have := q.lt
        have := he5.size
        omega
      rcases List.mem_append.1 hkk with hkk | hkk
      · obtain ⟨_, q⟩ := rowT h10.mine hkk
        exact Own.ne_type qo q (by decide) rfl
      · obtain ⟨_, q⟩ := rowT h10.mark hkk
        exact Own.ne_type qo q (by decide) rfl)
    refine (q11.ext0 (Ext.drew [] w11)).ext he12 (fun k e hkk => ?_)
    obtain ⟨_, qo⟩ := bsBlk (q11.ext0 (Ext.drew [] w11)) e
    exact al.not qo (.inr (.inr (.inr (.inr rfl)))) hkk
  have hc01 : c.toNat = 0 ∨ c.toNat = 1 := by omega
  refine hR w12 σ' gb gl h12 ⟨e1, e2, fun i => ?_, e4, e5, e6, e7, e8, e9, e10, e11, e12, e13, e14⟩ hg12 ?_ (fun k hk => ?_)
  · rw [e3]
    show (upd σ.S c.toNat _ i).addr = _
    unfold upd
    split
    · rename_i e
      rw [LinkS.bump_addr, e]
    · rfl
  · have m1 : Ext (blk a σ) w w10 := E10.mono (fun x hx _ => by
      simp only [List.mem_cons, List.not_mem_nil, or_false] at hx
      simp only [blk, List.mem_cons, List.mem_append]
      rcases hc01 with e | e <;> rw [e] at hx <;> rcases hx with rfl | rfl <;> simp)
    refine (m1.trans' he11 (fun x hx hlt => ?_)).trans' ((Ext.drew [t7] w11).trans he12) (fun x hx hlt => by simp at hx; omega)
    simp only [blk, List.mem_cons, List.mem_append]
    rcases List.mem_cons.1 hx with e | hx
    · exact .inl e
    rcases List.mem_append.1 hx with hx | hx
    · have := hfr3 x hx
      omega
    · exact .inr (.inr (.inr (.inr (.inr (List.mem_append.1 hx)))))
  · rcases hg11 k hk with q | q
    · exact .inl q
    · exact .inr (by omega)
end Go.Proofs.Qxb6500423a
