/-
  framelaw.Spoil, framelaw.Keep, framelaw.Untouched, and the law's comparing functions.
-/
import Derived.Test.Qxb6500423aFramePlain
set_option linter.unusedVariables false
open Go.Vc
namespace Go.Proofs.Qxb6500423a

def spoilV (x : Int) : Int := IntKind.u8.wrap (BitVec.ofInt IntKind.u8.bits x ^^^ BitVec.ofInt IntKind.u8.bits (255 : Int)).toNat

theorem spoil_ok {w : World} {b : Option Addr} {l c : Nat} {v : List Int} {R : World → Prop} (h : Bs w b l c v) (hl : l ≤ 281474976710656)
    (hR : ∀ w', w'.heap.size = w.heap.size → Bs w' b l c (v.map spoilV) → Ext (rowBlk b) w w' → R w') : framelaw_Spoil.Call b l c w R := by
  apply framelaw_Spoil.sound
  unfold framelaw_Spoil.B0 framelaw_Spoil.L1
  have hlen := h.1
  rcases h.2 with ⟨rfl, rfl, rfl⟩ | ⟨k, z, rfl, hf, hc⟩
  · simp at hlen
    subst hlen
    refine ⟨fun m b' l' c' i w' => none = b' ∧ 0 = l' ∧ 0 = c' ∧ i = 0 ∧ w = w', 0, ⟨rfl, rfl, rfl, rfl, rfl⟩, ?_⟩
    rintro m b' l' c' i w' ⟨rfl, rfl, rfl, rfl, rfl⟩
    unfold framelaw_Spoil.L1b
    refine Bm.neg (by simp) (hR w rfl (by simpa using h) (Ext.refl _ _))
  · refine ⟨fun m b' l' c' i w' => some ⟨k, 0, none⟩ = b' ∧ l = l' ∧ c = c' ∧ 0 ≤ i ∧ i ≤ l ∧ m = (l - i).toNat ∧ w'.heap.size = w.heap.size ∧ Ext [k] w w' ∧ Bf w' k ((v.take i.toNat).map spoilV ++ (v.drop i.toNat ++ z)), l, ⟨rfl, rfl, rfl, by omega, by omega, by omega, rfl, Ext.refl _ _, by simpa using hf⟩, ?_⟩
    rintro m b' l' c' i w' ⟨rfl, rfl, rfl, i0, i1, rfl, hs, he, hf'⟩
    unfold framelaw_Spoil.L1b
    refine Bm.ite (fun hi => ?_) (fun hi => ?_)
    · obtain ⟨x, hx⟩ : ∃ x, v[i.toNat]? = some x := ⟨_, List.getElem?_eq_getElem (by omega)⟩
      have hpl : ((v.take i.toNat).map spoilV).length = i.toNat := by simp; omega
      rw [drop_cons hx, List.cons_append] at hf'
      have hcell : w'.cell? ⟨k, i.toNat, none⟩ = some (.int .u8 x) := by
        refine hf'.1.cell ?_
        simp only [List.getElem?_toArray, U8_get]
        rw [List.getElem?_append_right (by omega), hpl, Nat.sub_self]
        rfl
      refine Pn.mk ⟨⟨i0, hi⟩, LdI.cell (by rw [add_mk, Nat.mul_one, Nat.zero_add]; exact hcell) (Pn.mk ⟨⟨i0, hi⟩, ?_⟩)⟩
      rw [add_mk, show 0 + i.toNat * 1 = ((v.take i.toNat).map spoilV).length by omega]
      refine hf'.set (by simp) (wrap8_isB _) fun w2 hs2 hf2 he2 => ?_
      rw [set_mid] at hf2
      rw [w64 (by omega) (by omega)]
      refine ⟨(l - (i + 1)).toNat, by omega, rfl, rfl, rfl, by omega, by omega, rfl, by omega, he.trans he2, ?_⟩
      have e : (i + 1).toNat = i.toNat + 1 := by omega
      rw [e, List.take_add_one, hx, List.map_append, List.append_assoc]
      exact hf2
    · have hi' : i.toNat = l := by omega
      rw [hi', List.take_of_length_le (by omega), List.drop_eq_nil_of_le (by omega), List.nil_append] at hf'
      refine hR w' hs ⟨by simpa using hlen, .inr ⟨k, z, rfl, hf', by simpa using hc⟩⟩ (by simpa [rowBlk] using he)

/-! ### frames compared -/
theorem sameFrame_ok {w : World} {f0 f1 f2 g0 g1 g2 : Int} {fb gb : Option Addr} {fl fc gl gc : Nat} {u v : List Int} {R : Bool → World → Prop} (hu : Bs w fb fl fc u) (hv : Bs w gb gl gc v) (hl : fl ≤ 281474976710656)
    (e0 : f0 = g0) (e1 : f1 = g1) (e2 : f2 = g2) (e3 : u = v) (hR : ∀ w', Ext [] w w' → R true w') : framelaw_SameFrame.Call f0 f1 f2 fb fl fc g0 g1 g2 gb gl gc w R := by
  subst e0; subst e1; subst e2; subst e3
  apply framelaw_SameFrame.sound
  unfold framelaw_SameFrame.B0
  refine New.mk fun f w1 hf hs1 ho1 he1 => New.mk fun g w2 hg hs2 ho2 he2 => ?_
  have ho1' := he2.own ho1 (by simp)
  refine LdI.mk ho1' rfl (LdI.mk ho2 rfl (Bm.pos (by simp) (LdI.mk ho1' rfl (LdI.mk ho2 rfl (Bm.pos (by simp) (LdI.mk ho1' rfl (LdI.mk ho2 rfl (Bm.pos (by simp) (LdL.mk ho1' rfl (LdL.mk ho2 rfl ?_))))))))))
  have hE := he1.trans he2
  refine sameBytes_ok (hu.ext0 hE).rd (hv.ext0 hE).rd hu.1.symm hv.1.symm hl fun w3 he3 _ => ?_
  have := hR w3 (hE.trans he3)
  simpa using this

theorem sameAddr_ok {w : World} {p q : Nat} {s : LinkS} {n : Int} {R : Bool → World → Prop} (hp : RealAt w p s) (hq : ModAt w q s) (hw : s.Wf n) (hR : R true w) : framelaw_SameAddr.Call (some ⟨p, 0, none⟩) (some ⟨q, 0, none⟩) w R := by
  apply framelaw_SameAddr.sound
  unfold framelaw_SameAddr.B0
  refine realAddr_ok hp hw (modAddr_ok hq ?_)
  simpa using hR
theorem sameStats_ok {w : World} {p q : Nat} {s : LinkS} {R : Bool → World → Prop} (hp : RealAt w p s) (hq : ModAt w q s) (hR : ∀ w', Ext [] w w' → R true w') : framelaw_SameStats.Call (some ⟨p, 0, none⟩) (some ⟨q, 0, none⟩) w R := by
  apply framelaw_SameStats.sound
  unfold framelaw_SameStats.B0
  refine realStats_ok hp fun w1 he1 => NewSet.mk rfl rfl fun a w3 ha hs3 ho3 he3 => ?_
  have E3 := he1.trans he3
  refine modStats_ok (E3.own hq (by simp)) fun w4 he4 => NewSet.mk rfl rfl fun b w6 hb hs6 ho6 he6 => ?_
  have E6 := (E3.trans he4).trans he6
  have ho3' := (he4.trans he6).own ho3 (by simp)
  refine LdI.mk ho3' rfl (LdI.mk ho6 rfl (Bm.pos (by simp) (LdI.mk ho3' rfl (LdI.mk ho6 rfl (Bm.pos (by simp) (LdI.mk ho3' rfl (LdI.mk ho6 rfl (Bm.pos (by simp) (LdI.mk ho3' rfl (LdI.mk ho6 rfl ?_))))))))))
  have := hR w6 E6
  simpa using this
theorem alike_ok {w : World} {p q : Nat} {s : LinkS} {n : Int} {R : Bool → World → Prop} (hp : RealAt w p s) (hq : ModAt w q s) (hw : s.Wf n) (hn : n ≤ 1048576) (hR : ∀ w', Ext [] w w' → R true w') : framelaw_Alike.Call (some ⟨p, 0, none⟩) (some ⟨q, 0, none⟩) w R := by
  apply framelaw_Alike.sound
  unfold framelaw_Alike.B0
  refine sameAddr_ok hp hq hw (Bm.neg rfl (sameStats_ok hp hq fun w2 he2 => Bm.neg rfl (linkCheck_ok (he2.own hp (by simp)) hw hn (hR w2 he2))))

/-! ### the law's state -/
structure LawS where
  P : Nat → Nat
  Q : Nat → Nat
  S : Nat → LinkS
  lb : Option Addr
  ll : Nat
  lc : Nat
  last : List Int
  d : Int
  sr : Int
  t : Int
  pb : Option Addr
  pl : Nat
  pc : Nat
  pay : List Int
  mb : Option Addr
  n : Nat
  mc : Nat
  mine : List Value
  kb : Option Addr
  kc : Nat
  mark : List Value
def pt (k : Nat) : Value := .pointer (some ⟨k, 0, none⟩)
def LawS.cells (σ : LawS) : Array Value := #[pt (σ.P 0), pt (σ.P 1), pt (σ.Q 0), pt (σ.Q 1), .slice σ.lb σ.ll σ.lc, .int .i64 σ.d, .int .i64 σ.sr, .int .i64 σ.t, .slice σ.pb σ.pl σ.pc, .slice σ.mb σ.n σ.mc, .slice σ.kb σ.n σ.kc]
abbrev T_row : TypeId := 32
def Kept (w : World) (mine mark : List Value) : Prop :=
  mine.length = mark.length ∧ ∀ (j : Nat) x, mine[j]? = some x → ∃ b l c b' l' c' v, x = .slice b l c ∧ mark[j]? = some (.slice b' l' c') ∧ Bs w b l c v ∧ Bs w b' l' c' v ∧ l ≤ 1000
theorem Kept.extT {w w' : World} {mine mark : List Value} {S : List Nat} (h : Kept w mine mark) (he : Ext S w w') (hs : NoB w S) : Kept w' mine mark := by
  refine ⟨h.1, fun j x hx => ?_⟩
  obtain ⟨b, l, c, b', l', c', v, h1, h2, h3, h4, h5⟩ := h.2 j x hx
  exact ⟨b, l, c, b', l', c', v, h1, h2, h3.extT he hs, h4.extT he hs, h5⟩

/-- The law keeps a slice: what Keep leaves. -/
theorem keep_ok {w : World} {a : Nat} {σ : LawS} {b : Option Addr} {l : Nat} {v : List Int} {R : World → Prop} (ho : Own w a σ.cells T_framelaw_World) (hm : Row w σ.mb σ.n σ.mc 1 T_row σ.mine) (hk : Row w σ.kb σ.n σ.kc 1 T_row σ.mark)
    (hap : ∀ k ∈ rowBlk σ.mb, k ∉ rowBlk σ.kb) (hb : Bs w b l l v) (hl : l ≤ 1000) (hn : σ.n ≤ 1048576)
    (hR : ∀ w' mb mc kb kc r, Own w' a ({ σ with mb := mb, n := σ.n + 1, mc := mc, mine := σ.mine ++ [.slice b l l], kb := kb, kc := kc, mark := σ.mark ++ [.slice (some ⟨r, 0, none⟩) l l] } : LawS).cells T_framelaw_World →
      Row w' mb (σ.n + 1) mc 1 T_row (σ.mine ++ [.slice b l l]) → Row w' kb (σ.n + 1) kc 1 T_row (σ.mark ++ [.slice (some ⟨r, 0, none⟩) l l]) → (∀ k ∈ rowBlk mb, k ∉ rowBlk kb) →
      (∀ k ∈ rowBlk mb, k ∈ rowBlk σ.mb ∨ w.heap.size ≤ k) → (∀ k ∈ rowBlk kb, k ∈ rowBlk σ.kb ∨ w.heap.size ≤ k) →
      Bs w' b l l (v.map spoilV) → Bs w' (some ⟨r, 0, none⟩) l l (v.map spoilV) → Ext (a :: (rowBlk b ++ (rowBlk σ.mb ++ rowBlk σ.kb))) w w' → R w') : framelaw_Keep.Call (some ⟨a, 0, none⟩) b l l w R := by
  apply framelaw_Keep.sound
  unfold framelaw_Keep.B0
  rw [slBase0]
  have e0 : ((l : Nat) : Int).toNat - ((0 : Nat) : Int).toNat = l := by omega
  rw [e0]
  -- typed apart
  have ha := ho.lt
  have hmlt := hm.lt
  have hklt := hk.lt
  have rowT : ∀ {w' : World} {b' : Option Addr} {l' c' : Nat} {vs : List Value} {k : Nat}, Row w' b' l' c' 1 T_row vs → k ∈ rowBlk b' → ∃ cs, Own w' k cs T_row := by
    intro w' b' l' c' vs k hr hkk
    rcases hr.2.2 with ⟨rfl, _⟩ | ⟨k', cs, rfl, hoo, _⟩
    · simp [rowBlk] at hkk
    · simp [rowBlk] at hkk
      subst hkk
      exact ⟨cs, hoo⟩
  have bT : ∀ k ∈ rowBlk b, ∃ cs, Own w k cs T_uint8 := by
    intro k hkk
    rcases hb.2 with ⟨rfl, _⟩ | ⟨k', z, rfl, hf, _⟩
    · simp [rowBlk] at hkk
    · simp [rowBlk] at hkk
      subst hkk
      exact ⟨_, hf.1⟩
  have nbm : ∀ k ∈ rowBlk σ.mb, k ∉ rowBlk b := fun k h1 h2 => by
    obtain ⟨_, q1⟩ := rowT hm h1
    obtain ⟨_, q2⟩ := bT k h2
    exact q1.ne_type q2 (by decide) rfl
  have nbk : ∀ k ∈ rowBlk σ.kb, k ∉ rowBlk b := fun k h1 h2 => by
    obtain ⟨_, q1⟩ := rowT hk h1
    obtain ⟨_, q2⟩ := bT k h2
    exact q1.ne_type q2 (by decide) rfl
  have nba : a ∉ rowBlk b := fun h2 => by
    obtain ⟨_, q2⟩ := bT a h2
    exact ho.ne_type q2 (by decide) rfl
  have nma : a ∉ rowBlk σ.mb := fun h2 => by
    obtain ⟨_, q2⟩ := rowT hm h2
    exact ho.ne_type q2 (by decide) rfl
  have nka : a ∉ rowBlk σ.kb := fun h2 => by
    obtain ⟨_, q2⟩ := rowT hk h2
    exact ho.ne_type q2 (by decide) rfl
  refine ⟨by omega, spoil_ok hb (by omega) fun w1 hs1 hb1 he1 => copyBytes_ok hb1.rd hb1.1.symm (by omega) fun r w2 hr hs2 hf2 he2 => ?_⟩
  simp only [Pn, add_mk, Nat.zero_add]
  have ho2 : Own w2 a σ.cells T_framelaw_World := he2.own (he1.own ho nba) (by simp)
  have hm2 : Row w2 σ.mb σ.n σ.mc 1 T_row σ.mine := (hm.ext he1 nbm).ext he2 (by simp)
  have hk2 : Row w2 σ.kb σ.n σ.kc 1 T_row σ.mark := (hk.ext he1 nbk).ext he2 (by simp)
  have hb2 := hb1.ext0 he2
  refine LdL.mk ho2 rfl (New.mk fun n3 w3 hn3 hs3 ho3 he3 => ?_)
  refine Vc.Append.mk (vs := σ.mine) (news := [.slice b l l]) (hm2.ext he3 (by simp)) (CellsAt.own ho3 (fun j v hj => by
    match j, hj with
    | 0, hj => simpa using hj)) rfl rfl rfl (by omega) (by omega) fun mb mc w4 hr4 he4 hg4 => ?_
  have ho4 : Own w4 a σ.cells T_framelaw_World := he4.own (he3.own ho2 (by simp)) nma
  refine Sts.mk ho4 (by simp [LawS.cells]) rfl fun w5 hs5 ho5 he5 => LdL.mk ho5 rfl (New.mk fun n6 w6 hn6 hs6 ho6 he6 => ?_)
  have hz4 := he4.size
  have hmb4 : ∀ k ∈ rowBlk mb, k ∈ rowBlk σ.mb ∨ w.heap.size ≤ k := fun k hkk => by
    rcases hg4 k hkk with h | h
    · exact .inl h
    · exact .inr (by omega)
  have amb : a ∉ rowBlk mb := fun h => by
    obtain ⟨_, q⟩ := rowT hr4 h
    exact ho4.ne_type q (by decide) rfl
  have hk5 : Row w6 σ.kb σ.n σ.kc 1 T_row σ.mark := ((((hk2.ext he3 (by simp)).ext he4 (fun k h1 h2 => hap k h2 h1)).ext he5 (fun k h1 h2 => by simp at h2; subst h2; exact nka h1))).ext he6 (by simp)
  refine Vc.Append.mk (vs := σ.mark) (news := [.slice (some ⟨r, 0, none⟩) l l]) hk5 (CellsAt.own ho6 (fun j v hj => by
    match j, hj with
    | 0, hj => simpa using hj)) rfl rfl rfl (by omega) (by omega) fun kb kc w7 hr7 he7 hg7 => ?_
  have ho7 := he7.own (he6.own ho5 (by simp)) nka
  refine Sts.mk ho7 (by simp [LawS.cells, size_putArr]) rfl fun w8 hs8 ho8 he8 => ?_
  have hz7 := he7.size
  have akb : a ∉ rowBlk kb := fun h => by
    obtain ⟨_, q⟩ := rowT hr7 h
    exact ho7.ne_type q (by decide) rfl
  have hkb7 : ∀ k ∈ rowBlk kb, k ∈ rowBlk σ.kb ∨ w.heap.size ≤ k := fun k hkk => by
    rcases hg7 k hkk with h | h
    · exact .inl h
    · exact .inr (by omega)
  have hmblt := hr4.lt
  have apart' : ∀ k ∈ rowBlk mb, k ∉ rowBlk kb := fun k h1 h2 => by
    have h3 := hmblt k h1
    rcases hg7 k h2 with h | h
    · rcases hg4 k h1 with h' | h'
      · exact hap k h' h
      · have := hklt k h
        omega
    · omega
  have hmk : ∀ k ∈ rowBlk mb, k ∉ rowBlk σ.kb := fun k h1 h2 => by
    rcases hg4 k h1 with h' | h'
    · exact hap k h' h2
    · have := hklt k h2
      omega
  have brk : ∀ k, b = some ⟨k, 0, none⟩ → k ∈ rowBlk b := fun k e => by rw [e]; simp [rowBlk]
  have bmb : ∀ k ∈ rowBlk b, k < w.heap.size := fun k hkk => by
    obtain ⟨_, q⟩ := bT k hkk
    exact q.lt
  refine hR w8 mb mc kb kc r ho8 ?_ ?_ apart' hmb4 hkb7 ?_ ?_ ?_
  · exact (((hr4.ext he5 (fun k h1 h2 => by simp at h2; subst h2; exact amb h1)).ext he6 (by simp)).ext he7 hmk).ext he8 (fun k h1 h2 => by simp at h2; subst h2; exact amb h1)
  · exact hr7.ext he8 (fun k h1 h2 => by simp at h2; subst h2; exact akb h1)
  · refine ((((hb2.ext0 he3).ext he4 (fun k e h2 => nbm k h2 (brk k e))).ext he5 (fun k e h2 => by simp at h2; subst h2; exact nba (brk k e))).ext0 he6).ext he7 (fun k e h2 => nbk k h2 (brk k e)) |>.ext he8 (fun k e h2 => by simp at h2; subst h2; exact nba (brk k e))
  · have hlen : (v.map spoilV).length = l := by rw [List.length_map]; exact hb.1.symm
    have hbr : Bs w2 (some ⟨r, 0, none⟩) l l (v.map spoilV) := by
      have := hf2.bs
      rwa [hlen] at this
    have hrz : w.heap.size ≤ r := by omega
    have f1 : r ∉ rowBlk σ.mb := fun h => by have := hmlt r h; omega
    have f2 : r ∉ rowBlk σ.kb := fun h => by have := hklt r h; omega
    have er : ∀ k, (some ⟨r, 0, none⟩ : Option Addr) = some ⟨k, 0, none⟩ → k = r := fun k e => by
      simp only [Option.some.injEq, Addr.mk.injEq] at e
      omega
    refine ((((hbr.ext0 he3).ext he4 (fun k e h2 => by rw [er k e] at h2; exact f1 h2)).ext he5 (fun k e h2 => by rw [er k e] at h2; simp at h2; omega)).ext0 he6).ext he7 (fun k e h2 => by rw [er k e] at h2; exact f2 h2) |>.ext he8 (fun k e h2 => by rw [er k e] at h2; simp at h2; omega)
  · have m1 : ∀ x ∈ rowBlk b, x ∈ a :: (rowBlk b ++ (rowBlk σ.mb ++ rowBlk σ.kb)) := fun x hx => by simp [hx]
    have m2 : ∀ x ∈ rowBlk σ.mb, x ∈ a :: (rowBlk b ++ (rowBlk σ.mb ++ rowBlk σ.kb)) := fun x hx => by simp [hx]
    have m3 : ∀ x ∈ rowBlk σ.kb, x ∈ a :: (rowBlk b ++ (rowBlk σ.mb ++ rowBlk σ.kb)) := fun x hx => by simp [hx]
    have m0 : ∀ x ∈ [a], x ∈ a :: (rowBlk b ++ (rowBlk σ.mb ++ rowBlk σ.kb)) := fun x hx => by simp at hx; simp [hx]
    exact ((((((he1.mono (fun x hx _ => m1 x hx)).trans he2.nil).trans he3.nil).trans (he4.mono (fun x hx _ => m2 x hx))).trans (he5.mono (fun x hx _ => m0 x hx))).trans he6.nil).trans (he7.mono (fun x hx _ => m3 x hx)) |>.trans (he8.mono (fun x hx _ => m0 x hx))
end Go.Proofs.Qxb6500423a
