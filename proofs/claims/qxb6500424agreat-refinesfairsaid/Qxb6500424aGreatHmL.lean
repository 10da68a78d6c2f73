/-
  hostlaw: from a host's answer to the look.
-/
import Derived.Test.Qxb6500424aGreatHmK
import Derived.Test.Qxb6500424aGreatHrF
set_option linter.unusedVariables false
set_option linter.unusedSimpArgs false
open Go.Vc
namespace Go.Proofs.Qxb6500424aGreat
section
variable {T : Int} {H : Nat → HS} {W : List FL} {G G' : List GE} {X X' : Nat → CS} {Lg Lg' : List LE} {M M' : Nat → List DG} {c d i : Nat} {h' : HS} {f : FL} {g : DG}
theorem FrOk.len {n : Nat} (h : PW T H W G X Lg M) (hf : FrOk T M f c n i g) : f.raw.length ≤ 1000 := by
  have hk := ((h.lk c hf.c3).ok g (List.mem_of_getElem? hf.at_)).1
  have hD := DG.len hk
  have hl : (g.fr c n i).length ≤ 1000 := by
    unfold DG.fr
    rw [Fm.encFrame_length]
    have := pktF_len (src := (c : Int) + 1) (dst := g.d) (id := (n : Int) % 256) (D := g.D c) (by omega) i hf.il
    omega
  cases q : f.fl with
  | false => rw [hf.raw q]; exact hl
  | true =>
    obtain ⟨j, x, y, _, _, _, _, e⟩ := hf.flip q
    rw [e, List.length_set]
    exact hl
theorem inputH_len (h : HS) (raw : List Int) : (inputH h raw).2.length ≤ 9 := by
  unfold inputH
  split
  · simp
  split
  · simp
  unfold inIpH
  split
  · simp
  split
  · simp
  split
  · simp
  unfold inTopH
  have h1 := sendAllH_len (inSegT h.clk (Ip.inF h.addr h.A (Fm.decR h.addr raw).pay).src (decHd (Ip.inF h.addr h.A (Fm.decR h.addr raw).pay).data, (Ip.inF h.addr h.A (Fm.decR h.addr raw).pay).data.drop 8) h.t).2.1 (dropH { { h with L := h.L.bump (Fm.decR h.addr raw).cls, A := (Ip.inF h.addr h.A (Fm.decR h.addr raw).pay).tab } with t := (inSegT h.clk (Ip.inF h.addr h.A (Fm.decR h.addr raw).pay).src (decHd (Ip.inF h.addr h.A (Fm.decR h.addr raw).pay).data, (Ip.inF h.addr h.A (Fm.decR h.addr raw).pay).data.drop 8) h.t).1 } (inSegT h.clk (Ip.inF h.addr h.A (Fm.decR h.addr raw).pay).src (decHd (Ip.inF h.addr h.A (Fm.decR h.addr raw).pay).data, (Ip.inF h.addr h.A (Fm.decR h.addr raw).pay).data.drop 8) h.t).2.2)
  have h2 := inSeg_len h.clk (Ip.inF h.addr h.A (Fm.decR h.addr raw).pay).src (decHd (Ip.inF h.addr h.A (Fm.decR h.addr raw).pay).data, (Ip.inF h.addr h.A (Fm.decR h.addr raw).pay).data.drop 8) h.t
  show (sendAllH _ (inSegT h.clk (Ip.inF h.addr h.A (Fm.decR h.addr raw).pay).src (decHd (Ip.inF h.addr h.A (Fm.decR h.addr raw).pay).data, (Ip.inF h.addr h.A (Fm.decR h.addr raw).pay).data.drop 8) h.t).2.1).2.length ≤ 9
  exact Nat.le_trans h1 (by omega)
theorem inputH_K (h : HS) (raw : List Int) (hK : Sk.SkOk h.t.K) : ∃ s, KStep s h.t.K (inputH h raw).1.t.K := by
  have rf : ∃ s, KStep s h.t.K h.t.K := ⟨0, KStep.refl hK⟩
  unfold inputH
  split
  · exact rf
  split
  · exact rf
  unfold inIpH
  split
  · exact rf
  split
  · exact rf
  split
  · exact rf
  unfold inTopH
  rw [(sendAllH_t _ _).1]
  exact KStep.seg _ _ _ hK
end
section
variable {w0 w w' : World} {a c d : Nat} {m m' : LH} {r r' : LR} {k k' : LC} {n n' : Int} {G' : List GE} {X' : Nat → CS} {Lg' : List LE} {M' : Nat → List DG} {h' : HS} {Fs : List (List Int)} {nn : Nat}
def K0of (m : LH) : Nat → Sk.SkS := fun c => (m.H c).t.K
theorem Good.mid (hg : Good n m r k) : Mid n m r k (K0of m) := by
  obtain ⟨G, X, Lg, M, pw, rs, gb⟩ := hg.pw
  refine ⟨⟨G, X, Lg, M, pw, look_same pw.sys.inv.ends ⟨by rw [rs.len]; exact Nat.le_refl _, fun i E g2 h1 h2 => (rs.end_ i E g2 h1 h2).pend⟩ rs.len, gb⟩, hg.hs, hg.tw, fun c hc => (hg.hs.ok c hc).sk, hg.seen, hg.top, fun c hc => ⟨0, KStep.refl (hg.hs.ok c hc).sk⟩, fun c hc => ⟨by rw [hg.lost c hc]; omega, fun z => by rw [hg.lost c hc] at z; omega⟩, hg.out, hg.fl, hg.rdy, hg.rlt, hg.cnt⟩
theorem mid_host (hg : Good n m r k) (hd : d < 3) (pw : PW k.tk (updS m.H d h') (r.W.map (·.1)) G' X' Lg' M') (an : Ans k.tk d (m.H d) h' Fs M' nn) (lk : LookI G' X' r'.del (r'.N.map (·.E))) (gb : GB0 n' G') (hok : HsOk n' h') (hks : ∃ s, KStep s (m.H d).t.K h'.t.K) (hwhy : WT h'.t) (hn : n ≤ n')
    (hH : m'.H = updS m.H d h') (hJ : m'.qu = true → m.qu = true ∧ m'.J = updS m.J d h') (hW : ∀ e ∈ r'.W, e ∈ r.W ∨ ∃ F ∈ Fs, e.1 = ⟨F, 0, false⟩) (hsn : r'.sn = r.sn) (hR : r'.R = r.R)
    (hk1 : k'.top = k.top ∧ k'.lost = k.lost ∧ k'.fl = k.fl ∧ k'.tk = k.tk) (hk2 : k'.out = updI k.out d (k.out d + (nFirst Fs : Int))) (cnt : Cnt n' r' k') : Mid n' m' r' k' (K0of m) := by
  obtain ⟨t1, t2, t3, t4⟩ := hk1
  refine ⟨⟨G', X', Lg', M', ?_, lk, gb⟩, ⟨fun c hc => ?_, fun c hc => ?_⟩, fun q c hc => ?_, fun c hc => (hg.hs.ok c hc).sk, fun c hc => by rw [hsn]; exact hg.seen c hc, fun c hc => by rw [t1]; exact hg.top c hc, fun c hc => ?_, fun c hc => ?_, fun c hc => ?_, by rw [t3]; exact hg.fl, fun c hc => by rw [hR]; exact hg.rdy c hc, by rw [hR]; exact hg.rlt, cnt⟩
  · rw [t4, hH]
    refine pw.wire fun f hf => ?_
    obtain ⟨e, he, rfl⟩ := List.mem_map.1 hf
    rcases hW e he with z | ⟨F, hF, z⟩
    · exact pw.fr e.1 (List.mem_map.2 ⟨e, z, rfl⟩)
    · rw [z]; exact an.fr F hF
  · rw [hH]
    by_cases e : c = d
    · rw [e, updS_at]; exact hok
    · rw [updS_ne e]; exact (hg.hs.ok c hc).mono hn
  · rw [hH]
    by_cases e : c = d
    · rw [e, updS_at]; exact hwhy
    · rw [updS_ne e]; exact hg.hs.why c hc
  · obtain ⟨q1, q2⟩ := hJ q
    rw [q2, hH]
    by_cases e : c = d
    · rw [e, updS_at, updS_at]
    · rw [updS_ne e, updS_ne e]; exact hg.tw q1 c hc
  · rw [hH]
    by_cases e : c = d
    · rw [e, updS_at]; exact hks
    · rw [updS_ne e]; exact ⟨0, KStep.refl (hg.hs.ok c hc).sk⟩
  · rw [t2, hH]
    have := hg.lost c hc
    by_cases e : c = d
    · subst e
      rw [updS_at, this]
      exact ⟨an.lost.1, an.lost.2.1⟩
    · rw [updS_ne e]
      exact ⟨by omega, fun z => by omega⟩
  · rw [hk2, hH]
    have := hg.out c hc
    by_cases e : c = d
    · subst e
      have := an.cr
      rw [updS_at, updI_at]
      omega
    · rw [updS_ne e, updI_ne e]
      exact this
/-- A list that waits while the twin's is kept. -/
theorem own2_ok {ba bb : Option Addr} {la ca lb cb lo lo2 : Nat} {F F2 : List (List Int × Nat)} {R : World → Prop} (hL : LawAt w0 w a m r k) (fa : FrL w ba la ca lo F) (fb : FrL w bb lb cb lo2 F2) (hlo : w0.heap.size ≤ lo2) (hs : ∀ e ∈ F, e.2 < lo2) (hsb : ∀ y ∈ rowBlk ba, y < lo2) (hl : lb ≤ 1000) (hM : r.M.n + lb ≤ 4398046511104) (hO : r.O.n ≤ 4398046511104)
    (na : ∀ e ∈ F, ¬ U8F r e.2) (nab : ∀ y ∈ rowBlk ba, ¬ F81 r y) (nb : ∀ e ∈ F2, ¬ U8F r e.2 ∧ e.1.length ≤ 1000000) (nbb : ∀ y ∈ rowBlk bb, ¬ F81 r y)
    (hR : ∀ r' w', LawAt w0 w' a m r' k → KeepR r r' → r'.M.n ≤ r.M.n + lb → r'.O.n ≤ r.O.n + 1 → FrL w' ba la ca lo F → (∀ e ∈ F, ¬ U8F r' e.2) → (∀ y ∈ rowBlk ba, ¬ F81 r' y) → OwnedR w w' a r r' bb F2 → R w') : hostlaw_World_OwnAll.Call (some ⟨a, 0, none⟩) bb lb cb w R := by
  refine ownAll_ok hL fb hlo hl hM hO nb nbb fun r' w2 h2 m2 o2 ow => ?_
  refine hR r' w2 h2 ow.kr m2 o2 ⟨fa.row.ext ow.ext (fun y hy z => ?_), fun e he => (fa.dat e he).ext ow.ext (fun z => ?_), fa.asc, fa.ge, fa.blk, fa.cap⟩ (fun e he z => ?_) (fun y hy z => ?_) ow
  · obtain ⟨cs, oy⟩ := fa.row.ty hy
    rcases List.mem_append.1 z with z | z
    · obtain ⟨e, he, rfl⟩ := List.mem_map.1 z
      have := fb.ge e he
      have := hsb _ hy
      omega
    rcases List.mem_append.1 z with z | z
    · have := fb.blk y z
      have := hsb _ hy
      omega
    rcases List.mem_cons.1 z with z | z
    · exact Own.ne_type oy hL.own (by decide) z
    rcases List.mem_append.1 z with z | z
    · exact nab y hy (.inl z)
    · obtain ⟨cs2, o2⟩ := hL.r.O.row.ty z
      exact Own.ne_type oy o2 (by decide) rfl
  · have oy := (fa.dat e he).1
    rcases List.mem_append.1 z with z | z
    · obtain ⟨e2, he2, z⟩ := List.mem_map.1 z
      have := fb.ge e2 he2
      have := hs e he
      omega
    rcases List.mem_append.1 z with z | z
    · obtain ⟨cs2, o2⟩ := fb.row.ty z
      exact Own.ne_type oy o2 (by decide) rfl
    rcases List.mem_cons.1 z with z | z
    · exact Own.ne_type oy hL.own (by decide) z
    rcases List.mem_append.1 z with z | z
    · obtain ⟨cs2, o2⟩ := hL.r.M.row.ty z
      exact Own.ne_type oy o2 (by decide) rfl
    · obtain ⟨cs2, o2⟩ := hL.r.O.row.ty z
      exact Own.ne_type oy o2 (by decide) rfl
  · rcases ow.u8 e.2 z with z | ⟨e2, he2, z⟩ | z
    · exact na e he z
    · have := fb.ge e2 he2
      have := hs e he
      omega
    · have := (fa.dat e he).lt; omega
  · rcases ow.f81 y z with z | z | z
    · exact nab y hy z
    · have := fb.blk y z
      have := hsb y hy
      omega
    · have := fa.row.lt y hy; omega
theorem stDel {lo p : Nat} {N : List PEM} {del : Nat → Int} {v : Int} {K : World → Prop} (h : NetAt lo w p N del) (hd : d < 3) (hK : ∀ w', NetAt lo w' p N (updI del d v) → ExtL lo w w' [T_hostm_Net] → w'.heap.size = w.heap.size → K w') : Sts [.int .i64 v] (Addr.add (Addr.add ⟨p, 0, none⟩ 1) ((d : Int).toNat * 1)) 0 w K := by
  rw [addC]
  obtain ⟨b, l, cc, o, rr⟩ := h.ex
  refine Sts.mk o (by simp; omega) rfl fun w' hs o' he => ?_
  have ty : Tys w [p] [T_hostm_Net] := Tys.one o
  have ea : putArr #[Value.slice b l cc, .int .i64 (del 0), .int .i64 (del 1), .int .i64 (del 2)] (1 + d) [.int .i64 v] = #[.slice b l cc, .int .i64 (updI del d v 0), .int .i64 (updI del d v 1), .int .i64 (updI del d v 2)] := by
    rcases (show d = 0 ∨ d = 1 ∨ d = 2 by omega) with rfl | rfl | rfl <;> rfl
  rw [ea] at o'
  refine hK w' ⟨⟨b, l, cc, o', rowT rr he ty (by decide)⟩, fun x hx => ⟨rowT (h.S x hx).row he ty (by decide), (h.S x hx).isB⟩, fun x hx => ⟨rowT (h.R x hx).row he ty (by decide), (h.R x hx).isB⟩, GeC.of o' rfl h.ge.1 (h.ge.row o rfl)⟩ (ExtL.of he ty (fun x hx => by simp at hx; have := h.ge.1; omega)) hs
end
end Go.Proofs.Qxb6500424aGreat
