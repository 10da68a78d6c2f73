/-
  hostlaw: the law's world in fair weather.
-/
import Derived.Test.Qxb6500424aGreatHmO
import Derived.Test.Qxb6500424aGreatHuM
set_option linter.unusedVariables false
set_option linter.unusedSimpArgs false
open Go.Vc
namespace Go.Proofs.Qxb6500424aGreat
/-- What fair weather is told by: whether it held, what was spilt and lost so far. -/
structure Zf where
  ok : Prop
  sp : Int
  lost : Nat → Int
  xs : List (Nat × Array Value)
def Zf.on (Z : Zf) (m : LH) (k : LC) : Prop := Z.ok ∧ k.sp = Z.sp ∧ ∀ c, c < 3 → (m.H c).lost = Z.lost c
def NF (N : List PE) : Prop := ∀ (j : Nat) E, N[j]? = some E → ¬ (E.st = 4 ∧ E.why ≠ 0)
def Fwn (T : Int) (H : Nat → HS) (W : List FL) (G : List GE) (X : Nat → CS) (M : Nat → List DG) : Prop := ∃ i, FW T T (fun c => (H c).t) W [] G X M i
structure GoodZ (Z : Zf) (n : Int) (m : LH) (r : LR) (k : LC) : Prop extends Good n m r k where
  zb : Z.ok → Z.sp ≤ k.sp ∧ ∀ c, c < 3 → Z.lost c ≤ (m.H c).lost
  zx : ∀ e ∈ Z.xs, e ∈ r.x
  fz : Z.on m k → ∃ G X Lg M, PW k.tk m.H (r.W.map (·.1)) G X Lg M ∧ Rest G X (r.N.map (·.E)) ∧ GB0 n G ∧ Fwn k.tk m.H (r.W.map (·.1)) G X M ∧ NF (r.N.map (·.E))
structure MidZ (Z : Zf) (n : Int) (m : LH) (r : LR) (k : LC) (K0 : Nat → Sk.SkS) : Prop extends Mid n m r k K0 where
  zb : Z.ok → Z.sp ≤ k.sp ∧ ∀ c, c < 3 → Z.lost c ≤ (m.H c).lost
  zx : ∀ e ∈ Z.xs, e ∈ r.x
  fz : Z.on m k → ∃ G X Lg M, PW k.tk m.H (r.W.map (·.1)) G X Lg M ∧ LookI G X r.del (r.N.map (·.E)) ∧ GB0 n G ∧ Fwn k.tk m.H (r.W.map (·.1)) G X M ∧ NF (r.N.map (·.E))
def Z0 : Zf := ⟨False, 0, fun _ => 0, []⟩
section
variable {w0 w w' : World} {a c d : Nat} {m m' : LH} {r r' : LR} {k k' : LC} {n n' : Int} {Z : Zf} {K0 : Nat → Sk.SkS} {G G' : List GE} {X X' : Nat → CS} {Lg Lg' : List LE} {M M' : Nat → List DG} {N N' : List PE} {T : Int} {H : Nat → HS} {W : List FL}
theorem Good.z0 (h : Good n m r k) : GoodZ Z0 n m r k := ⟨h, fun z => z.elim, fun e he => (by cases he), fun z => z.1.elim⟩
theorem nf_step (h : NF N) (ws : Wsn G X N N') (wy : Wy G X) : NF N' := fun j E' hj ⟨s, v⟩ => by
  rcases ws j E' hj with ⟨E, a, b, c⟩ | ⟨g, a, b, c⟩
  · exact h j E a ⟨by rw [← c]; exact s, by rw [← b]; exact v⟩
  · rw [wy j g a b] at c
    exact v c
theorem GoodZ.ghost (h : GoodZ Z n m r k) : ∃ G X Lg M, PW k.tk m.H (r.W.map (·.1)) G X Lg M ∧ Rest G X (r.N.map (·.E)) ∧ GB0 n G ∧ (Z.on m k → Fwn k.tk m.H (r.W.map (·.1)) G X M ∧ NF (r.N.map (·.E))) := by
  by_cases z : Z.on m k
  · obtain ⟨G, X, Lg, M, a, b, c, d⟩ := h.fz z
    exact ⟨G, X, Lg, M, a, b, c, fun _ => d⟩
  · obtain ⟨G, X, Lg, M, a, b, c⟩ := h.pw
    exact ⟨G, X, Lg, M, a, b, c, fun y => absurd y z⟩
theorem GoodZ.mono (h : GoodZ Z n m r k) (hn : n ≤ n') : GoodZ Z n' m r k :=
  ⟨h.toGood.mono hn, h.zb, h.zx, fun z => by
    obtain ⟨G, X, Lg, M, a, b, c, d⟩ := h.fz z
    exact ⟨G, X, Lg, M, a, b, c.mono hn, d⟩⟩
theorem GoodZ.mid (h : GoodZ Z n m r k) : MidZ Z n m r k (K0of m) :=
  ⟨h.toGood.mid, h.zb, h.zx, fun z => by
    obtain ⟨G, X, Lg, M, pw, rs, c, d⟩ := h.fz z
    exact ⟨G, X, Lg, M, pw, look_same pw.sys.inv.ends ⟨by rw [rs.len]; exact Nat.le_refl _, fun i E g2 h1 h2 => (rs.end_ i E g2 h1 h2).pend⟩ rs.len, c, d⟩⟩
/-- A world with ghosts at hand. -/
theorem Good.setZ (h : Good n m r k) (zb : Z.ok → Z.sp ≤ k.sp ∧ ∀ c, c < 3 → Z.lost c ≤ (m.H c).lost) (zx : ∀ e ∈ Z.xs, e ∈ r.x) (pw : PW k.tk m.H (r.W.map (·.1)) G X Lg M) (rs : Rest G X (r.N.map (·.E))) (gb : GB0 n G) (fw : Z.on m k → Fwn k.tk m.H (r.W.map (·.1)) G X M ∧ NF (r.N.map (·.E))) : GoodZ Z n m r k :=
  ⟨h, zb, zx, fun z => ⟨G, X, Lg, M, pw, rs, gb, fw z⟩⟩
theorem lookZ {R : Bool → World → Prop} (hL : LawAt w0 w a m r k) (hM : MidZ Z n m r k K0) (hn : n ≤ 4398046510000)
    (hR : ∀ r' k' w', LawAt w0 w' a m r' k' → GoodZ Z (n + 50) m r' k' → k'.sp = k.sp → R true w') : hostlaw_World_Look.Call (some ⟨a, 0, none⟩) w R := by
  by_cases z : Z.on m k
  · obtain ⟨G, X, Lg, M, pw, hI, hG, fw, nf⟩ := hM.fz z
    refine look_okX hL hM.toMid pw hI hG hn fun r' k' w' h1 g1 ex rst eW ⟨es, et⟩ ws => hR r' k' w' h1 ?_ es
    refine g1.setZ (by rw [es]; exact hM.zb) (by rw [ex]; exact hM.zx) (by rw [et, eW]; exact pw) rst (hG.mono (by omega)) fun _ => ?_
    obtain ⟨i, f⟩ := fw
    exact ⟨by rw [et, eW]; exact ⟨i, f⟩, nf_step nf ws f.wy⟩
  · obtain ⟨G, X, Lg, M, pw, hI, hG⟩ := hM.pw
    refine look_okX hL hM.toMid pw hI hG hn fun r' k' w' h1 g1 ex rst eW ⟨es, et⟩ ws => hR r' k' w' h1 ?_ es
    exact g1.setZ (by rw [es]; exact hM.zb) (by rw [ex]; exact hM.zx) (by rw [et, eW]; exact pw) rst (hG.mono (by omega)) fun y => absurd ⟨y.1, by rw [← es]; exact y.2.1, y.2.2⟩ z
/-- A table alone has changed. -/
theorem PW.tab {t' : TC} (h : PW T H W G X Lg M) (hc : c < 3) (hs : Sys T (updH (fun d => (H d).t) c t') G X Lg) : PW T (updS H c { H c with t := t' }) W G X Lg M := by
  refine ⟨by rw [updS_t]; exact hs, fun k hk => ?_, fun k hk => ?_, h.fr⟩
  · by_cases e : k = c
    · subst e
      rw [updS_at]
      have l := h.lk k hk
      exact ⟨l.c3, l.addr, l.clk, l.nx, l.cr, l.base, l.gap, l.ok⟩
    · rw [updS_ne e]; exact h.lk k hk
  · by_cases e : k = c
    · subst e
      rw [updS_at]
      exact h.rs k hk
    · rw [updS_ne e]; exact h.rs k hk
theorem SentX.facts {T : Int} {M' : Nat → List DG} {O : List OutS} {Fs : List (List Int)} {sm : Prop} (h : SentX T c M M' O Fs sm) (hc : c < 3) (hs : sm) : MExt M M' ∧ (∀ c', c' < 3 → ∀ q ∈ M' c', q ∈ M c' ∨ ∃ o ∈ O, q = dgO T o) ∧ ∀ x ∈ Fs.map flF, x.fl = false ∧ x.age = 0 ∧ ∃ n i, ∃ o ∈ O, FrOk T M' x c n i (dgO T o) := by
  obtain ⟨⟨E, hM, hF, hE⟩, oth⟩ := h
  have hE := hE hs
  refine ⟨fun c' n' g _ hg => ?_, fun c' hc' g hg => ?_, fun x hx => ?_⟩
  · by_cases z : c' = c
    · subst z
      rw [hM, List.getElem?_append_left (List.getElem?_eq_some_iff.1 hg).1]
      exact hg
    · rw [oth c' z]; exact hg
  · by_cases z : c' = c
    · subst z
      rw [hM] at hg
      rcases List.mem_append.1 hg with w | w
      · exact .inl w
      · rw [hE] at w
        obtain ⟨o, ho, rfl⟩ := List.mem_map.1 w
        exact .inr ⟨o, (List.mem_filter.1 ho).1, rfl⟩
    · rw [oth c' z] at hg
      exact .inl hg
  · rw [hF] at hx
    obtain ⟨a, b, n1, i1, g1, hg1, fo1⟩ := fs_new hc hM (fun g hg => by
      rw [hE] at hg
      obtain ⟨o, _, rfl⟩ := List.mem_map.1 hg
      rfl) x hx
    rw [hE] at hg1
    obtain ⟨o, ho, rfl⟩ := List.mem_map.1 hg1
    exact ⟨a, b, n1, i1, o, (List.mem_filter.1 ho).1, fo1⟩
/-- No loss since the weather was looked at. -/
theorem GoodZ.back {h' : HS} {Fs : List (List Int)} {M' : Nat → List DG} {nn : Nat} (hg : GoodZ Z n m r k) (hc : c < 3) (an : Ans k.tk c (m.H c) h' Fs M' nn) (hH : m'.H = updS m.H c h') (hsp : k.sp ≤ k'.sp) (z : Z.on m' k') : Z.on m k ∧ h'.lost = (m.H c).lost ∧ k'.sp = k.sp := by
  obtain ⟨z1, z2, z3⟩ := z
  obtain ⟨b1, b2⟩ := hg.zb z1
  have le : ∀ d, d < 3 → (m.H d).lost ≤ (m'.H d).lost := fun d hd => by
    rw [hH]
    by_cases e : d = c
    · subst e; rw [updS_at]; exact an.lost.1
    · rw [updS_ne e]; exact Int.le_refl _
  have e3 : ∀ d, d < 3 → (m.H d).lost = Z.lost d := fun d hd => by
    have := le d hd
    have := b2 d hd
    have := z3 d hd
    omega
  refine ⟨⟨z1, by omega, e3⟩, ?_, by omega⟩
  have := z3 c hc
  rw [hH, updS_at] at this
  rw [this, e3 c hc]
theorem GoodZ.fwd {h' : HS} {Fs : List (List Int)} {M' : Nat → List DG} {nn : Nat} (hg : GoodZ Z n m r k) (hc : c < 3) (an : Ans k.tk c (m.H c) h' Fs M' nn) (hH : m'.H = updS m.H c h') (hsp : k.sp ≤ k'.sp) : Z.ok → Z.sp ≤ k'.sp ∧ ∀ d, d < 3 → Z.lost d ≤ (m'.H d).lost := fun z => by
  obtain ⟨b1, b2⟩ := hg.zb z
  refine ⟨by omega, fun d hd => ?_⟩
  have := b2 d hd
  rw [hH]
  by_cases e : d = c
  · subst e; rw [updS_at]; have := an.lost.1; omega
  · rw [updS_ne e]; exact this
end
end Go.Proofs.Qxb6500424aGreat
