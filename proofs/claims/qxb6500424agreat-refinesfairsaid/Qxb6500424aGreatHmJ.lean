/-
  hostlaw: Look.
-/
import Derived.Test.Qxb6500424aGreatHmI
set_option linter.unusedVariables false
set_option linter.unusedSimpArgs false
open Go.Vc
namespace Go.Proofs.Qxb6500424aGreat
section
variable {w0 w w' : World} {a c : Nat} {m : LH} {r : LR} {k : LC} {n : Int} {T : Int} {G : List GE} {X : Nat → CS} {Lg : List LE} {i s ib lb q ln : Nat} {g : GE} {ar : Sk.AE} {L : List Int} {K0 : Nat → Sk.SkS}
def HDone (G : List GE) (X : Nat → CS) (N : List PE) (d : Nat) : Prop := ∀ (i : Nat) g, G[i]? = some g → g.h = d → i < N.length → DoneAt G X N i
def LDone (G : List GE) (X : Nat → CS) (N : List PE) (d : Nat) : Prop := ∀ (i : Nat) g, G[i]? = some g → g.h = d → g.gone = false → DoneAt G X N i
theorem HDone.seen {del : Nat → Int} {N N' : List PE} {d j : Nat} {gj : GE} (h : HDone G X N d) (s : Seen1 G X del j N N') (hj : G[j]? = some gj) (hne : gj.h ≠ d) : HDone G X N' d := fun i g hg hd hi => by
  rcases s.len i hi with z | z
  · exact s.old i (h i g hg hd z)
  · subst z
    rw [hg] at hj
    cases hj
    exact absurd hd hne
theorem LDone.seen {del : Nat → Int} {N N' : List PE} {d j : Nat} (h : LDone G X N d) (s : Seen1 G X del j N N') : LDone G X N' d := fun i g hg hd hl => s.old i (h i g hg hd hl)
/-- Ends that are listed no more. -/
theorem lookGone {N0 : List PE} {N1 : Option Addr → Int → World → Prop} {R : Bool → World → Prop} (hL : LawAt w0 w a m r k) (hs : Sys T (fun d => (m.H d).t) G X Lg) (hI : LookJ G X r.del N0 (r.N.map (·.E))) (hG : GB0 n G) (hn : n ≤ 4398046511104) (hc : c < 3) (hlb : Sk.IAt w lb (sdsE (m.H c).t.K.E)) (hln : (m.H c).t.K.E.length = ln) (hl6 : ln ≤ 6)
    (hD : ∀ d, d < c → HDone G X (r.N.map (·.E)) d ∧ LDone G X (r.N.map (·.E)) d) (hLc : LDone G X (r.N.map (·.E)) c)
    (hN : ∀ N' w', LawAt w0 w' a m { r with N := N' } k → LookJ G X r.del N0 (N'.map (·.E)) → (∀ d, d < c + 1 → HDone G X (N'.map (·.E)) d ∧ LDone G X (N'.map (·.E)) d) → N1 (some ⟨a, 0, none⟩) (IntKind.i64.wrap ((c : Int) + 1)) w') :
    hostlaw_World_Look.L3 (some ⟨a, 0, none⟩) (c : Int) (some ⟨lb, 0, none⟩) ln ln 0 w N1 R := by
  unfold hostlaw_World_Look.L3
  have hgl := hG.len
  refine ⟨fun mm a' c' b' l' cc' i w' => ∃ (q : Nat) (N' : List PEM), q ≤ r.N.length ∧ mm = r.N.length - q ∧ some ⟨a, 0, none⟩ = a' ∧ (c : Int) = c' ∧ some ⟨lb, 0, none⟩ = b' ∧ ln = l' ∧ ln = cc' ∧ i = (q : Int) ∧ N'.length = r.N.length ∧ LawAt w0 w' a m { r with N := N' } k ∧ LookJ G X r.del N0 (N'.map (·.E)) ∧ (∀ d, d < c → HDone G X (N'.map (·.E)) d ∧ LDone G X (N'.map (·.E)) d) ∧ LDone G X (N'.map (·.E)) c ∧ (∀ (j : Nat) g, j < q → G[j]? = some g → g.h = c → DoneAt G X (N'.map (·.E)) j) ∧ ExtT w w' lookTys, r.N.length,
    ⟨0, r.N, by omega, rfl, rfl, rfl, rfl, rfl, rfl, rfl, rfl, hL, hI, hD, hLc, fun j g hj => by omega, ExtT.refl _ _⟩, ?_⟩
  rintro mm a' c' b' l' cc' i w' ⟨q, N', hq, rfl, rfl, rfl, rfl, rfl, rfl, rfl, hlN, h', hI', hD', hLc', hdn, t'⟩
  unfold hostlaw_World_Look.L3b
  have hle := hI'.net.le
  have hml : (N'.map (·.E)).length = N'.length := by simp
  obtain ⟨eb, el, ec, eo, er⟩ := h'.r.N.ex
  have hrl : el = N'.length := NetAt.rlen er
  refine Pn.mk (h'.ldN (Pn.mk (LdL.mk eo rfl (Bm.ite (fun hlt => ?_) fun hge => ?_))))
  rotate_left
  · have hql : q = N'.length := by omega
    refine hN N' w' h' hI' fun d hd => ?_
    by_cases z : d = c
    · subst z
      exact ⟨fun i g hg hh hi => hdn i g (by omega) hg hh, hLc'⟩
    · exact hD' d (by omega)
  obtain ⟨x, hx⟩ : ∃ x, N'[q]? = some x := ⟨_, List.getElem?_eq_getElem (by omega)⟩
  have hxE : (N'.map (·.E))[q]? = some x.E := by rw [List.getElem?_map, hx]; rfl
  obtain ⟨gq, hgq, pd⟩ := hI'.net.at hxE
  obtain ⟨gg, xx, pre⟩ := pd.pre
  -- nothing to do
  have same : (gq.h = c → DoneAt G X (N'.map (·.E)) q) → hostlaw_World_Look.B4 (some ⟨a, 0, none⟩) (c : Int) (some ⟨lb, 0, none⟩) ln ln (q : Int) false w' N1 (fun a' c' b' l' cc' i w' => ∃ m', m' < r.N.length - q ∧ ∃ (q : Nat) (N' : List PEM), q ≤ r.N.length ∧ m' = r.N.length - q ∧ some ⟨a, 0, none⟩ = a' ∧ (c : Int) = c' ∧ some ⟨lb, 0, none⟩ = b' ∧ ln = l' ∧ ln = cc' ∧ i = (q : Int) ∧ N'.length = r.N.length ∧ LawAt w0 w' a m { r with N := N' } k ∧ LookJ G X r.del N0 (N'.map (·.E)) ∧ (∀ d, d < c → HDone G X (N'.map (·.E)) d ∧ LDone G X (N'.map (·.E)) d) ∧ LDone G X (N'.map (·.E)) c ∧ (∀ (j : Nat) g, j < q → G[j]? = some g → g.h = c → DoneAt G X (N'.map (·.E)) j) ∧ ExtT w w' lookTys) R := fun hd => by
    unfold hostlaw_World_Look.B4 hostlaw_World_Look.B6
    refine Bm.neg rfl ⟨r.N.length - (q + 1), by omega, q + 1, N', by omega, rfl, rfl, rfl, rfl, rfl, rfl, by rw [w64 (by omega) (by omega)]; omega, hlN, h', hI', hD', hLc', fun j g hj hg hh => ?_, t'⟩
    by_cases z : j = q
    · subst z
      rw [hgq] at hg
      cases hg
      exact hd hh
    · exact hdn j g (by omega) hg hh
  refine Pn.mk (h'.ldN ?_)
  refine h'.r.N.at rfl hx fun kk l2 c2 hb2 hc2 h02 => Pn.mk ⟨hb2, LdI.cell (by rw [h02]; rfl) (Bm.mk (fun zh => ?_) fun zh => same fun hh => ?_)⟩
  · have eh : x.E.h = c := by have : (x.E.h : Int) = (c : Int) := beqT zh; omega
    refine Pn.mk (h'.ldN (ndB h'.r.N rfl hx (by omega) rfl ?_))
    cases hgn : x.E.gone with
    | true =>
      refine Bm.neg rfl (same fun _ => ?_)
      exact hI'.left hs hc hxE eh (fun kx gx h1 h2 h3 => hLc' kx gx h1 h2 h3) (.inl hgn)
    | false =>
      refine Bm.pos rfl (Pn.mk (h'.ldN (ndI h'.r.N rfl hx (by omega) rfl ?_)))
      have hlb' : Sk.IAt w' lb (sdsE (m.H c).t.K.E) := t'.own hlb (by decide)
      have rowL := iat_row hlb'
      rw [show (sdsE (m.H c).t.K.E).length = ln by simp [sdsE, hln]] at rowL
      refine has_ok rowL (by omega) ?_
      by_cases zs : x.E.sd ∈ sdsE (m.H c).t.K.E
      · rw [decide_eq_true zs]
        refine same fun _ => ?_
        exact hI'.left hs hc hxE eh (fun kx gx h1 h2 h3 => hLc' kx gx h1 h2 h3) (.inr zs)
      · rw [decide_eq_false zs]
        obtain ⟨h4, gg2, hg2, dn2, lk⟩ := hI'.unlist hs hc hxE eh hgn zs
        unfold hostlaw_World_Look.B4
        refine Bm.pos rfl (Pn.mk (h'.ldN (unlisted_ok h'.r.N hx h4 fun w2 h2 t2 => Bm.neg rfl ?_)))
        unfold hostlaw_World_Look.B6
        have em : (N'.set q { x with E := { x.E with gone := true } }).map (·.E) = (N'.map (·.E)).set q { x.E with gone := true } := by rw [List.map_set]
        have hqlt : q < (N'.map (·.E)).length := by omega
        have sn : Seen1 G X r.del q (N'.map (·.E)) ((N'.set q { x with E := { x.E with gone := true } }).map (·.E)) := by
          rw [em]
          exact ⟨lk, ⟨_, gg2, by rw [List.getElem?_set_self hqlt], hg2, dn2⟩, fun j hj => hj.set hg2 dn2 hqlt, fun j hj => .inl (by rw [List.length_set] at hj; exact hj), fun j E' hj => by
            by_cases z : j = q
            · subst z
              rw [List.getElem?_set_self hqlt] at hj
              cases hj
              exact .inl ⟨x.E, hxE, rfl, rfl⟩
            · rw [List.getElem?_set_ne (fun w => z w.symm)] at hj
              exact .inl ⟨E', hj, rfl, rfl⟩⟩
        rw [hgq] at hg2
        cases hg2
        have hgc : gq.h = c := by rw [← pre.h]; exact eh
        refine ⟨r.N.length - (q + 1), by omega, q + 1, _, by omega, rfl, rfl, rfl, rfl, rfl, rfl, by rw [w64 (by omega) (by omega)]; omega, by rw [List.length_set]; exact hlN, h'.net h2 (t2.mono (by decide)) (fun y hy z hz => ?_), ⟨sn.look, hI'.wsn.trans sn.why⟩, fun d hd => ⟨(hD' d hd).1.seen sn hgq (by omega), (hD' d hd).2.seen sn⟩, hLc'.seen sn, fun j g hj hg hh => ?_, t'.trans (t2.t.mono (by decide))⟩
        · left
          rcases List.mem_or_eq_of_mem_set hy with q' | q'
          · exact .inr (.inr ⟨y, q', hz⟩)
          · subst q'
            exact .inr (.inr ⟨x, List.mem_of_getElem? hx, hz⟩)
        · by_cases z : j = q
          · subst z
            exact sn.done
          · exact sn.old j (hdn j g (by omega) hg hh)
  · exfalso
    have : (x.E.h : Int) = (c : Int) := by rw [pre.h, hh]
    rw [this] at zh
    simp at zh
end
end Go.Proofs.Qxb6500424aGreat
