/-
  hostlaw: Close and Abort: behind the calls.
-/
import Derived.Test.Qxb6500424aGreatHmY
set_option linter.unusedVariables false
set_option linter.unusedSimpArgs false
open Go.Vc
namespace Go.Proofs.Qxb6500424aGreat
section
variable {w0 w w' : World} {a c d q i : Nat} {m m' : LH} {r r' : LR} {k k' : LC} {n n' : Int} {sd mx : Int} {ab : Bool} {NP' : List PE} {cr : CallR Unit} {Z : Zf}
/-- Where the law stands behind a call that went well. -/
structure PutI (w0 w : World) (a : Nat) (n : Int) (m : LH) (r : LR) (k : LC) (c : Nat) (cr : CallR Unit) (NP' : List PE) (m1 : LH) (N1 : List PEM) (M1 O1 : KL) (tok1 : List Nat) (b : Option Addr) (l cc lo : Nat) (F : List (List Int × Nat)) : Prop where
  law : LawAt w0 w a m1 { r with N := N1, M := M1, O := O1, tok := tok1 } k
  nn : N1.map (·.E) = NP'
  hH : m1.H = updS m.H c (callH (m.H c) cr).1
  hJ : m1.qu = true → m.qu = true ∧ m1.J = updS m.J c (callH (m.H c) cr).1
  M : (M1.n : Int) ≤ n + 40
  O : (O1.n : Int) ≤ n + 40
  fr : FrL w b l cc lo F
  lo : w0.heap.size ≤ lo
  eF : F.map (·.1) = (callH (m.H c) cr).2
  u : ∀ e ∈ F, ¬ U8F { r with N := N1, M := M1, O := O1, tok := tok1 } e.2
  v : ∀ y ∈ rowBlk b, ¬ F81 { r with N := N1, M := M1, O := O1, tok := tok1 } y
variable {m1 : LH} {N1 : List PEM} {M1 O1 : KL} {tok1 : List Nat} {b : Option Addr} {l cc lo : Nat} {F : List (List Int × Nat)} {kb : Option Addr} {kl kc : Nat} {ks : List Int}
theorem PutI.ext0 (h : PutI w0 w a n m r k c cr NP' m1 N1 M1 O1 tok1 b l cc lo F) (he : Ext [] w w') : PutI w0 w' a n m r k c cr NP' m1 N1 M1 O1 tok1 b l cc lo F :=
  ⟨h.law.ext0 he, h.nn, h.hH, h.hJ, h.M, h.O, h.fr.ext0 he, h.lo, h.eF, h.u, h.v⟩
theorem PutI.host (h : PutI w0 w a n m r k c cr NP' m1 N1 M1 O1 tok1 b l cc lo F) : m1.H c = (callH (m.H c) cr).1 ∧ (m1.H c).t = cr.t := by
  have e : m1.H c = (callH (m.H c) cr).1 := by rw [h.hH, updS_at]
  refine ⟨e, ?_⟩
  rw [e]
  unfold callH
  rw [(sendAllH_t _ _).1]
theorem endL2 {R : Bool → World → Prop} (hg : GoodZ Z n m r k) (h0 : 0 ≤ n) (hn : n ≤ 4398046500000) (hc : c < 3) (co : CallOk Z n m r k c cr NP') (h : PutI w0 w a n m r k c cr NP' m1 N1 M1 O1 tok1 b l cc lo F) (kr : Row w kb kl kc 1 T_int (ks.map Sk.iv)) (hks : ks.length ≤ 6) (hkid : ∀ s ∈ ks, KidOk cr.t s)
    (hR : ∀ m' r' k' w', LawAt w0 w' a m' r' k' → MidZ Z (n + 400) m' r' k' (K0of m) → R true w') : hostlaw_World_End.L2 (some ⟨a, 0, none⟩) (c : Int) kb kl kc b l cc 0 w R := by
  unfold hostlaw_World_End.L2
  have hkl := row_len kr
  obtain ⟨eHc, eHt⟩ := h.host
  have okc : HsOk (n + 60) (m1.H c) := by rw [eHc]; exact co.ok
  refine ⟨fun mm a' c' kb' kl' kc' b' l' cc' i w' => ∃ q : Nat, q ≤ kl ∧ mm = kl - q ∧ some ⟨a, 0, none⟩ = a' ∧ (c : Int) = c' ∧ kb = kb' ∧ kl = kl' ∧ kc = kc' ∧ b = b' ∧ l = l' ∧ cc = cc' ∧ i = (q : Int) ∧ Ext [] w w', kl, ⟨0, by omega, rfl, rfl, rfl, rfl, rfl, rfl, rfl, rfl, rfl, rfl, Ext.refl _ _⟩, ?_⟩
  rintro mm a' c' kb' kl' kc' b' l' cc' i w' ⟨q, hq, rfl, rfl, rfl, rfl, rfl, rfl, rfl, rfl, rfl, rfl, he'⟩
  unfold hostlaw_World_End.L2b
  have h' := h.ext0 he'
  refine Bm.ite (fun hlt => ?_) fun hge => putCall hg h0 hn hc co h'.law h'.nn h'.hH h'.hJ h'.M h'.O h'.fr h'.lo h'.eF h'.u h'.v hR
  have E' : Ext [] w w'.drew := he'.trans (Ext.drew _ _)
  have hd := (h.ext0 E').law
  have krd := kr.ext E' (fun _ _ z => by cases z)
  obtain ⟨s, hs⟩ : ∃ s, ks[q]? = some s := ⟨_, List.getElem?_eq_getElem (by omega)⟩
  obtain ⟨x, hgx, hp0, hst, hwy⟩ := (hkid s (List.mem_of_getElem? hs)).ex
  have hgx' : Sk.getE (m1.H c).t.K.E s = some x := by rw [eHt]; exact hgx
  have fin : ∀ {s2 : Nat} {e : Int} {w5 : World}, InfoR w5 s2 (m1.H c) s e → Ext [] w'.drew w5 → hostlaw_World_End.B15 (some ⟨a, 0, none⟩) (c : Int) kb kl kc b l cc (q : Int) s2 e w5 (fun a' c' kb' kl' kc' b' l' cc' i w' => ∃ m', m' < kl - q ∧ ∃ q : Nat, q ≤ kl ∧ m' = kl - q ∧ some ⟨a, 0, none⟩ = a' ∧ (c : Int) = c' ∧ kb = kb' ∧ kl = kl' ∧ kc = kc' ∧ b = b' ∧ l = l' ∧ cc = cc' ∧ i = (q : Int) ∧ Ext [] w w') R := fun {s2 e w5} hI e5 => by
    obtain ⟨rfl, ib, hia, os⟩ := hI.yes x hgx'
    have hia' : InAt w5 ib (infoC cr.t x) := by rw [eHt] at hia; exact hia
    unfold hostlaw_World_End.B15
    refine Bm.neg rfl (LdI.mk os rfl (Bm.neg (by rw [hp0]; rfl) (LdP.mk os rfl (Pn.mk (LdI.fn (o := 0) hia' (by omega) rfl ?_)))))
    rw [hst]
    refine Bm.neg rfl (LdP.mk os rfl (Pn.mk (inLdI (o := 1) hia' (by omega) rfl ?_)))
    unfold hostlaw_World_End.B16
    exact Bm.neg (by simpa using hwy) ⟨kl - (q + 1), by omega, q + 1, by omega, rfl, rfl, rfl, rfl, rfl, rfl, rfl, rfl, rfl, by rw [w64 (by omega) (by omega)]; omega, E'.trans e5⟩
  refine Pn.mk ⟨⟨by omega, by omega⟩, hd.ldH hc ?_⟩
  obtain ⟨kr2, ekr, cs, ho, hcell⟩ := krd.at (i := q) (by omega) (by omega)
  have hce : ∀ {w4 : World}, Ext [] w'.drew w4 → w4.cell? ⟨kr2, q, none⟩ = some (.int .i64 s) := fun {w4} e4 => (e4.own ho (by simp)).cell (by
    have := hcell 0 (by omega)
    simp only [Nat.mul_one, Nat.add_zero] at this
    rw [this, List.getElem?_map, hs]
    rfl)
  subst ekr
  refine Pn.mk ⟨⟨by omega, by omega⟩, LdI.cell (by rw [addr_i]; exact hce (Ext.refl _ _)) ⟨?_, ?_⟩⟩
  · exact info_new (hd.h.H c hc) okc fun s2 e w5 hI hs2 e5 => fin hI e5
  · refine New.mk fun s2 w4 es hs4 os4 he4 => ⟨by rw [addr_i]; exact hce he4, ?_, info_at ((hd.h.H c hc).ext0 he4) okc os4 fun e w5 hI e5 => fin hI (he4.trans' e5 (fun y hy hl => by simp at hy; omega))⟩
    rw [addC0]
    exact ((hd.ext0 he4).own).cell (by rw [fnArr_get _ (by omega)]; unfold lawF pt; rw [if_pos hc])
/-- What End's plain side may be. -/
def EndC (Z : Zf) (n : Int) (m : LH) (r : LR) (k : LC) (c : Nat) (sd : Int) (ab mine lis : Bool) (ks : List Int) : Prop :=
  ((endT (fE ab) sd (m.H c).t).e ≠ 0 ∧ (endT (fE ab) sd (m.H c).t).t = (m.H c).t) ∨
  (lis = true ∧ mine = false ∧ (∀ s ∈ ks, ∃ x ∈ (m.H c).t.K.E, x.1.sd = s ∧ x.1.par = sd) ∧ LisEnd Z n m r k c sd ab) ∨
  (lis = false ∧ mine = true ∧ ab = true ∧ ks = [] ∧ AboEnd Z n m r k c sd) ∨
  (∃ i : Nat, ∃ y : PEM, lis = false ∧ mine = true ∧ ab = false ∧ ks = [] ∧ CloEnd Z n m r k c sd i y)
theorem EndC.bad {n : Int} {m : LH} {r : LR} {k : LC} {c : Nat} {sd : Int} {ab mine lis : Bool} {ks : List Int}  (q0 : (endT (fE ab) sd (m.H c).t).e ≠ 0) (q1 : (endT (fE ab) sd (m.H c).t).t = (m.H c).t) : EndC Z n m r k c sd ab mine lis ks :=
  Or.inl ⟨q0, q1⟩
theorem EndC.lis {n : Int} {m : LH} {r : LR} {k : LC} {c : Nat} {sd : Int} {ab mine lis : Bool} {ks : List Int}  (q0 : lis = true) (q1 : mine = false) (q2 : (∀ s ∈ ks, ∃ x ∈ (m.H c).t.K.E, x.1.sd = s ∧ x.1.par = sd)) (q3 : LisEnd Z n m r k c sd ab) : EndC Z n m r k c sd ab mine lis ks :=
  Or.inr (Or.inl ⟨q0, q1, q2, q3⟩)
theorem EndC.abo {n : Int} {m : LH} {r : LR} {k : LC} {c : Nat} {sd : Int} {ab mine lis : Bool} {ks : List Int}  (q0 : lis = false) (q1 : mine = true) (q2 : ab = true) (q3 : ks = []) (q4 : AboEnd Z n m r k c sd) : EndC Z n m r k c sd ab mine lis ks :=
  Or.inr (Or.inr (Or.inl ⟨q0, q1, q2, q3, q4⟩))
theorem EndC.clo {n : Int} {m : LH} {r : LR} {k : LC} {c : Nat} {sd : Int} {ab mine lis : Bool} {ks : List Int} (i : Nat) (y : PEM) (q0 : lis = false) (q1 : mine = true) (q2 : ab = false) (q3 : ks = []) (q4 : CloEnd Z n m r k c sd i y) : EndC Z n m r k c sd ab mine lis ks :=
  Or.inr (Or.inr (Or.inr (⟨i, y, q0, q1, q2, q3, q4⟩)))
/-- Behind the calls. -/
theorem endTail {R : Bool → World → Prop} {mine lis : Bool} (hg : GoodZ Z n m r k) (h0 : 0 ≤ n) (hn : n ≤ 4398046500000) (hc : c < 3) (hE : EndC Z n m r k c sd ab mine lis ks) (he0 : (endT (fE ab) sd (m.H c).t).e = 0) (h : PutI w0 w a n m r k c (endT (fE ab) sd (m.H c).t) (r.N.map (·.E)) m1 r.N M1 O1 tok1 b l cc lo F) (kr : Row w kb kl kc 1 T_int (ks.map Sk.iv)) (hks : ks.length ≤ 6)
    (hR : ∀ m' r' k' w', LawAt w0 w' a m' r' k' → MidZ Z (n + 400) m' r' k' (K0of m) → R true w') :
    Bm mine (hostlaw_World_End.B8 (some ⟨a, 0, none⟩) (c : Int) sd ab mine lis kb kl kc b l cc (!ab) w R) (hostlaw_World_End.B8 (some ⟨a, 0, none⟩) (c : Int) sd ab mine lis kb kl kc b l cc false w R) := by
  obtain ⟨eHc, eHt⟩ := h.host
  rcases hE with ⟨e0, _⟩ | ⟨rfl, rfl, hkk, le⟩ | ⟨rfl, rfl, rfl, rfl, ae⟩ | ⟨i, y, rfl, rfl, rfl, rfl, ce⟩
  · exact absurd he0 e0
  · refine Bm.neg rfl ?_
    unfold hostlaw_World_End.B8 hostlaw_World_End.B11
    have okc : HsOk (n + 60) (m1.H c) := by rw [eHc]; exact le.co.ok
    refine Bm.neg rfl (Bm.pos rfl (Pn.mk ⟨⟨by omega, by omega⟩, h.law.ldH hc (info_new (h.law.h.H c hc) okc fun s e w4 hI hsz e4 => ?_)⟩))
    obtain ⟨rfl, os⟩ := hI.no (by rw [eHt]; exact le.gone)
    refine Bm.neg rfl ?_
    unfold hostlaw_World_End.B12 hostlaw_World_End.B13
    refine Bm.neg rfl (Bm.neg rfl (endL2 hg h0 hn hc le.co (h.ext0 e4) (kr.ext e4 (fun _ _ z => by cases z)) hks (fun s hs => ?_) hR))
    obtain ⟨x, hx, e1, e2⟩ := hkk s hs
    rw [← e1]
    exact le.kid x hx e2
  · refine Bm.pos rfl ?_
    unfold hostlaw_World_End.B8 hostlaw_World_End.B11 hostlaw_World_End.B12 hostlaw_World_End.B13
    have okc : HsOk (n + 60) (m1.H c) := by rw [eHc]; exact ae.co.ok
    refine Bm.neg rfl (Bm.neg rfl (Bm.pos rfl (Bm.pos rfl (Pn.mk ⟨⟨by omega, by omega⟩, h.law.ldH hc (info_new (h.law.h.H c hc) okc fun s e w4 hI hsz e4 => ?_)⟩))))
    obtain ⟨x, hgx, hst, hwy⟩ := ae.ended
    obtain ⟨rfl, ib, hia, os⟩ := hI.yes x (by rw [eHt]; exact hgx)
    have hia' : InAt w4 ib (infoC (endT (fE true) sd (m.H c).t).t x) := by rw [eHt] at hia; exact hia
    refine Bm.neg rfl (LdP.mk os rfl (Pn.mk (LdI.fn (o := 0) hia' (by omega) rfl ?_)))
    rw [hst]
    refine Bm.neg rfl (LdP.mk os rfl (Pn.mk (inLdI (o := 1) hia' (by omega) rfl ?_)))
    unfold hostlaw_World_End.B14
    exact Bm.neg (by simpa using hwy) (endL2 hg h0 hn hc ae.co (h.ext0 e4) (kr.ext e4 (fun _ _ z => by cases z)) hks (fun s hs => by cases hs) hR)
  · refine Bm.pos rfl ?_
    unfold hostlaw_World_End.B8
    have hnN : r.N.length ≤ 1152921504606846976 := by
      obtain ⟨G, X, Lg, M, pw, rs, gb⟩ := hg.pw
      have h1 := rs.len
      have h2 := gb.len
      simp at h1
      omega
    refine Bm.pos rfl (Pn.mk (h.law.ldN (nFind_ok h.law.r.N hnN (fun jj zz hj q1 q2 => ?_) (fun hno => absurd ⟨by rw [ce.hh.1], ce.hh.2⟩ (hno i y ce.at_)))))
    have ej := ce.find jj zz hj q1 q2
    subst ej
    refine Pn.mk (h.law.ldN (closedBy_ok h.law.r.N ce.at_ fun w2 h2 t2 => Bm.neg rfl ?_))
    have h3 := h.law.net h2 (t2.mono (by decide)) (fun x hx q hq => by
      left
      rcases List.mem_or_eq_of_mem_set hx with zx | zx
      · exact .inr (.inr ⟨x, zx, hq⟩)
      · subst zx
        exact .inr (.inr ⟨y, List.mem_of_getElem? ce.at_, hq⟩))
    have hp : PutI w0 w2 a n m r k c (endT (fE false) sd (m.H c).t) ((r.N.map (·.E)).set jj { y.E with clo := true }) m1 (r.N.set jj { y with E := { y.E with clo := true } }) M1 O1 tok1 b l cc lo F := by
      refine ⟨h3, by rw [List.map_set], h.hH, h.hJ, h.M, h.O, h.fr.keepL t2 (by decide) (by decide), h.lo, h.eF, fun e he zz => ?_, h.v⟩
      rcases zz with (zz | zz | ⟨x, hx, zz⟩) | zz
      · exact h.u e he (.inl (.inl zz))
      · exact h.u e he (.inl (.inr (.inl zz)))
      · rcases List.mem_or_eq_of_mem_set hx with zx | zx
        · exact h.u e he (.inl (.inr (.inr ⟨x, zx, zz⟩)))
        · subst zx
          exact h.u e he (.inl (.inr (.inr ⟨y, List.mem_of_getElem? ce.at_, zz⟩)))
      · exact h.u e he (.inr zz)
    unfold hostlaw_World_End.B11 hostlaw_World_End.B12 hostlaw_World_End.B13
    exact Bm.neg rfl (Bm.pos rfl (Bm.neg rfl (endL2 hg h0 hn hc ce.co hp (t2.row kr (by decide)) hks (fun s hs => by cases hs) hR)))
end
end Go.Proofs.Qxb6500424aGreat
