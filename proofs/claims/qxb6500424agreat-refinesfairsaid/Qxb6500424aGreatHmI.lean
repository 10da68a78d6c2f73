/-
  hostlaw: Look: one row.
-/
import Derived.Test.Qxb6500424aGreatHmH
set_option linter.unusedVariables false
set_option linter.unusedSimpArgs false
open Go.Vc
namespace Go.Proofs.Qxb6500424aGreat
theorem lookR_snoc (c : Nat) (a : Sk.AE) : ∀ (E : List Sk.AE) (R : List Wt), lookR c (E ++ [a]) R = look1R c a (lookR c E R)
  | [], R => rfl
  | b :: E, R => lookR_snoc c a E (look1R c b R)
def lookTo (E : Nat → List Sk.AE) : Nat → List Wt → List Wt
  | 0, R => R
  | c + 1, R => lookR c (E c) (lookTo E c R)
section
variable {w0 w w' : World} {a c : Nat} {m : LH} {r : LR} {k : LC} {n : Int} {T : Int} {G : List GE} {X : Nat → CS} {Lg : List LE} {i s ib lb q ln : Nat} {g : GE} {ar : Sk.AE} {L : List Int}
theorem lawSeen_hg {b : Option Addr} {cc : Nat} {j : Nat} (hc : c < 3) (hj : j < 50) (hn : j ≠ 34 + c) : lawF m r k j = lawF m { r with sb := fun d => if d = c then b else r.sb d, sn := fun d => if d = c then L else r.sn d, sc := fun d => if d = c then cc else r.sc d } k j := by
  by_cases q : 34 ≤ j ∧ j < 37
  · obtain ⟨d, rfl⟩ : ∃ d, j = 34 + d := ⟨j - 34, by omega⟩
    rw [lawF_seen _ _ _ (by omega), lawF_seen _ _ _ (by omega)]
    have hd : ¬ d = c := by omega
    simp only [if_neg hd]
  · unfold lawF
    by_cases q2 : j < 34
    · simp only [show j < 37 by omega, show j < 34 by omega, if_true]
    · simp only [show ¬ j < 37 by omega, if_false]
theorem LawAt.stSeen {K : World → Prop} (hL : LawAt w0 w a m r k) (hc : c < 3) (hl : Sk.IAt w lb L) (hln : L.length = ln)
    (hK : ∀ w', w'.heap.size = w.heap.size → LawAt w0 w' a m { r with sb := fun d => if d = c then some ⟨lb, 0, none⟩ else r.sb d, sn := fun d => if d = c then L else r.sn d, sc := fun d => if d = c then ln else r.sc d } k → Ext [a] w w' → K w') : Sts [.slice (some ⟨lb, 0, none⟩) ln ln] (Addr.add (Addr.add ⟨a, 0, none⟩ 34) ((c : Int).toNat * 1)) 0 w K := by
  rw [addC]
  refine LawAt.stG (r' := { r with sb := fun d => if d = c then some ⟨lb, 0, none⟩ else r.sb d, sn := fun d => if d = c then L else r.sn d, sc := fun d => if d = c then ln else r.sc d }) (k' := k) hL.own hL.h ⟨hL.r.W, hL.r.N, fun d hd => ?_, hL.r.R, hL.r.I, hL.r.M, hL.r.O, hL.r.tl, hL.r.tok, hL.r.sepW, hL.r.sepM, hL.r.geR, hL.r.geI, hL.r.geM, hL.r.geO, hL.r.x⟩ hL.ge hL.ext (by omega) rfl (fun j z => ne_c ?_ fun hj => lawSeen_hg hc z hj) hK
  · show Row w (if d = c then some ⟨lb, 0, none⟩ else r.sb d) (if d = c then L else r.sn d).length (if d = c then ln else r.sc d) 1 T_int ((if d = c then L else r.sn d).map Sk.iv)
    by_cases e : d = c
    · rw [if_pos e, if_pos e, if_pos e, ← hln]
      exact iat_row hl
    · rw [if_neg e, if_neg e, if_neg e]
      exact hL.r.sn d hd
  · rw [lawF_seen _ _ _ hc]
    simp [hln]
/-- What looking at one row has done. -/
structure RowD (c : Nat) (ar : Sk.AE) (t : TC) (G : List GE) (X : Nat → CS) (del : Nat → Int) (N N' : List PE) : Prop where
  con : ar.1.kind = 2 → ∃ i g, RowOk c t G X ar i g ∧ Seen1 G X del i N N'
  lis : ar.1.kind ≠ 2 → N' = N
theorem lookB7 {N1 : Option Addr → Int → World → Prop} {N2 : Option Addr → Int → Option Addr → Option Addr → Nat → Nat → Int → World → Prop} {R : Bool → World → Prop} {h0 : Option Addr} {tt : Bool} (hL : LawAt w0 w a m r k) (hb : r.R.length ≤ 4398046511103) (os : Own w s (siArr ar.1 (some ⟨ib, 0, none⟩)) 69)
    (hN : ∀ b cc w', LawAt w0 w' a m { r with R := if tt = true then r.R ++ [(c, ar.1.sd, ar.1.par)] else r.R, rb := b, rc := cc } k → ExtT w w' lookTys → N2 (some ⟨a, 0, none⟩) (c : Int) h0 (some ⟨lb, 0, none⟩) ln ln (IntKind.i64.wrap ((q : Int) + 1)) w') :
    hostlaw_World_Look.B7 (some ⟨a, 0, none⟩) (c : Int) h0 (some ⟨lb, 0, none⟩) ln ln (q : Int) ar.1.sd s tt w N1 N2 R := by
  unfold hostlaw_World_Look.B7
  cases tt with
  | false =>
    refine Bm.neg rfl ?_
    unfold hostlaw_World_Look.B8
    have := hN r.rb r.rc w (by simpa using hL) (ExtT.refl _ _)
    exact this
  | true =>
    have hd := hL.drew
    refine Bm.pos rfl (Pn.mk (hd.ldL (b := r.rb) (l := r.R.length) (cc := r.rc) (by omega) rfl (LdI.mk os.drew rfl ?_)))
    refine hd.pushRdy (x := (c, ar.1.sd, ar.1.par)) hb (fun b cc w3 h3 t3 => ?_) (fun w1 h1 => ?_)
    · unfold hostlaw_World_Look.B8
      exact hN b cc w3 (by simpa using h3) ((ExtT.nil (Ext.drew [] w) _).trans t3)
    · rw [addA]
      exact h1.own.cell (by rw [fnArr_get _ (by omega)]; rfl)
theorem lookB3 {N1 : Option Addr → Int → World → Prop} {N2 : Option Addr → Int → Option Addr → Option Addr → Nat → Nat → Int → World → Prop} {R : Bool → World → Prop} (hL : LawAt w0 w a m r k) (hs : Sys T (fun d => (m.H d).t) G X Lg) (hI : LookI G X r.del (r.N.map (·.E))) (hG : GB0 n G) (hn : n ≤ 4398046511104) (hc : c < 3) (ok : HsOk n (m.H c)) (har : ar ∈ (m.H c).t.K.E) (hb : r.R.length ≤ 4398046511103)
    (hN : ∀ N' b cc w', LawAt w0 w' a m { r with N := N', R := look1R c ar r.R, rb := b, rc := cc } k → RowD c ar (m.H c).t G X r.del (r.N.map (·.E)) (N'.map (·.E)) → ExtT w w' lookTys → N2 (some ⟨a, 0, none⟩) (c : Int) (some ⟨(m.BH c).hp, 0, none⟩) (some ⟨lb, 0, none⟩) ln ln (IntKind.i64.wrap ((q : Int) + 1)) w') :
    hostlaw_World_Look.B3 (some ⟨a, 0, none⟩) (c : Int) (some ⟨(m.BH c).hp, 0, none⟩) (some ⟨lb, 0, none⟩) ln ln (q : Int) ar.1.sd w N1 N2 R := by
  unfold hostlaw_World_Look.B3
  have hget : Sk.getE (m.H c).t.K.E ar.1.sd = some ar := Sk.getE_some ok.sk.ei har
  refine info_new (hL.h.H c hc) ok fun s e w1 hIr hsz e1 => ?_
  obtain ⟨rfl, ib, hia, os⟩ := hIr.yes ar hget
  have h1 := hL.ext0 e1
  refine Bm.neg rfl (LdI.mk os rfl ?_)
  unfold hostlaw_World_Look.B5
  refine Bm.neg (bne_self' _) (LdI.mk os rfl (Bm.mk (fun zk => ?_) fun zk => ?_))
  · have hk2 : ar.1.kind = 2 := beqT zk
    obtain ⟨i, g, ro⟩ := (hs.tab c hc).row ar har hk2
    have hd := h1.drew
    have osd := os.drew
    have hiad : InAt w1.drew ib (X i) := by
      have : infoC (m.H c).t ar = X i := by
        unfold infoC
        rw [if_pos hk2]
        exact ro.C
      rw [← this]
      exact Own.drew hia
    refine Pn.mk (hd.ldN (LdI.mk osd rfl (LdI.mk osd rfl (LdI.mk osd rfl (LdI.mk osd rfl (LdI.mk osd rfl (LdI.mk osd rfl (LdI.mk osd rfl (LdB.mk osd rfl (LdP.mk osd rfl (see_law hd hs hI hG hn hc har hk2 ro hiad fun N' w2 h2 sn t2 => Bm.neg rfl ?_)))))))))))
    have os2 := t2.own osd (by decide)
    have T2 : ExtT w w2 lookTys := (ExtT.nil (e1.trans (Ext.drew [] _)) _).trans t2
    have fin : ∀ (tt : Bool), ((if tt = true then r.R ++ [(c, ar.1.sd, ar.1.par)] else r.R) = look1R c ar r.R) → hostlaw_World_Look.B7 (some ⟨a, 0, none⟩) (c : Int) (some ⟨(m.BH c).hp, 0, none⟩) (some ⟨lb, 0, none⟩) ln ln (q : Int) ar.1.sd s tt w2 N1 N2 R := fun tt et =>
      lookB7 h2 hb os2 fun b cc w3 h3 t3 => hN N' b cc w3 (by rw [← et]; exact h3) ⟨fun _ => ⟨i, g, ro, sn⟩, fun z => absurd hk2 z⟩ (T2.trans t3)
    have hno : ¬ (ar.1.kind = 2 ∧ ar.1.par ≠ 0 ∧ ar.1.rdy = true ∧ waitB c ar.1.sd r.R = false) → (if false = true then r.R ++ [(c, ar.1.sd, ar.1.par)] else r.R) = look1R c ar r.R := fun z => by
      unfold look1R
      rw [if_neg z, if_neg (by simp)]
    refine LdI.mk os2 rfl (Bm.mk (fun zp => LdB.mk os2 rfl (Bm.mk (fun zr => waits_ok h2 (by show r.R.length ≤ _; omega) fun x hx => ?_) fun zr => fin false (hno fun z => ?_))) fun zp => fin false (hno fun z => bneF zp z.2.1))
    · refine fin _ ?_
      unfold look1R
      have hx' : x < 0 ↔ waitB c ar.1.sd r.R = false := hx
      by_cases zw : waitB c ar.1.sd r.R = false
      · rw [if_pos (decide_eq_true (hx'.2 zw)), if_pos ⟨hk2, bneT zp, zr, zw⟩]
      · rw [if_neg (by simp; exact Int.not_lt.1 (fun z => zw (hx'.1 z))), if_neg (fun z => zw z.2.2.2)]
    · rw [z.2.2.1] at zr
      cases zr
  · have hk1 : ar.1.kind = 1 := by
      rcases (ok.sk.ei.ok ar har).kind with z | z
      · exact z
      · exact absurd z (beqF zk)
    refine LdI.mk os rfl (Bm.neg (by rw [hk1]; rfl) ?_)
    unfold hostlaw_World_Look.B8
    refine hN r.N r.rb r.rc w1 ?_ ⟨fun z => by omega, fun _ => rfl⟩ (ExtT.nil e1 _)
    have : look1R c ar r.R = r.R := by
      unfold look1R
      rw [if_neg (fun z => by omega)]
    rw [this]
    exact h1
theorem lookRow {N1 : Option Addr → Int → World → Prop} {N2 : Option Addr → Int → Option Addr → Option Addr → Nat → Nat → Int → World → Prop} {R : Bool → World → Prop} (hL : LawAt w0 w a m r k) (hs : Sys T (fun d => (m.H d).t) G X Lg) (hI : LookI G X r.del (r.N.map (·.E))) (hG : GB0 n G) (hn : n ≤ 4398046511104) (hc : c < 3) (ok : HsOk n (m.H c)) (hlb : Sk.IAt w lb (sdsE (m.H c).t.K.E)) (hln : (m.H c).t.K.E.length = ln) (har : (m.H c).t.K.E[q]? = some ar) (hb : r.R.length ≤ 4398046511103) (hsn : (r.sn c).length ≤ 1000)
    (htop : ar.1.sd ∉ r.sn c → k.top c < ar.1.sd)
    (hN : ∀ N' b cc top' w', LawAt w0 w' a m { r with N := N', R := look1R c ar r.R, rb := b, rc := cc } { k with top := top' } → RowD c ar (m.H c).t G X r.del (r.N.map (·.E)) (N'.map (·.E)) → (top' = k.top ∨ (top' = updI k.top c ar.1.sd ∧ ar.1.sd ∉ r.sn c)) → ExtT w w' lookTys → N2 (some ⟨a, 0, none⟩) (c : Int) (some ⟨(m.BH c).hp, 0, none⟩) (some ⟨lb, 0, none⟩) ln ln (IntKind.i64.wrap ((q : Int) + 1)) w') :
    hostlaw_World_Look.L2b (some ⟨a, 0, none⟩) (c : Int) (some ⟨(m.BH c).hp, 0, none⟩) (some ⟨lb, 0, none⟩) ln ln (q : Int) w N1 N2 R := by
  have hq := (List.getElem?_eq_some_iff.1 har).1
  have harm := List.mem_of_getElem? har
  have hE6 := rows6' ok.sk
  have hsd : (sdsE (m.H c).t.K.E)[q]? = some ar.1.sd := by unfold sdsE; rw [List.getElem?_map, har]; rfl
  have hsd1 := (ok.sk.ei.sd ar harm).1
  unfold hostlaw_World_Look.L2b
  have b2 : ∀ tt : Bool, tt = false → hostlaw_World_Look.B2 (some ⟨a, 0, none⟩) (c : Int) (some ⟨(m.BH c).hp, 0, none⟩) (some ⟨lb, 0, none⟩) ln ln (q : Int) ar.1.sd tt w N1 N2 R := fun tt ht => by
    unfold hostlaw_World_Look.B2
    refine Bm.neg ht (Pn.mk ⟨⟨by omega, by omega⟩, hL.ldSeen hc (has_ok (hL.r.sn c hc) (by omega) ?_)⟩)
    by_cases z : ar.1.sd ∈ r.sn c
    · rw [decide_eq_true z]
      refine Bm.neg rfl (lookB3 hL hs hI hG hn hc ok harm hb fun N' b cc w' h' rd t' => hN N' b cc k.top w' h' rd (.inl rfl) t')
    · rw [decide_eq_false z]
      have hlt := htop z
      refine Bm.pos rfl (Pn.mk ⟨⟨by omega, by omega⟩, hL.ldTop hc (Bm.neg (decide_eq_false (by omega)) (Pn.mk ⟨⟨by omega, by omega⟩, hL.stTop hc fun w2 hs2 h2 e2 => ?_⟩))⟩)
      exact lookB3 h2 hs hI hG hn hc ok harm hb fun N' b cc w' h' rd t' => hN N' b cc _ w' h' rd (.inr ⟨rfl, z⟩) (((ExtT.of e2 (Tys.one hL.own)).mono (by decide)).trans t')
  refine Bm.pos (decide_eq_true (by omega)) (Pn.mk ⟨⟨by omega, by omega⟩, hlb.ld (addr_i lb q) hsd (Bm.neg (decide_eq_false (by omega)) (Bm.ite (fun hq0 => ?_) fun hq0 => b2 false rfl))⟩)
  have ew : IntKind.i64.wrap ((q : Int) - 1) = ((q - 1 : Nat) : Int) := by rw [w64 (by omega) (by omega)]; omega
  obtain ⟨br, hbr⟩ : ∃ br, (m.H c).t.K.E[q - 1]? = some br := ⟨_, List.getElem?_eq_getElem (by omega)⟩
  have hsb : (sdsE (m.H c).t.K.E)[q - 1]? = some br.1.sd := by unfold sdsE; rw [List.getElem?_map, hbr]; rfl
  rw [ew]
  refine Pn.mk ⟨⟨by omega, by omega⟩, hlb.ld (addr_i lb (q - 1)) hsb (b2 _ (decide_eq_false ?_))⟩
  have hp := List.pairwise_iff_getElem.1 ok.sk.asc (q - 1) q (by omega) hq (by omega)
  rw [(List.getElem?_eq_some_iff.1 hbr).2, (List.getElem?_eq_some_iff.1 har).2] at hp
  have hp' : br.1.sd.toNat < ar.1.sd.toNat := hp
  have := (ok.sk.ei.sd br (List.mem_of_getElem? hbr)).1
  omega
end
end Go.Proofs.Qxb6500424aGreat
