/-
  host: Tick.
-/
import Derived.Test.Qxb6500424aGreatHoH
import Derived.Test.Qxb6500424aGreatHqC
set_option linter.unusedVariables false
set_option linter.unusedSimpArgs false
open Go.Vc
namespace Go.Proofs.Qxb6500424aGreat
theorem sendH_len (h : HS) (o : OutS) : (sendH h o).2.length ≤ 3 := by
  unfold sendH
  split
  · simp
  split
  · simp
  · rename_i he _
    have e0 : encErr h.addr o.1 o.2.1 o.2.2.length = 0 := by simpa using he
    have hl : (sgB h.addr o).length ≤ 40 := by
      unfold sgB
      rw [encSeg_len]
      unfold encErr at e0
      split at e0
      · cases e0
      split at e0
      · cases e0
      split at e0
      · cases e0
      split at e0
      · cases e0
      split at e0
      · cases e0
      omega
    have := (Ip.cntF_le hl).2.1
    simp [frm]
    exact this
theorem sendAllH_len : ∀ (l : List OutS) (h : HS), (sendAllH h l).2.length ≤ 3 * l.length
  | [], h => by simp [sendAllH]
  | o :: l, h => by
    have h1 := sendAllH_len l (sendH h o).1
    have h2 := sendH_len h o
    show ((sendH h o).2 ++ (sendAllH (sendH h o).1 l).2).length ≤ _
    simp
    omega
/-- What is left of a tick. -/
def tickX (l : List Int) (h : HS) : HS × List (List Int) := sendAllH { h with t := (tickT l h.t).1 } (tickT l h.t).2
theorem tickX_nil (h : HS) : tickX [] h = (h, []) := rfl
theorem tickX_skip {sd : Int} {l : List Int} {h : HS} (hs : Sk.getE h.t.K.E sd = none ∨ ∃ a, Sk.getE h.t.K.E sd = some a ∧ a.1.kind ≠ 2) : tickX (sd :: l) h = tickX l h := by
  have e : tickT (sd :: l) h.t = tickT l h.t := by
    show (match Sk.getE h.t.K.E sd with | none => tickT l h.t | some a => if a.1.kind ≠ 2 then tickT l h.t else ((tickT l (tick1T a h.t).1).1, (tick1T a h.t).2 ++ (tickT l (tick1T a h.t).1).2)) = _
    rcases hs with q | ⟨a, q, hk⟩
    · rw [q]
    · rw [q]
      show (if a.1.kind ≠ 2 then tickT l h.t else _ : TC × List OutS) = _
      rw [if_pos hk]
  unfold tickX
  rw [e]
theorem tickX_row {sd : Int} {l : List Int} {h : HS} {a : Sk.AE} (u : TC) (hg : Sk.getE h.t.K.E sd = some a) (hk : a.1.kind = 2) :
    tickX (sd :: l) h = ((tickX l { (sendAllH { h with t := u } (tick1T a h.t).2).1 with t := (tick1T a h.t).1 }).1, (sendAllH { h with t := u } (tick1T a h.t).2).2 ++ (tickX l { (sendAllH { h with t := u } (tick1T a h.t).2).1 with t := (tick1T a h.t).1 }).2) := by
  have e : tickT (sd :: l) h.t = ((tickT l (tick1T a h.t).1).1, (tick1T a h.t).2 ++ (tickT l (tick1T a h.t).1).2) := by
    show (match Sk.getE h.t.K.E sd with | none => tickT l h.t | some a => if a.1.kind ≠ 2 then tickT l h.t else ((tickT l (tick1T a h.t).1).1, (tick1T a h.t).2 ++ (tickT l (tick1T a h.t).1).2)) = _
    rw [hg]
    show (if a.1.kind ≠ 2 then tickT l h.t else _ : TC × List OutS) = _
    rw [if_neg (by simp [hk])]
  have w1 := sendAllH_with (tick1T a h.t).2 h (tickT l (tick1T a h.t).1).1
  have w2 := sendAllH_with (tick1T a h.t).2 h u
  have l0 : tickX (sd :: l) h = sendAllH { h with t := (tickT l (tick1T a h.t).1).1 } ((tick1T a h.t).2 ++ (tickT l (tick1T a h.t).1).2) := by
    unfold tickX
    rw [e]
  rw [l0, sendAllH_append, w1, w2]
  rfl
section
variable {w w' w0 : World} {B : HB} {h : HS} {n : Int}
theorem tickH_eq (h : HS) : tickH h = tickX (sdsE h.t.K.E) (tickH0 h) := rfl
theorem HsOk.setT {t : TC} (k : HsOk n h) (hK : Sk.SkOk t.K) (hC : ∀ s, s < 4 → CsOk (t.C s)) (hn : t.K.nsd ≤ n + 1) : HsOk n { h with t := t } := ⟨k.addr, k.La, k.L, k.nx, k.cr, hK, hC, k.clk, k.lost, k.dr, hn⟩
theorem freeA_nsd (sd : Int) (K : Sk.SkS) : (Sk.freeA sd K).2.nsd = K.nsd := by unfold Sk.freeA; split <;> rfl
/-- Reading a row into a record of its own: either order. -/
theorem get_new {a : Addr} {i : Nat} {b : Nat} {sd : Int} {P Q : World → Prop} {K : Nat → Int → World → Prop} (hh : HostAt w B h) (ok : HsOk n h)
    (hP : ∀ w4, Ext [] w w4 → P w4) (hQ : ∀ w4, Ext [] w w4 → Q w4)
    (hK : ∀ en w3, Ext [] w w3 → w.heap.size ≤ en → Own w3 en (Sk.entVs (Sk.getV h.t.K.E sd).1).toArray 66 → K en (Sk.getV h.t.K.E sd).2 w3) :
    (sock_Table_Get.Call (some ⟨B.tb, 0, none⟩) sd w fun r0 r1 r2 r3 r4 r5 r6 r7 e w1 =>
      New (.cells #[.int .i64 0, .int .i64 0, .int .i64 0, .int .i64 0, .int .i64 0, .int .i64 0, .int .i64 0, .bool false] 66) w1 fun en w2 =>
      Sts [.int .i64 r0, .int .i64 r1, .int .i64 r2, .int .i64 r3, .int .i64 r4, .int .i64 r5, .int .i64 r6, .bool r7] ⟨en, 0, none⟩ 0 w2 fun w3 => K en e w3) ∧
    (New (.cells #[.int .i64 0, .int .i64 0, .int .i64 0, .int .i64 0, .int .i64 0, .int .i64 0, .int .i64 0, .bool false] 66) w fun en w4 => P w4 ∧ Q w4 ∧
      sock_Table_Get.Call (some ⟨B.tb, 0, none⟩) sd w4 fun r0 r1 r2 r3 r4 r5 r6 r7 e w5 =>
      Sts [.int .i64 r0, .int .i64 r1, .int .i64 r2, .int .i64 r3, .int .i64 r4, .int .i64 r5, .int .i64 r6, .bool r7] ⟨en, 0, none⟩ 0 w5 fun w6 => K en e w6) := by
  refine ⟨?_, ?_⟩
  · refine Sk.realGet_ok hh.T ok.sk fun w1 he1 => New.mk fun en w2 een hs2 oen he2 => ?_
    have z1 := he1.size
    exact Sts.full (vs := Sk.entVs (Sk.getV h.t.K.E sd).1) oen rfl rfl fun w3 hs3 o3 he3 => hK en w3 ((he1.trans he2).trans' he3 (fun y hy hl => by simp at hy; omega)) (by omega) o3
  · refine New.mk fun en w4 een hs4 oen he4 => ⟨hP w4 he4, hQ w4 he4, Sk.realGet_ok (hh.ext0 he4).T ok.sk fun w5 he5 => ?_⟩
    exact Sts.full (vs := Sk.entVs (Sk.getV h.t.K.E sd).1) (he5.own oen (by simp)) rfl rfl fun w6 hs6 o6 he6 => hK en w6 ((he4.trans he5).trans' he6 (fun y hy hl => by simp at hy; omega)) (by omega) o6
/-- emit, and what it leaves alone. -/
theorem emit_keep {a : Sk.AE} {ob sb : Option Addr} {ol oc sl sc lo2 en lb : Nat} {L : List Int} {F : List (List Int × Nat)} {E : List (SegV × Nat)} {G : List SegV} {R : Option Addr → Nat → Nat → World → Prop}
    (hE : Ext B.all w0 w) (hh : HostAt w B h) (ok : HsOk n h) (hn : n ≤ 288230376151711744) (hF : FrL w ob ol oc w0.heap.size F) (hol : ol ≤ 900) (hS : SL w sb sl sc lo2 E) (hG : E.map (·.1) = G) (hsl : sl ≤ 10) (hen : Own w en (Sk.entVs a.1).toArray 66) (hlb : Sk.IAt w lb L)
    (hR : ∀ b' l' c' F' w', FrL w' b' l' c' w0.heap.size F' → F'.map (·.1) = F.map (·.1) ++ (sendAllH h (G.map (stampS a.1))).2 → HostAt w' B (sendAllH h (G.map (stampS a.1))).1 → Ext B.all w0 w' → Own w' en (Sk.entVs a.1).toArray 66 → Sk.IAt w' lb L → R b' l' c' w') :
    LdI .i64 ⟨en, 0, none⟩ w fun x0 => LdI .i64 ⟨en, 1, none⟩ w fun x1 => LdI .i64 ⟨en, 2, none⟩ w fun x2 => LdI .i64 ⟨en, 3, none⟩ w fun x3 => LdI .i64 ⟨en, 4, none⟩ w fun x4 => LdI .i64 ⟨en, 5, none⟩ w fun x5 => LdI .i64 ⟨en, 6, none⟩ w fun x6 => LdB ⟨en, 7, none⟩ w fun x7 =>
      host_Host_emit.Call (some ⟨B.hp, 0, none⟩) ob ol oc x0 x1 x2 x3 x4 x5 x6 x7 sb sl sc w R := by
  refine Sk.ldEntB hen ?_
  refine emit_ok2 (e := a.1) hE hh ok hn hF hol hS hsl fun b' l' c' F' w' h1 h2 h3 h4 h5 h6 => ?_
  have e : (E.map fun x => stampS a.1 x.1) = G.map (stampS a.1) := by rw [← hG, List.map_map]; rfl
  rw [e] at h2 h3
  exact hR b' l' c' F' w' h1 h2 h3 h4 (h6.own hen (by decide)) (h6.own hlb (by decide))
theorem tick_ok {R : Option Addr → Nat → Nat → World → Prop} (hh : HostAt w B h) (ok : HsOk n h) (hn : n ≤ 36028797018963968) (hR : Post w B [] (tickH h) R) : host_Host_Tick.Call (some ⟨B.hp, 0, none⟩) w R := by
  apply host_Host_Tick.sound
  unfold host_Host_Tick.B0
  have hclk := ok.clk
  refine Pn.mk (hostLdI (o := 1) hh (by omega) rfl (Pn.mk ?_))
  rw [add_mk, Nat.zero_add, w64 (by omega) (by omega)]
  refine hh.st (h' := { h with clk := h.clk + 1 }) (by omega) rfl (fun j hj => ?_) rfl rfl rfl rfl rfl rfl fun w1 hs1 k1 he1 => Pn.mk (hostLdP (o := 12) k1 (by omega) rfl ?_)
  · by_cases q : j = 1
    · subst q; rfl
    · rw [if_neg q]
      unfold hostF
      simp only [if_neg q]
  obtain ⟨S, hip, hrel, ea, en, ec⟩ := k1.P.ex
  refine Ip.realTick_ok hip hrel fun w2 hs2 hip2 he2 => ?_
  have k2 : HostAt w2 B (tickH0 h) := k1.setP (nx := h.nx) (cr := 24) (A := Ip.tickA h.A) ⟨_, hip2, hrel.tick, ea, en, rfl⟩ he2
  have ok2 : HsOk (n + 1) (tickH0 h) := by
    have k' := ok.mono (m := n + 1) (by omega)
    exact ⟨k'.addr, k'.La, k'.L, k'.nx, by show (0 : Int) ≤ 24 ∧ (24 : Int) ≤ 24; decide, k'.sk, k'.cs, by show 0 ≤ h.clk + 1 ∧ h.clk + 1 ≤ n + 1; omega, k'.lost, k'.dr, k'.nsd⟩
  have X2 : Ext B.all w w2 := extVia (extVia (Ext.refl _ _) he1 (fun y hy => by simp at hy; subst hy; left; simp [HB.all])) he2 (fun y hy => by simp at hy; subst hy; left; simp [HB.all])
  refine New.mk fun b21 w3 eb hs3 ob he3 => Pn.mk (hostLdP (o := 17) (k2.ext0 he3) (by omega) rfl ?_)
  have zX := X2.size
  have F3 : FrL w3 (some ⟨b21, 0, none⟩) 0 0 w.heap.size [] := FrL.new ob (by omega)
  have X3 : Ext B.all w w3 := extVia X2 he3 (fun y hy => by cases hy)
  refine Sk.realList_ok (k2.ext0 he3).T ok.sk fun lb w4 hlb hli he4 => ?_
  rw [tickH_eq] at hR
  have e0 : (tickH0 h).t = h.t := rfl
  generalize hL : sdsE h.t.K.E = L at hR
  have hLl : h.t.K.E.length = L.length := by rw [← hL]; simp [sdsE]
  have hL6 : L.length ≤ 6 := by
    rw [← hLl]
    have h4 := Sk.slots_len ok.sk [] List.nodup_nil (fun x hx => by cases hx) (fun x hx => by cases hx)
    have hl := ok.sk.ei.lis
    have : ∀ E : List Sk.AE, E.length = (E.filter Sk.isL).length + (E.filter fun a => !Sk.isL a).length := fun E => by
      induction E with
      | nil => rfl
      | cons a E ih =>
        cases q : Sk.isL a with
        | true => rw [List.filter_cons_of_pos q, List.filter_cons_of_neg (by simp [q])]; simp; omega
        | false => rw [List.filter_cons_of_neg (by simp [q]), List.filter_cons_of_pos (by simp [q])]; simp; omega
    have := this h.t.K.E
    simp at h4
    omega
  have hli' : Sk.IAt w4 lb L := by rw [← hL]; exact hli
  have eK : (tickH0 h).t.K.E.length = L.length := hLl
  unfold host_Host_Tick.L1
  refine ⟨fun m h0' b' l' c' lb' ll' lc' i w' => some ⟨B.hp, 0, none⟩ = h0' ∧ some ⟨lb, 0, none⟩ = lb' ∧ L.length = ll' ∧ ∃ (j : Nat) (hj : HS) (F' : List (List Int × Nat)), i = (j : Int) ∧ j ≤ L.length ∧ m = L.length - j ∧ l' ≤ 9 * j ∧ FrL w' b' l' c' w.heap.size F' ∧ HostAt w' B hj ∧ HsOk (n + 1 + 12 * j) hj ∧ Sk.IAt w' lb L ∧ Ext B.all w w' ∧
    (tickX L (tickH0 h)).1 = (tickX (L.drop j) hj).1 ∧ (tickX L (tickH0 h)).2 = F'.map (·.1) ++ (tickX (L.drop j) hj).2, L.length,
    ⟨rfl, rfl, hLl.symm, 0, tickH0 h, [], rfl, by omega, by omega, by omega, F3.ext0 he4, (k2.ext0 he3).ext0 he4, by simpa using ok2, hli', extVia X3 he4 (fun y hy => by cases hy), rfl, by simp⟩, ?_⟩
  rintro m h0' b' l' c' lb' ll' lc' i w' ⟨rfl, rfl, rfl, j, hj, F', rfl, hjl, rfl, hl', hF, kj, okj, hlj, hX, r1, r2⟩
  unfold host_Host_Tick.L1b
  refine Bm.ite (fun hlt => Pn.mk ?_) (fun hge => ?_)
  rotate_left
  · have ej : L.drop j = [] := List.drop_eq_nil_of_le (by omega)
    rw [ej, tickX_nil] at r1 r2
    exact hR b' l' c' F' w' hF (by rw [r2]; simp) (by rw [r1]; exact kj) hX
  have hlt' : j < L.length := by omega
  obtain ⟨sd, hsd⟩ : ∃ sd, L[j]? = some sd := ⟨_, List.getElem?_eq_getElem hlt'⟩
  have hdrop : L.drop j = sd :: L.drop (j + 1) := by
    rw [List.drop_eq_getElem_cons hlt']
    congr 1
    have := List.getElem?_eq_getElem hlt'
    rw [hsd] at this
    exact (Option.some.inj this).symm
  have hcell : ∀ {wz : World}, Sk.IAt wz lb L → wz.cell? ⟨lb, j, none⟩ = some (.int .i64 sd) := fun {wz} hi => Own.cell hi (by simp [hsd, Sk.iv])
  have kd := kj.drew
  have hld : Sk.IAt w'.drew lb L := Own.drew hlj
  refine hostLdP (o := 17) kd (by omega) rfl (Pn.mk ⟨⟨by omega, by omega⟩, ?_⟩)
  have ead : Addr.add ⟨lb, 0, none⟩ ((j : Int).toNat * 1) = ⟨lb, j, none⟩ := by rw [add_mk, Nat.zero_add, Nat.mul_one, Int.toNat_natCast]
  rw [ead]
  refine LdI.cell (hcell hld) ?_
  -- the rest of the body
  have body : ∀ en w3, Ext [] w'.drew w3 → w'.drew.heap.size ≤ en → Own w3 en (Sk.entVs (Sk.getV hj.t.K.E sd).1).toArray 66 → host_Host_Tick.B1 (some ⟨B.hp, 0, none⟩) b' l' c' (some ⟨lb, 0, none⟩) L.length lc' (j : Int) en (Sk.getV hj.t.K.E sd).2 w3 (fun h0' b' l' c' lb' ll' lc' i w' => ∃ m', m' < L.length - j ∧ some ⟨B.hp, 0, none⟩ = h0' ∧ some ⟨lb, 0, none⟩ = lb' ∧ L.length = ll' ∧ ∃ (j : Nat) (hj : HS) (F' : List (List Int × Nat)), i = (j : Int) ∧ j ≤ L.length ∧ m' = L.length - j ∧ l' ≤ 9 * j ∧ FrL w' b' l' c' w.heap.size F' ∧ HostAt w' B hj ∧ HsOk (n + 1 + 12 * j) hj ∧ Sk.IAt w' lb L ∧ Ext B.all w w' ∧
    (tickX L (tickH0 h)).1 = (tickX (L.drop j) hj).1 ∧ (tickX L (tickH0 h)).2 = F'.map (·.1) ++ (tickX (L.drop j) hj).2) R := fun en w3 he3 hen oen => by
    have E3 : Ext [] w' w3 := (Ext.drew _ _).trans he3
    have k3 := kj.ext0 E3
    have F3' := hF.ext0 E3
    have X3' : Ext B.all w w3 := extVia hX E3 (fun y hy => by cases hy)
    have l3 : Sk.IAt w3 lb L := E3.own hlj (by simp)
    have next : ∀ {b2 : Option Addr} {l2 c2 : Nat} {w5 : World} {hk : HS} {F2 : List (List Int × Nat)}, l2 ≤ 9 * (j + 1) → FrL w5 b2 l2 c2 w.heap.size F2 → HostAt w5 B hk → HsOk (n + 1 + 12 * (j + 1)) hk → Sk.IAt w5 lb L → Ext B.all w w5 → (tickX L (tickH0 h)).1 = (tickX (L.drop (j + 1)) hk).1 → (tickX L (tickH0 h)).2 = F2.map (·.1) ++ (tickX (L.drop (j + 1)) hk).2 →
        host_Host_Tick.B3 (some ⟨B.hp, 0, none⟩) b2 l2 c2 (some ⟨lb, 0, none⟩) L.length lc' (j : Int) w5 (fun h0' b' l' c' lb' ll' lc' i w' => ∃ m', m' < L.length - j ∧ some ⟨B.hp, 0, none⟩ = h0' ∧ some ⟨lb, 0, none⟩ = lb' ∧ L.length = ll' ∧ ∃ (j : Nat) (hj : HS) (F' : List (List Int × Nat)), i = (j : Int) ∧ j ≤ L.length ∧ m' = L.length - j ∧ l' ≤ 9 * j ∧ FrL w' b' l' c' w.heap.size F' ∧ HostAt w' B hj ∧ HsOk (n + 1 + 12 * j) hj ∧ Sk.IAt w' lb L ∧ Ext B.all w w' ∧
    (tickX L (tickH0 h)).1 = (tickX (L.drop j) hj).1 ∧ (tickX L (tickH0 h)).2 = F'.map (·.1) ++ (tickX (L.drop j) hj).2) R := fun {b2 l2 c2 w5 hk F2} g1 g2 g3 g4 g5 g6 g7 g8 => by
      unfold host_Host_Tick.B3
      rw [w64 (by omega) (by omega)]
      exact ⟨L.length - (j + 1), by omega, rfl, rfl, rfl, j + 1, hk, F2, by push_cast; rfl, by omega, rfl, g1, g2, g3, by push_cast; exact g4, g5, g6, g7, g8⟩
    unfold host_Host_Tick.B1
    have skip : (Sk.getE hj.t.K.E sd = none ∨ ∃ a, Sk.getE hj.t.K.E sd = some a ∧ a.1.kind ≠ 2) → tickX (L.drop j) hj = tickX (L.drop (j + 1)) hj := fun q => by rw [hdrop, tickX_skip q]
    cases hg : Sk.getE hj.t.K.E sd with
    | none =>
      rw [getV_none hg]
      refine Bm.pos rfl ?_
      unfold host_Host_Tick.B2
      have e := skip (.inl hg)
      exact Bm.pos rfl (next (by omega) F3' k3 (okj.mono (by omega)) l3 X3' (by rw [← e]; exact r1) (by rw [← e]; exact r2))
    | some a =>
      rw [getV_some hg] at oen ⊢
      have ha := getE_mem hg
      refine Bm.neg rfl (LdI.mk oen rfl ?_)
      unfold host_Host_Tick.B2
      refine Bm.mk (fun q => ?_) (fun q => ?_)
      · have q' : a.1.kind ≠ 2 := bneT q
        have e := skip (.inr ⟨a, hg, q'⟩)
        exact next (by omega) F3' k3 (okj.mono (by omega)) l3 X3' (by rw [← e]; exact r1) (by rw [← e]; exact r2)
      · have hka : a.1.kind = 2 := by simpa using q
        have con := (okj.sk.ei.ok a ha.1).con hka
        have hs0 : 0 ≤ a.1.slot := con.2.2.2.2.2.2.1
        have hs4' : a.1.slot < 4 := con.2.2.2.2.2.2.2.1
        have hsl : a.1.slot.toNat < 4 := by omega
        refine LdI.mk oen.drew rfl (Pn.mk ⟨⟨hs0, hs4'⟩, hostCx k3.drew hs0 hs4' ?_⟩)
        refine cTick_ok (k3.drew.C _ hsl) (okj.cs _ hsl) ?_
        intro sb sl sc E w4' hS4 hG4 hC4 he4' hl4
        have k4 := k3.drew.setC hsl hC4 he4'
        have ok4 : HsOk (n + 1 + 12 * j) { hj with t := ⟨hj.t.K, updX hj.t.C a.1.slot.toNat (tickF (hj.t.C a.1.slot.toNat)).1⟩ } := okj.setC (tickF_ok (okj.cs _ hsl))
        have E4 : Ext [B.cx a.1.slot.toNat, B.cs a.1.slot.toNat, B.cr a.1.slot.toNat] w3 w4' := (Ext.drew _ _).trans he4'
        have ty4 : Tys w3 [B.cx a.1.slot.toNat, B.cs a.1.slot.toNat, B.cr a.1.slot.toNat] [T_conn_Conn, T_seg_SendBuf, T_seg_RecvBuf] := (k3.C _ hsl).tys
        have F4 := F3'.keepT E4 ty4 (by decide) (by decide)
        have X4 : Ext B.all w w4' := extVia X3' E4 (fun y hy => by
          left
          simp only [List.mem_cons, List.not_mem_nil, or_false] at hy
          rcases hy with rfl | rfl | rfl
          · exact HB.mcx hsl
          · exact HB.mcs hsl
          · exact HB.mcr hsl)
        have o4 : Own w4' en (Sk.entVs a.1).toArray 66 := ownT E4 ty4 oen (by decide)
        have l4 : Sk.IAt w4' lb L := ownT E4 ty4 l3 (by decide)
        have et1 : (tick1T a hj.t).2 = (tickF (hj.t.C (slotN a))).2.map (stampS a.1) := rfl
        have htl := tick_len (hj.t.C (slotN a))
        have hrow := tickX_row (l := L.drop (j + 1)) ⟨hj.t.K, updX hj.t.C a.1.slot.toNat (tickF (hj.t.C a.1.slot.toNat)).1⟩ hg hka
        rw [hdrop, hrow] at r1 r2
        have ok5 : HsOk (n + 1 + 12 * (j + 1)) (sendAllH { hj with t := ⟨hj.t.K, updX hj.t.C a.1.slot.toNat (tickF (hj.t.C a.1.slot.toNat)).1⟩ } (tick1T a hj.t).2).1 := by
          refine (HsOk.sends (h := h) (tick1T a hj.t).2 _ _ ok4).mono ?_
          rw [et1, List.length_map]
          omega
        have hsl5 := sendAllH_len (tick1T a hj.t).2 { hj with t := ⟨hj.t.K, updX hj.t.C a.1.slot.toNat (tickF (hj.t.C a.1.slot.toNat)).1⟩ }
        have hst5 := (sendAllH_t (tick1T a hj.t).2 { hj with t := ⟨hj.t.K, updX hj.t.C a.1.slot.toNat (tickF (hj.t.C a.1.slot.toNat)).1⟩ }).1
        have htO : (tick1T a hj.t).2.length ≤ 3 := by rw [et1, List.length_map]; exact htl
        refine emit_keep X4 k4 ok4 (by omega) F4 (by omega) hS4 hG4 hl4 o4 l4 ?_
        intro b5 l5 c5 F5 w5 f1 f2 f3 f4 o5 l5'
        have f3' : HostAt w5 B (sendAllH { hj with t := ⟨hj.t.K, updX hj.t.C a.1.slot.toNat (tickF (hj.t.C a.1.slot.toNat)).1⟩ } (tick1T a hj.t).2).1 := f3
        have f2' : F5.map (·.1) = F'.map (·.1) ++ (sendAllH { hj with t := ⟨hj.t.K, updX hj.t.C a.1.slot.toNat (tickF (hj.t.C a.1.slot.toNat)).1⟩ } (tick1T a hj.t).2).2 := f2
        generalize hr5 : sendAllH { hj with t := ⟨hj.t.K, updX hj.t.C a.1.slot.toNat (tickF (hj.t.C a.1.slot.toNat)).1⟩ } (tick1T a hj.t).2 = r5 at r1 r2 ok5 hsl5 hst5 f3' f2'
        have hl5 : l5 ≤ 9 * (j + 1) := by
          have h1 := f1.len
          have h2 := hF.len
          have := congrArg List.length f2'
          rw [List.length_append, List.length_map, List.length_map] at this
          omega
        have et : r5.1.t = ⟨hj.t.K, updX hj.t.C a.1.slot.toNat (tickF (hj.t.C a.1.slot.toNat)).1⟩ := hst5
        have eu : r5.1 = { r5.1 with t := ⟨hj.t.K, updX hj.t.C a.1.slot.toNat (tickF (hj.t.C a.1.slot.toNat)).1⟩ } := by rw [← et]
        refine LdI.mk o5.drew rfl (Pn.mk ⟨⟨hs0, hs4'⟩, hostCx f3'.drew hs0 hs4' ?_⟩)
        have hc5 := f3'.drew.C _ hsl
        have ecs : r5.1.t.C a.1.slot.toNat = (tickF (hj.t.C a.1.slot.toNat)).1 := by rw [et]; simp [updX]
        have hok := ok5.cs _ hsl
        refine cInfo_ok hc5 hok.S hok.B fun ib w6 hib hin he6 => Pn.mk ?_
        have E6 : Ext [] w5 w6 := (Ext.drew _ _).trans he6
        refine LdI.fn (o := 0) hin (by omega) rfl ?_
        have k6 := f3'.ext0 E6
        have X6 := extVia f4 E6 (fun y hy => by cases hy)
        have l6 : Sk.IAt w6 lb L := E6.own l5' (by simp)
        have F6 := f1.ext0 E6
        have asm : F'.map (·.1) ++ (r5.2 ++ (tickX (L.drop (j + 1)) { r5.1 with t := (tick1T a hj.t).1 }).2) = F5.map (·.1) ++ (tickX (L.drop (j + 1)) { r5.1 with t := (tick1T a hj.t).1 }).2 := by rw [f2', List.append_assoc]
        rw [asm] at r2
        have est : (r5.1.t.C a.1.slot.toNat).st = (tickF (hj.t.C (slotN a))).1.st := by rw [ecs]; rfl
        refine Bm.mk (fun q0 => ?_) (fun q0 => ?_)
        · have q0' : (tickF (hj.t.C (slotN a))).1.st = 0 := by rw [← est]; simpa using q0
          refine Pn.mk (hostLdP (o := 17) k6.drew (by omega) rfl (Pn.mk ⟨⟨by omega, by omega⟩, ?_⟩))
          rw [ead]
          refine LdI.cell (hcell (Own.drew l6)) ?_
          refine Sk.realFree_ok k6.drew.T ok5.sk fun w7 hT7 he7 => ?_
          have k7 := k6.drew.setT hT7 he7
          obtain ⟨T, F0, C0', o0, ht, _⟩ := k6.drew.T
          have ty7 : Tys w6.drew [B.tb] [T_sock_Table] := Tys.one ht
          have eT1 : (tick1T a hj.t).1 = ⟨(Sk.freeA sd r5.1.t.K).2, r5.1.t.C⟩ := by
            rw [et]
            unfold tick1T
            rw [if_pos q0', ha.2]
            rfl
          rw [← eT1] at k7
          refine next hl5 ((F6.ext0 (Ext.drew _ _)).keepT he7 ty7 (by decide) (by decide)) k7 ?_ (ownT he7 ty7 (Own.drew l6) (by decide)) (extVia (extVia X6 (Ext.drew [] _) (fun y hy => by cases hy)) he7 (fun y hy => by simp at hy; subst hy; left; simp [HB.all])) r1 r2
          rw [eT1]
          exact ok5.setT (Sk.freeA_ok ok5.sk sd) ok5.cs (by show (Sk.freeA sd r5.1.t.K).2.nsd ≤ _; rw [freeA_nsd]; exact ok5.nsd)
        · have q0' : (tickF (hj.t.C (slotN a))).1.st ≠ 0 := by rw [← est]; simpa using q0
          have eT1 : (tick1T a hj.t).1 = r5.1.t := by
            rw [et]
            unfold tick1T
            rw [if_neg q0']
            rfl
          have eH : ({ r5.1 with t := (tick1T a hj.t).1 } : HS) = r5.1 := by rw [eT1]
          rw [eH] at r1 r2
          exact next hl5 F6 k6 ok5 l6 X6 r1 r2
  exact get_new (a := ⟨lb, j, none⟩) (i := j) (b := lb) kd okj (fun w4 he4 => hcell (he4.own hld (by simp))) (fun w4 he4 => by
    rw [add_mk, Nat.zero_add]
    exact Own.cell (kd.ext0 he4).own (by rw [fnArr_get _ (by omega)]; rfl)) body
end
end Go.Proofs.Qxb6500424aGreat
