/-
  hostlaw: SameEntry, SameConn, Seam.
-/
import Derived.Test.Qxb6500424aGreatHmE
set_option linter.unusedVariables false
set_option linter.unusedSimpArgs false
open Go.Vc
namespace Go.Proofs.Qxb6500424aGreat
section
variable {w0 w w' : World} {a c : Nat} {m : LH} {r : LR} {k : LC} {B : HB} {h : HS} {n : Int} {x y : Nat} {C : CS}
theorem cmpI {o : Nat} {v : Int} {K : Int → Int → Prop} (hA : InAt w x C) (hB : InAt w y C) (ho : o < 18) (hv : inF C (inV C) o = .int .i64 v) (hk : K v v) : Pn (some ⟨x, 0, none⟩) fun a => LdI .i64 (a.add o) w fun u => Pn (some ⟨y, 0, none⟩) fun b => LdI .i64 (b.add o) w (K u) :=
  Pn.mk (inLdI hA ho hv (Pn.mk (inLdI hB ho hv hk)))
theorem cmpB {o : Nat} {v : Bool} {K : Bool → Bool → Prop} (hA : InAt w x C) (hB : InAt w y C) (ho : o < 18) (hv : inF C (inV C) o = .bool v) (hk : K v v) : Pn (some ⟨x, 0, none⟩) fun a => LdB (a.add o) w fun u => Pn (some ⟨y, 0, none⟩) fun b => LdB (b.add o) w (K u) :=
  Pn.mk (inLdB hA ho hv (Pn.mk (inLdB hB ho hv hk)))
theorem bne_self' (v : Int) : (v != v) = false := by simp
theorem beq_self'' (v : Int) : (v == v) = true := by simp
theorem nbeq_self (v : Bool) : (!(v == v)) = false := by cases v <;> rfl
theorem sameConn_ok {R : Bool → World → Prop} (hA : InAt w x C) (hB : InAt w y C) (hR : ∀ w', Ext [] w w' → R true w') : hostlaw_SameConn.Call (some ⟨x, 0, none⟩) (some ⟨y, 0, none⟩) w R := by
  apply hostlaw_SameConn.sound
  unfold hostlaw_SameConn.B0
  refine Bm.neg rfl ?_
  unfold hostlaw_SameConn.B1
  have A1 : InAt w.drew x C := Own.drew hA
  have B1 : InAt w.drew y C := Own.drew hB
  refine Bm.neg rfl (Pn.mk (LdI.fn (o := 0) A1 (by omega) rfl (Pn.mk (LdI.fn (o := 0) B1 (by omega) rfl ?_))))
  refine Bm.neg (bne_self' _) (cmpI A1 B1 (o := 1) (by omega) rfl (Bm.neg (bne_self' _) (cmpB A1 B1 (o := 2) (by omega) rfl (Bm.neg (nbeq_self _) (cmpB A1 B1 (o := 3) (by omega) rfl (Bm.neg (nbeq_self _) (cmpB A1 B1 (o := 4) (by omega) rfl (Bm.neg (nbeq_self _) (cmpB A1 B1 (o := 5) (by omega) rfl ?_)))))))))
  unfold hostlaw_SameConn.B2
  have A2 : InAt w.drew.drew x C := Own.drew A1
  have B2 : InAt w.drew.drew y C := Own.drew B1
  refine Bm.neg (nbeq_self _) (cmpI A2 B2 (o := 6) (by omega) rfl (Bm.neg (bne_self' _) (cmpI A2 B2 (o := 7) (by omega) rfl (Bm.neg (bne_self' _) (cmpI A2 B2 (o := 8) (by omega) rfl (Bm.neg (bne_self' _) (cmpI A2 B2 (o := 13) (by omega) rfl ?_)))))))
  unfold hostlaw_SameConn.B3
  have A3 : InAt w.drew.drew.drew x C := Own.drew A2
  have B3 : InAt w.drew.drew.drew y C := Own.drew B2
  refine Bm.neg (bne_self' _) (cmpI A3 B3 (o := 9) (by omega) rfl (Bm.neg (bne_self' _) (cmpI A3 B3 (o := 10) (by omega) rfl (Bm.neg (bne_self' _) (cmpI A3 B3 (o := 11) (by omega) rfl (Bm.neg (bne_self' _) (cmpI A3 B3 (o := 12) (by omega) rfl ?_)))))))
  unfold hostlaw_SameConn.B4
  have A4 : InAt w.drew.drew.drew.drew x C := Own.drew A3
  have B4 : InAt w.drew.drew.drew.drew y C := Own.drew B3
  refine Bm.neg (bne_self' _) (cmpI A4 B4 (o := 14) (by omega) rfl (Bm.pos (beq_self'' _) (cmpI A4 B4 (o := 15) (by omega) rfl (Bm.pos (beq_self'' _) (cmpI A4 B4 (o := 16) (by omega) rfl (Bm.pos (beq_self'' _) (cmpI A4 B4 (o := 17) (by omega) rfl ?_)))))))
  rw [beq_self'']
  exact hR _ (((((Ext.drew [] _).trans (Ext.drew [] _)).trans (Ext.drew [] _)).trans (Ext.drew [] _)))
theorem sameConn_nil {R : Bool → World → Prop} (hR : R true w) : hostlaw_SameConn.Call none none w R := by
  apply hostlaw_SameConn.sound
  unfold hostlaw_SameConn.B0
  refine Bm.pos rfl ?_
  unfold hostlaw_SameConn.B1
  exact Bm.pos rfl (Bm.pos rfl hR)
theorem sameEntry_ok {e : Sk.Ent} {R : Bool → World → Prop} (hR : ∀ w', Ext [] w w' → R true w') : hostlaw_SameEntry.Call e.sd e.kind e.lp e.rh e.rp e.slot e.par e.rdy e.sd e.kind e.lp e.rh e.rp e.slot e.par e.rdy w R := by
  apply hostlaw_SameEntry.sound
  unfold hostlaw_SameEntry.B0
  refine New.mk fun x w1 ex hs1 ox he1 => New.mk fun y w2 ey hs2 oy he2 => ?_
  have ox2 := he2.own ox (by simp)
  refine LdI.mk ox2 rfl (LdI.mk oy rfl (Bm.neg (bne_self' _) (LdI.mk ox2 rfl (LdI.mk oy rfl (Bm.neg (bne_self' _) (LdI.mk ox2 rfl (LdI.mk oy rfl (Bm.neg (bne_self' _) (LdI.mk ox2 rfl (LdI.mk oy rfl (Bm.neg (bne_self' _) (LdB.mk ox2 rfl (LdB.mk oy rfl ?_)))))))))))))
  unfold hostlaw_SameEntry.B1
  refine Bm.neg (nbeq_self _) (LdI.mk ox2 rfl (LdI.mk oy rfl (Bm.pos (beq_self'' _) (LdI.mk ox2 rfl (LdI.mk oy rfl (Bm.pos (beq_self'' _) (LdI.mk ox2 rfl (LdI.mk oy rfl ?_))))))))
  rw [beq_self'']
  exact hR w2 (he1.trans he2)
theorem addB (a c o : Nat) : (Addr.add (Addr.add ⟨a, 0, none⟩ 3) ((c : Int).toNat * 7)).add o = ⟨a, 3 + c * 7 + o, none⟩ := by rw [add2, add_mk, Int.toNat_natCast]
theorem LawAt.ldBT {K : Option Addr → Prop} (hL : LawAt w0 w a m r k) (hc : c < 3) (hk : K (some ⟨(m.BH c).tb, 0, none⟩)) : LdP ((Addr.add (Addr.add ⟨a, 0, none⟩ 3) ((c : Int).toNat * 7)).add 6) w K := by
  rw [addB]
  exact LdP.fn hL.own (by omega) (by rw [hL.below hc (by omega)]; rfl) hk
theorem LawAt.ldBC {s : Nat} {K : Option Addr → Prop} (hL : LawAt w0 w a m r k) (hc : c < 3) (hs : s < 4) (hk : K (some ⟨(m.BH c).cx s, 0, none⟩)) : LdP (Addr.add ((Addr.add (Addr.add ⟨a, 0, none⟩ 3) ((c : Int).toNat * 7)).add 2) ((s : Int).toNat * 1)) w K := by
  rw [addB, add_mk, Int.toNat_natCast, Nat.mul_one, show 3 + c * 7 + 2 + s = 3 + c * 7 + (2 + s) by omega]
  refine LdP.fn hL.own (by omega) ?_ hk
  rw [hL.below hc (by omega)]
  unfold belowF pt
  rw [if_neg (by omega), if_neg (by omega), if_pos (by omega), show 2 + s - 2 = s by omega]
theorem row_len {b : Option Addr} {l cc : Nat} {L : List Int} (h : Row w b l cc 1 T_int (L.map Sk.iv)) : L.length = l := by have := h.1; simp at this; omega
theorem slot_lt {K : Sk.SkS} (h : Sk.SkOk K) {e : Sk.AE} (he : e ∈ K.E) (hk : e.1.kind = 2) : 0 ≤ e.1.slot ∧ e.1.slot < 4 := by
  obtain ⟨_, _, _, _, _, _, h1, h2, _⟩ := (h.ei.ok e he).con hk
  exact ⟨h1, h2⟩
theorem seam_ok {R : Bool → World → Prop} (hL : LawAt w0 w a m r k) (hc : c < 3) (ok : HsOk n (m.H c)) (hs : r.sn c = sdsE (m.H c).t.K.E) (hR : ∀ w', Ext [] w w' → R true w') : hostlaw_World_Seam.Call (some ⟨a, 0, none⟩) (c : Int) w R := by
  apply hostlaw_World_Seam.sound
  unfold hostlaw_World_Seam.B0
  have hE6 := rows6' ok.sk
  refine Pn.mk ⟨⟨by omega, by omega⟩, hL.ldBT hc (Sk.realList_ok (hL.h.H c hc).T ok.sk fun lb w1 hlb hl1 he1 => ?_)⟩
  have hl1' : Sk.IAt w1 lb (sdsE (m.H c).t.K.E) := hl1
  have hL1 := hL.ext0 he1
  have hlen : (sdsE (m.H c).t.K.E).length = (m.H c).t.K.E.length := by simp [sdsE]
  have rowL := iat_row hl1'
  rw [hlen] at rowL
  have rowS := hL1.r.sn c hc
  rw [hs] at rowS
  refine Pn.mk ⟨⟨by omega, by omega⟩, hL1.ldSeen hc ?_⟩
  rw [hs]
  refine sameInts_ok rowL rowS (by omega) fun w2 he2 => Bm.neg rfl ?_
  unfold hostlaw_World_Seam.L1
  have E2 := he1.trans he2
  have l2 := hl1'.ext he2 (by simp)
  generalize hlg : (m.H c).t.K.E.length = ln at *
  refine ⟨fun mm a' c' b' l' cc' i w' => ∃ q : Nat, q ≤ ln ∧ mm = ln - q ∧ some ⟨a, 0, none⟩ = a' ∧ (c : Int) = c' ∧ some ⟨lb, 0, none⟩ = b' ∧ ln = l' ∧ ln = cc' ∧ i = (q : Int) ∧ Ext [] w2 w', ln, ⟨0, by omega, rfl, rfl, rfl, rfl, rfl, rfl, rfl, Ext.refl _ _⟩, ?_⟩
  rintro mm a' c' b' l' cc' i w' ⟨q, hq, rfl, rfl, rfl, rfl, rfl, rfl, rfl, he'⟩
  unfold hostlaw_World_Seam.L1b
  refine Bm.ite (fun hlt => ?_) fun hge => hR w' (E2.trans he')
  have he'd : Ext [] w2 w'.drew := he'.trans (Ext.drew _ _)
  have Ed := E2.trans he'd
  have hLd := hL.ext0 Ed
  have ld := l2.ext he'd (by simp)
  obtain ⟨ar, har⟩ : ∃ ar, (m.H c).t.K.E[q]? = some ar := ⟨_, List.getElem?_eq_getElem (by omega)⟩
  have harm := List.mem_of_getElem? har
  have hsd : (sdsE (m.H c).t.K.E)[q]? = some ar.1.sd := by unfold sdsE; rw [List.getElem?_map, har]; rfl
  have hget : Sk.getE (m.H c).t.K.E ar.1.sd = some ar := Sk.getE_some ok.sk.ei harm
  have hgv := getV_some hget
  have hH := hLd.h.H c hc
  have next : ∀ {w9 : World}, Ext [] w'.drew w9 → ∃ m', m' < ln - q ∧ ∃ q_1 : Nat, q_1 ≤ ln ∧ m' = ln - q_1 ∧ some (⟨a, 0, none⟩ : Addr) = some ⟨a, 0, none⟩ ∧ (c : Int) = (c : Int) ∧ some (⟨lb, 0, none⟩ : Addr) = some ⟨lb, 0, none⟩ ∧ ln = ln ∧ ln = ln ∧ IntKind.i64.wrap ((q : Int) + 1) = (q_1 : Int) ∧ Ext [] w2 w9 := fun {w9} e9 =>
    ⟨ln - (q + 1), by omega, q + 1, by omega, rfl, rfl, rfl, rfl, rfl, rfl, by rw [w64 (by omega) (by omega)]; omega, he'd.trans e9⟩
  refine Pn.mk ⟨⟨by omega, by omega⟩, hLd.ldBT hc (Pn.mk ⟨⟨by omega, by omega⟩, ld.ld (addr_i lb q) hsd ?_⟩)⟩
  refine get_new (a := ⟨a, 0, none⟩) (i := 0) (b := 0) hH ok (fun w4 e4 => ?_) (fun w4 e4 => ?_) fun en w3 e3 hen oen => ?_
  · rw [addr_i]
    exact Own.cell (ld.ext e4 (by simp)) (by rw [List.getElem?_toArray, List.getElem?_map, hsd]; rfl)
  · rw [addB]
    exact ((hLd.ext0 e4).own).cell (by rw [fnArr_get _ (by omega), hL.below hc (by omega)]; rfl)
  · rw [hgv] at oen ⊢
    unfold hostlaw_World_Seam.B1
    have oen1 : Own w3 en (Sk.entVs ar.1).toArray 66 := oen
    have oend := oen1.drew
    have e3d := e3.trans (Ext.drew [] w3)
    have hL3 := hLd.ext0 e3d
    have l3 := ld.ext e3d (by simp)
    -- behind Info
    have fin : ∀ {s : Nat} {f : Int} {w5 : World}, InfoR w5 s (m.H c) ar.1.sd f → Ext [] w3.drew w5 → hostlaw_World_Seam.B2 (some ⟨a, 0, none⟩) (c : Int) (some ⟨lb, 0, none⟩) ln ln (q : Int) en 0 s f w5 (fun a' c' b' l' cc' i w' => ∃ m', m' < ln - q ∧ ∃ q : Nat, q ≤ ln ∧ m' = ln - q ∧ some ⟨a, 0, none⟩ = a' ∧ (c : Int) = c' ∧ some ⟨lb, 0, none⟩ = b' ∧ ln = l' ∧ ln = cc' ∧ i = (q : Int) ∧ Ext [] w2 w') R := fun {s f w5} hI e5 => by
      obtain ⟨rfl, ib, hia, os⟩ := hI.yes ar hget
      have oe := e5.own oend (by simp)
      have E5 := e3d.trans e5
      unfold hostlaw_World_Seam.B2
      refine Bm.neg rfl (Bm.neg rfl (LdI.mk oe rfl (LdI.mk oe rfl (LdI.mk oe rfl (LdI.mk oe rfl (LdI.mk oe rfl (LdI.mk oe rfl (LdI.mk oe rfl (LdB.mk oe rfl (LdI.mk os rfl (LdI.mk os rfl (LdI.mk os rfl (LdI.mk os rfl (LdI.mk os rfl (LdI.mk os rfl (LdI.mk os rfl (LdB.mk os rfl (sameEntry_ok (e := ar.1) fun w6 e6 => ?_))))))))))))))))))
      have oe6 := e6.own oe (by simp)
      unfold hostlaw_World_Seam.B3
      refine Bm.neg rfl (LdI.mk oe6 rfl (Bm.mk (fun z => ?_) fun z => next (E5.trans e6)))
      have hk2 : ar.1.kind = 2 := beqT z
      have hsl := slot_lt ok.sk harm hk2
      refine LdI.mk oe6 rfl (Bm.neg (decide_eq_false (show ¬ ar.1.slot < 0 by omega)) (LdI.mk oe6 rfl ?_))
      unfold hostlaw_World_Seam.B4
      obtain ⟨sl, hsl'⟩ : ∃ sl : Nat, ar.1.slot = (sl : Int) := ⟨ar.1.slot.toNat, by omega⟩
      have E6d : Ext [] w'.drew w6.drew := (E5.trans e6).trans (Ext.drew _ _)
      have hL6 := hLd.ext0 E6d
      refine Bm.neg (decide_eq_false (show ¬ ar.1.slot ≥ 4 by omega)) (LdI.mk oe6.drew rfl (Pn.mk ⟨⟨by omega, by omega⟩, ⟨by omega, by omega⟩, ?_⟩))
      show LdP (Addr.add ((Addr.add (Addr.add ⟨a, 0, none⟩ 3) ((c : Int).toNat * 7)).add 2) (ar.1.slot.toNat * 1)) w6.drew _
      rw [hsl']
      have hcs := ok.cs sl (by omega)
      refine hL6.ldBC hc (by omega) (cInfo_ok ((hL6.h.H c hc).C sl (by omega)) hcs.S hcs.B fun cb w7 hcb hca e7 => ?_)
      have os7 := (((Ext.trans e6 (Ext.drew [] _)).trans e7) : Ext [] w5 w7).own os (by simp)
      have ia7 : InAt w7 ib (infoC (m.H c).t ar) := (((Ext.trans e6 (Ext.drew [] _)).trans e7) : Ext [] w5 w7).own hia (by simp)
      have ei : infoC (m.H c).t ar = (m.H c).t.C sl := by
        unfold infoC slotN
        rw [if_pos hk2, hsl', Int.toNat_natCast]
      rw [ei] at ia7
      refine LdP.mk os7 rfl (sameConn_ok hca ia7 fun w8 e8 => Bm.neg rfl (next ((E6d.trans e7).trans e8)))
    refine Pn.mk ⟨⟨by omega, by omega⟩, hL3.ldH hc (Pn.mk ⟨⟨by omega, by omega⟩, l3.ld (addr_i lb q) hsd ⟨?_, ?_⟩⟩)⟩
    · exact info_new (hL3.h.H c hc) ok fun s e w5 hI hs e5 => fin hI e5
    · refine New.mk fun s w4 es hs4 os4 he4 => ⟨?_, ?_, info_at ((hL3.h.H c hc).ext0 he4) ok os4 fun e w5 hI e5 => fin hI (he4.trans' e5 (fun y hy hl => by simp at hy; omega))⟩
      · rw [addr_i]
        exact Own.cell (l3.ext he4 (by simp)) (by rw [List.getElem?_toArray, List.getElem?_map, hsd]; rfl)
      · rw [addC0]
        exact ((hL3.ext0 he4).own).cell (by rw [fnArr_get _ (by omega)]; unfold lawF pt; rw [if_pos hc])
end
end Go.Proofs.Qxb6500424aGreat
