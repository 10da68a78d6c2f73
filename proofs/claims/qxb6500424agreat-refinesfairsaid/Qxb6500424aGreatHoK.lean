/-
  host: the calls: Recv, shut, Close, Abort.
-/
import Derived.Test.Qxb6500424aGreatHoJ
set_option linter.unusedVariables false
set_option linter.unusedSimpArgs false
open Go.Vc
namespace Go.Proofs.Qxb6500424aGreat
section
variable {w w' w0 : World} {B : HB} {h : HS} {n : Int}
/-- What Recv hands over. -/
def GotAt (w0 w : World) (gb : Option Addr) (gl gc : Nat) (D : List Int) : Prop := (gb = none ∧ gl = 0 ∧ gc = 0 ∧ D = []) ∨ ∃ k, gb = some ⟨k, 0, none⟩ ∧ gl = D.length ∧ gc = D.length ∧ w0.heap.size ≤ k ∧ Bf w k D
theorem GotAt.extT {w0 : World} {gb : Option Addr} {gl gc : Nat} {D : List Int} {ts : List TypeId} (hg : GotAt w0 w gb gl gc D) (he : ExtT w w' ts) (ht : T_uint8 ∉ ts) : GotAt w0 w' gb gl gc D := by
  rcases hg with q | ⟨k, h1, h2, h3, h4, h5⟩
  · exact .inl q
  · exact .inr ⟨k, h1, h2, h3, h4, he.own h5.1 ht, h5.2⟩
theorem recv_call_ok {sd mx : Int} {R : Option Addr → Nat → Nat → Option Addr → Nat → Nat → Int → World → Prop} (hh : HostAt w B h) (ok : HsOk n h) (hn : n ≤ 36028797018963968)
    (herr : (recvT sd mx h.t).e ≠ 0 → ∀ w', HostAt w' B { h with t := (recvT sd mx h.t).t } → Ext B.all w w' → R none 0 0 none 0 0 (recvT sd mx h.t).e w')
    (hok : (recvT sd mx h.t).e = 0 → ∀ gb gl gc b l c F' w', FrL w' b l c w.heap.size F' → F'.map (·.1) = (callH h (recvT sd mx h.t)).2 → HostAt w' B (callH h (recvT sd mx h.t)).1 → Ext B.all w w' → GotAt w w' gb gl gc (recvT sd mx h.t).v → (∀ kg, gb = some ⟨kg, 0, none⟩ → ∀ e ∈ F', kg < e.2) → R gb gl gc b l c 0 w') : host_Host_Recv.Call (some ⟨B.hp, 0, none⟩) sd mx w R := by
  apply host_Host_Recv.sound
  unfold host_Host_Recv.B0
  refine ours_ok hh ok fun w1 he1 => New.mk fun en w2 een hs2 oen he2 => ?_
  have z1 := he1.size
  refine Sts.full (vs := Sk.entVs (Sk.getV h.t.K.E sd).1) oen rfl rfl fun w3 hs3 o3 he3 => ?_
  have E3 : Ext [] w w3 := (he1.trans he2).trans' he3 (fun y hy hl => by simp at hy; omega)
  have X3 : Ext B.all w w3.drew := (E3.trans (Ext.drew _ _)).nil
  cases ho : oursE h.t.K.E sd with
  | none =>
    have es : recvT sd mx h.t = ⟨[], 21, h.t, []⟩ := by unfold recvT; rw [ho]
    rw [es] at herr
    exact Bm.pos rfl (herr (show (21 : Int) ≠ 0 by decide) w3 (hh.ext0 E3) E3.nil)
  | some a =>
    obtain ⟨hg, hka, hp⟩ := oursE_kind ho
    rw [getV_some hg] at o3
    have ha := getE_mem hg
    have con := (ok.sk.ei.ok a ha.1).con hka
    have hs0 : 0 ≤ a.1.slot := con.2.2.2.2.2.2.1
    have hs4' : a.1.slot < 4 := con.2.2.2.2.2.2.2.1
    have hsl : a.1.slot.toNat < 4 := by omega
    have k3 := (hh.ext0 E3).drew
    have er : recvT sd mx h.t = if (recvF mx (h.t.C (slotN a))).2.e ≠ 0 then ⟨[], (recvF mx (h.t.C (slotN a))).2.e, ⟨h.t.K, updX h.t.C (slotN a) (recvF mx (h.t.C (slotN a))).2.C⟩, []⟩ else ⟨(recvF mx (h.t.C (slotN a))).1, 0, ⟨h.t.K, updX h.t.C (slotN a) (recvF mx (h.t.C (slotN a))).2.C⟩, (recvF mx (h.t.C (slotN a))).2.G.map (stampS a.1)⟩ := by unfold recvT; rw [ho]
    rw [er] at herr hok
    refine Bm.neg rfl (LdI.mk o3.drew rfl (Pn.mk ⟨⟨hs0, hs4'⟩, hostCx k3 hs0 hs4' ?_⟩))
    refine cRecv_ok (mx := mx) (k3.C _ hsl) (ok.cs _ hsl) ?_
    intro gb gl gc sb sl sc E w5 hS5 hG5 hC5 he5 hl5 hgot
    have k5 := k3.setC hsl hC5 he5
    have ok5 : HsOk n { h with t := ⟨h.t.K, updX h.t.C a.1.slot.toNat (recvF mx (h.t.C a.1.slot.toNat)).2.C⟩ } := ok.setC (recvF_ok (ok.cs _ hsl))
    have ty5 : Tys w3.drew [B.cx a.1.slot.toNat, B.cs a.1.slot.toNat, B.cr a.1.slot.toNat] [T_conn_Conn, T_seg_SendBuf, T_seg_RecvBuf] := (k3.C _ hsl).tys
    have X5 : Ext B.all w w5 := extVia X3 he5 (fun y hy => by
      left
      simp only [List.mem_cons, List.not_mem_nil, or_false] at hy
      rcases hy with rfl | rfl | rfl
      · exact HB.mcx hsl
      · exact HB.mcs hsl
      · exact HB.mcr hsl)
    have o5 : Own w5 en (Sk.entVs a.1).toArray 66 := ownT he5 ty5 o3.drew (by decide)
    refine Bm.mk (fun q => ?_) (fun q => ?_)
    · have q' : (recvF mx (h.t.C (slotN a))).2.e ≠ 0 := bneT q
      rw [if_pos q'] at herr
      exact herr q' w5 k5 X5
    · have q' : ¬ (recvF mx (h.t.C (slotN a))).2.e ≠ 0 := bneF q
      rw [if_neg q'] at hok
      have hgot' : GotAt w w5 gb gl gc (recvF mx (h.t.C (slotN a))).1 := by
        rcases hgot with z | ⟨k, a1, a2, a3, a4, a5⟩
        · exact .inl z
        · exact .inr ⟨k, a1, a2, a3, by have := (E3.trans (Ext.drew [] w3)).size; omega, a5⟩
      refine New.mk fun b6 w6 eb6 hs6 ob6 he6 => ?_
      have F6 : FrL w6 (some ⟨b6, 0, none⟩) 0 0 w5.heap.size [] := FrL.new ob6 (by omega)
      refine Sk.ldEntB (he6.own o5 (by simp)) ?_
      refine emit_ok2 (e := a.1) (w0 := w5) he6.nil (k5.ext0 he6) ok5 (by omega) F6 (by omega) (hS5.ext0 he6) hl5 fun b' l' c' F' w' h1 h2 h3 h4 _ h6 => ?_
      have hG5' : E.map (·.1) = (recvF mx (h.t.C (slotN a))).2.G := hG5
      have e : (E.map fun x => stampS a.1 x.1) = (recvF mx (h.t.C (slotN a))).2.G.map (stampS a.1) := by rw [← hG5', List.map_map]; rfl
      rw [e] at h2 h3
      have z5 := X5.size
      refine hok rfl gb gl gc b' l' c' F' w' ⟨h1.row, h1.dat, h1.asc, fun e he => Nat.le_trans z5 (h1.ge e he), fun y hy => Nat.le_trans z5 (h1.blk y hy), h1.cap⟩ (by rw [List.map_nil, List.nil_append] at h2; exact h2) h3 (X5.trans' h4 (fun y hy _ => hy)) ((hgot'.extT (ExtT.nil he6 (hostTys ++ [81])) (by decide)).extT h6 (by decide)) (fun kg hkg e he => ?_)
      have hge := h1.ge e he
      rcases hgot' with ⟨zz, _⟩ | ⟨k, a1, _, _, _, a5⟩
      · rw [zz] at hkg; cases hkg
      · rw [a1] at hkg
        cases hkg
        have := a5.lt
        omega
/-! ### shut -/
def shutX (lsd : Int) (l : List Int) (h : HS) : HS × List (List Int) := sendAllH { h with t := (shutLT lsd l h.t).1 } (shutLT lsd l h.t).2
theorem shutX_nil (lsd : Int) (h : HS) : shutX lsd [] h = (h, []) := rfl
theorem shutX_cons {lsd sd : Int} {l : List Int} {h : HS} (u : TC) : shutX lsd (sd :: l) h = ((shutX lsd l { (sendAllH { h with t := u } (shut1T lsd sd h.t).2).1 with t := (shut1T lsd sd h.t).1 }).1, (sendAllH { h with t := u } (shut1T lsd sd h.t).2).2 ++ (shutX lsd l { (sendAllH { h with t := u } (shut1T lsd sd h.t).2).1 with t := (shut1T lsd sd h.t).1 }).2) := by
  have w1 := sendAllH_with (shut1T lsd sd h.t).2 h (shutLT lsd l (shut1T lsd sd h.t).1).1
  have w2 := sendAllH_with (shut1T lsd sd h.t).2 h u
  have l0 : shutX lsd (sd :: l) h = sendAllH { h with t := (shutLT lsd l (shut1T lsd sd h.t).1).1 } ((shut1T lsd sd h.t).2 ++ (shutLT lsd l (shut1T lsd sd h.t).1).2) := rfl
  rw [l0, sendAllH_append, w1, w2]
  rfl
theorem shutX_skip {lsd sd : Int} {l : List Int} {h : HS} (e : shut1T lsd sd h.t = (h.t, [])) : shutX lsd (sd :: l) h = shutX lsd l h := by
  rw [shutX_cons h.t, e]
  simp [sendAllH]
theorem rows6' {K : Sk.SkS} (ok : Sk.SkOk K) : K.E.length ≤ 6 := by
  have h4 := Sk.slots_len ok [] List.nodup_nil (fun x hx => by cases hx) (fun x hx => by cases hx)
  have hl := ok.ei.lis
  have : ∀ E : List Sk.AE, E.length = (E.filter Sk.isL).length + (E.filter fun a => !Sk.isL a).length := fun E => by
    induction E with
    | nil => rfl
    | cons a E ih =>
      cases q : Sk.isL a with
      | true => rw [List.filter_cons_of_pos q, List.filter_cons_of_neg (by simp [q])]; simp; omega
      | false => rw [List.filter_cons_of_neg (by simp [q]), List.filter_cons_of_pos (by simp [q])]; simp; omega
  have := this K.E
  simp at h4
  omega
theorem abort_len (x : CS) : (abortF x).G.length ≤ 1 := by
  unfold abortF
  split
  · simp
  split
  · split <;> simp
  split <;> simp
theorem beqT {x y : Int} (h : (x == y) = true) : x = y := by simpa using h
theorem beqF {x y : Int} (h : (x == y) = false) : ¬ x = y := by simpa using h
theorem shut_ok {lsd : Int} {R : Option Addr → Nat → Nat → World → Prop} (hh : HostAt w B h) (ok : HsOk n h) (hn : n ≤ 36028797018963968) (hl0 : lsd ≠ 0) (hR : Post w B [] (sendAllH { h with t := (shutT lsd h.t).1 } (shutT lsd h.t).2) R) : host_Host_shut.Call (some ⟨B.hp, 0, none⟩) lsd w R := by
  apply host_Host_shut.sound
  unfold host_Host_shut.B0
  refine New.mk fun b11 w3 eb hs3 ob he3 => Pn.mk (hostLdP (o := 17) (hh.ext0 he3) (by omega) rfl ?_)
  have F3 : FrL w3 (some ⟨b11, 0, none⟩) 0 0 w.heap.size [] := FrL.new ob (by omega)
  refine Sk.realList_ok (hh.ext0 he3).T ok.sk fun lb w4 hlb hli he4 => ?_
  have hfin : ∀ (hj : HS) (F' : List (List Int)), (shutX lsd (sdsE h.t.K.E) h).1 = hj → (shutX lsd (sdsE h.t.K.E) h).2 = F' → sendAllH { h with t := (shutT lsd h.t).1 } (shutT lsd h.t).2 = ({ hj with t := ⟨(Sk.freeA lsd hj.t.K).2, hj.t.C⟩ }, F') := fun hj F' e1 e2 => by
    have w1 := sendAllH_with (shutLT lsd (sdsE h.t.K.E) h.t).2 h (shutLT lsd (sdsE h.t.K.E) h.t).1
    have w2 := sendAllH_with (shutLT lsd (sdsE h.t.K.E) h.t).2 h (shutT lsd h.t).1
    have eX : shutX lsd (sdsE h.t.K.E) h = ({ (sendAllH h (shutLT lsd (sdsE h.t.K.E) h.t).2).1 with t := (shutLT lsd (sdsE h.t.K.E) h.t).1 }, (sendAllH h (shutLT lsd (sdsE h.t.K.E) h.t).2).2) := w1
    have eS : (shutT lsd h.t).2 = (shutLT lsd (sdsE h.t.K.E) h.t).2 := rfl
    rw [eS, w2, ← e1, ← e2, eX]
    rfl
  generalize hL : sdsE h.t.K.E = L at hfin
  have hLl : h.t.K.E.length = L.length := by rw [← hL]; simp [sdsE]
  have hL6 : L.length ≤ 6 := by rw [← hLl]; exact rows6' ok.sk
  have hli' : Sk.IAt w4 lb L := by rw [← hL]; exact hli
  have X4 : Ext B.all w w4 := (he3.trans he4).nil
  unfold host_Host_shut.L1
  refine ⟨fun m h0' lsd' b' l' c' lb' ll' lc' i w' => some ⟨B.hp, 0, none⟩ = h0' ∧ lsd = lsd' ∧ some ⟨lb, 0, none⟩ = lb' ∧ L.length = ll' ∧ ∃ (j : Nat) (hj : HS) (F' : List (List Int × Nat)), i = (j : Int) ∧ j ≤ L.length ∧ m = L.length - j ∧ l' ≤ 9 * j ∧ FrL w' b' l' c' w.heap.size F' ∧ HostAt w' B hj ∧ HsOk (n + 12 * j) hj ∧ Sk.IAt w' lb L ∧ Ext B.all w w' ∧
    (shutX lsd L h).1 = (shutX lsd (L.drop j) hj).1 ∧ (shutX lsd L h).2 = F'.map (·.1) ++ (shutX lsd (L.drop j) hj).2, L.length,
    ⟨rfl, rfl, rfl, hLl.symm, 0, h, [], rfl, by omega, by omega, by omega, F3.ext0 he4, (hh.ext0 he3).ext0 he4, by simpa using ok, hli', X4, rfl, by simp⟩, ?_⟩
  rintro m h0' lsd' b' l' c' lb' ll' lc' i w' ⟨rfl, rfl, rfl, rfl, j, hj, F', rfl, hjl, rfl, hl', hF, kj, okj, hlj, hX, r1, r2⟩
  unfold host_Host_shut.L1b
  refine Bm.ite (fun hlt => Pn.mk ?_) (fun hge => ?_)
  rotate_left
  · have ej : L.drop j = [] := List.drop_eq_nil_of_le (by omega)
    rw [ej, shutX_nil] at r1 r2
    have := hfin hj (F'.map (·.1)) r1 (by rw [r2]; simp)
    rw [this] at hR
    refine Pn.mk (hostLdP (o := 17) kj (by omega) rfl ?_)
    refine Sk.realFree_ok kj.T okj.sk fun w7 hT7 he7 => ?_
    obtain ⟨T, F0, C0', o0, ht, _⟩ := kj.T
    have ty7 : Tys w' [B.tb] [T_sock_Table] := Tys.one ht
    exact hR b' l' c' F' w7 (hF.keepT he7 ty7 (by decide) (by decide)) (by simp) (kj.setT hT7 he7) (extVia hX he7 (fun y hy => by simp at hy; subst hy; left; simp [HB.all]))
  have hlt' : j < L.length := by omega
  obtain ⟨sd, hsd⟩ : ∃ sd, L[j]? = some sd := ⟨_, List.getElem?_eq_getElem hlt'⟩
  have hdrop : L.drop j = sd :: L.drop (j + 1) := by
    rw [List.drop_eq_getElem_cons hlt']
    congr 1
    have := List.getElem?_eq_getElem hlt'
    rw [hsd] at this
    exact (Option.some.inj this).symm
  have hcell : ∀ {wz : World}, Sk.IAt wz lb L → wz.cell? ⟨lb, j, none⟩ = some (.int .i64 sd) := fun {wz} hi => Own.cell hi (by simp [hsd, Sk.iv])
  have kd := kj.drew
  have hld : Sk.IAt w'.drew lb L := Own.drew hlj
  refine hostLdP (o := 17) kd (by omega) rfl (Pn.mk ⟨⟨by omega, by omega⟩, ?_⟩)
  have ead : Addr.add ⟨lb, 0, none⟩ ((j : Int).toNat * 1) = ⟨lb, j, none⟩ := by rw [add_mk, Nat.zero_add, Nat.mul_one, Int.toNat_natCast]
  rw [ead]
  refine LdI.cell (hcell hld) ?_
  have body : ∀ en w3, Ext [] w'.drew w3 → w'.drew.heap.size ≤ en → Own w3 en (Sk.entVs (Sk.getV hj.t.K.E sd).1).toArray 66 → host_Host_shut.B1 (some ⟨B.hp, 0, none⟩) lsd b' l' c' (some ⟨lb, 0, none⟩) L.length lc' (j : Int) en (Sk.getV hj.t.K.E sd).2 w3 (fun h0' lsd' b' l' c' lb' ll' lc' i w' => ∃ m', m' < L.length - j ∧ some ⟨B.hp, 0, none⟩ = h0' ∧ lsd = lsd' ∧ some ⟨lb, 0, none⟩ = lb' ∧ L.length = ll' ∧ ∃ (j : Nat) (hj : HS) (F' : List (List Int × Nat)), i = (j : Int) ∧ j ≤ L.length ∧ m' = L.length - j ∧ l' ≤ 9 * j ∧ FrL w' b' l' c' w.heap.size F' ∧ HostAt w' B hj ∧ HsOk (n + 12 * j) hj ∧ Sk.IAt w' lb L ∧ Ext B.all w w' ∧
    (shutX lsd L h).1 = (shutX lsd (L.drop j) hj).1 ∧ (shutX lsd L h).2 = F'.map (·.1) ++ (shutX lsd (L.drop j) hj).2) R := fun en w3 he3 hen oen => by
    have E3 : Ext [] w' w3 := (Ext.drew _ _).trans he3
    have k3 := kj.ext0 E3
    have F3' := hF.ext0 E3
    have X3' : Ext B.all w w3 := extVia hX E3 (fun y hy => by cases hy)
    have l3 : Sk.IAt w3 lb L := E3.own hlj (by simp)
    have next : ∀ {b2 : Option Addr} {l2 c2 : Nat} {w5 : World} {hk : HS} {F2 : List (List Int × Nat)}, l2 ≤ 9 * (j + 1) → FrL w5 b2 l2 c2 w.heap.size F2 → HostAt w5 B hk → HsOk (n + 12 * (j + 1)) hk → Sk.IAt w5 lb L → Ext B.all w w5 → (shutX lsd L h).1 = (shutX lsd (L.drop (j + 1)) hk).1 → (shutX lsd L h).2 = F2.map (·.1) ++ (shutX lsd (L.drop (j + 1)) hk).2 →
        host_Host_shut.B3 (some ⟨B.hp, 0, none⟩) lsd b2 l2 c2 (some ⟨lb, 0, none⟩) L.length lc' (j : Int) w5 (fun h0' lsd' b' l' c' lb' ll' lc' i w' => ∃ m', m' < L.length - j ∧ some ⟨B.hp, 0, none⟩ = h0' ∧ lsd = lsd' ∧ some ⟨lb, 0, none⟩ = lb' ∧ L.length = ll' ∧ ∃ (j : Nat) (hj : HS) (F' : List (List Int × Nat)), i = (j : Int) ∧ j ≤ L.length ∧ m' = L.length - j ∧ l' ≤ 9 * j ∧ FrL w' b' l' c' w.heap.size F' ∧ HostAt w' B hj ∧ HsOk (n + 12 * j) hj ∧ Sk.IAt w' lb L ∧ Ext B.all w w' ∧
    (shutX lsd L h).1 = (shutX lsd (L.drop j) hj).1 ∧ (shutX lsd L h).2 = F'.map (·.1) ++ (shutX lsd (L.drop j) hj).2) R := fun {b2 l2 c2 w5 hk F2} g1 g2 g3 g4 g5 g6 g7 g8 => by
      unfold host_Host_shut.B3
      rw [w64 (by omega) (by omega)]
      exact ⟨L.length - (j + 1), by omega, rfl, rfl, rfl, rfl, j + 1, hk, F2, by push_cast; rfl, by omega, rfl, g1, g2, g3, by push_cast; exact g4, g5, g6, g7, g8⟩
    have skip : shut1T lsd sd hj.t = (hj.t, []) → host_Host_shut.B3 (some ⟨B.hp, 0, none⟩) lsd b' l' c' (some ⟨lb, 0, none⟩) L.length lc' (j : Int) w3 _ R := fun q => by
      rw [hdrop, shutX_skip q] at r1 r2
      exact next (by omega) F3' k3 (okj.mono (by omega)) l3 X3' r1 r2
    unfold host_Host_shut.B1
    cases hg : Sk.getE hj.t.K.E sd with
    | none =>
      rw [getV_none hg]
      refine Bm.pos rfl ?_
      unfold host_Host_shut.B2
      exact Bm.pos rfl (skip (by unfold shut1T; rw [hg]))
    | some a =>
      rw [getV_some hg] at oen ⊢
      have ha := getE_mem hg
      refine Bm.neg rfl (LdI.mk oen rfl ?_)
      unfold host_Host_shut.B2
      have es : shut1T lsd sd hj.t = if a.1.par ≠ lsd then (hj.t, []) else if (abortF (hj.t.C (slotN a))).e = 0 then (⟨hj.t.K, updX hj.t.C (slotN a) (abortF (hj.t.C (slotN a))).C⟩, (abortF (hj.t.C (slotN a))).G.map (stampS a.1)) else (⟨hj.t.K, updX hj.t.C (slotN a) (abortF (hj.t.C (slotN a))).C⟩, []) := by unfold shut1T; rw [hg]
      refine Bm.mk (fun q => ?_) (fun q => ?_)
      · have q' : a.1.par ≠ lsd := bneT q
        exact skip (by rw [es, if_pos q'])
      · have q' : ¬ a.1.par ≠ lsd := bneF q
        rw [if_neg q'] at es
        have hpar : a.1.par = lsd := by simpa using q'
        have hka : a.1.kind = 2 := by
          rcases (okj.sk.ei.ok a ha.1).kind with z | z
          · have := ((okj.sk.ei.ok a ha.1).lis z).2.2.2.2.2.1
            omega
          · exact z
        have con := (okj.sk.ei.ok a ha.1).con hka
        have hs0 : 0 ≤ a.1.slot := con.2.2.2.2.2.2.1
        have hs4' : a.1.slot < 4 := con.2.2.2.2.2.2.2.1
        have hsl : a.1.slot.toNat < 4 := by omega
        refine LdI.mk oen.drew rfl (Pn.mk ⟨⟨hs0, hs4'⟩, hostCx k3.drew hs0 hs4' ?_⟩)
        refine cAbort_ok (k3.drew.C _ hsl) (okj.cs _ hsl) ?_
        intro sb sl sc E w4' hS4 hG4 hC4 he4' hl4
        have k4 := k3.drew.setC hsl hC4 he4'
        have ok4 : HsOk (n + 12 * j) { hj with t := ⟨hj.t.K, updX hj.t.C a.1.slot.toNat (abortF (hj.t.C a.1.slot.toNat)).C⟩ } := okj.setC (abortF_ok (okj.cs _ hsl))
        have E4 : Ext [B.cx a.1.slot.toNat, B.cs a.1.slot.toNat, B.cr a.1.slot.toNat] w3 w4' := (Ext.drew _ _).trans he4'
        have ty4 : Tys w3 [B.cx a.1.slot.toNat, B.cs a.1.slot.toNat, B.cr a.1.slot.toNat] [T_conn_Conn, T_seg_SendBuf, T_seg_RecvBuf] := (k3.C _ hsl).tys
        have F4 := F3'.keepT E4 ty4 (by decide) (by decide)
        have X4' : Ext B.all w w4' := extVia X3' E4 (fun y hy => by
          left
          simp only [List.mem_cons, List.not_mem_nil, or_false] at hy
          rcases hy with rfl | rfl | rfl
          · exact HB.mcx hsl
          · exact HB.mcs hsl
          · exact HB.mcr hsl)
        have o4 : Own w4' en (Sk.entVs a.1).toArray 66 := ownT E4 ty4 oen (by decide)
        have l4 : Sk.IAt w4' lb L := ownT E4 ty4 l3 (by decide)
        have hrow := shutX_cons (lsd := lsd) (sd := sd) (l := L.drop (j + 1)) (h := hj) ⟨hj.t.K, updX hj.t.C a.1.slot.toNat (abortF (hj.t.C a.1.slot.toNat)).C⟩
        rw [hdrop, hrow, es] at r1 r2
        have hal := abort_len (hj.t.C (slotN a))
        refine Bm.mk (fun q0 => ?_) (fun q0 => ?_)
        · have q0' : (abortF (hj.t.C (slotN a))).e = 0 := beqT q0
          rw [if_pos q0'] at r1 r2
          refine emit_keep X4' k4 ok4 (by omega) F4 (by omega) hS4 hG4 hl4 o4 l4 ?_
          intro b5 l5 c5 F5 w5 f1 f2 f3 f4 o5 l5'
          have ok5 := HsOk.sends (h := h) ((abortF (hj.t.C (slotN a))).G.map (stampS a.1)) _ _ ok4
          have hsl5 := sendAllH_len ((abortF (hj.t.C (slotN a))).G.map (stampS a.1)) { hj with t := ⟨hj.t.K, updX hj.t.C a.1.slot.toNat (abortF (hj.t.C a.1.slot.toNat)).C⟩ }
          have hst5 := (sendAllH_t ((abortF (hj.t.C (slotN a))).G.map (stampS a.1)) { hj with t := ⟨hj.t.K, updX hj.t.C a.1.slot.toNat (abortF (hj.t.C a.1.slot.toNat)).C⟩ }).1
          have f3' : HostAt w5 B (sendAllH { hj with t := ⟨hj.t.K, updX hj.t.C a.1.slot.toNat (abortF (hj.t.C a.1.slot.toNat)).C⟩ } ((abortF (hj.t.C (slotN a))).G.map (stampS a.1))).1 := f3
          have f2' : F5.map (·.1) = F'.map (·.1) ++ (sendAllH { hj with t := ⟨hj.t.K, updX hj.t.C a.1.slot.toNat (abortF (hj.t.C a.1.slot.toNat)).C⟩ } ((abortF (hj.t.C (slotN a))).G.map (stampS a.1))).2 := f2
          generalize sendAllH { hj with t := ⟨hj.t.K, updX hj.t.C a.1.slot.toNat (abortF (hj.t.C a.1.slot.toNat)).C⟩ } ((abortF (hj.t.C (slotN a))).G.map (stampS a.1)) = r5 at r1 r2 ok5 hsl5 hst5 f3' f2'
          rw [List.length_map] at ok5 hsl5
          have hl5 : l5 ≤ 9 * (j + 1) := by
            have h1 := f1.len
            have h2 := hF.len
            have := congrArg List.length f2'
            rw [List.length_append, List.length_map, List.length_map] at this
            omega
          have eH : ({ r5.1 with t := ⟨hj.t.K, updX hj.t.C (slotN a) (abortF (hj.t.C (slotN a))).C⟩ } : HS) = r5.1 := by
            have et : r5.1.t = ⟨hj.t.K, updX hj.t.C (slotN a) (abortF (hj.t.C (slotN a))).C⟩ := hst5
            rw [← et]
          have r1' : (shutX lsd L h).1 = (shutX lsd (L.drop (j + 1)) { r5.1 with t := ⟨hj.t.K, updX hj.t.C (slotN a) (abortF (hj.t.C (slotN a))).C⟩ }).1 := r1
          have r2' : (shutX lsd L h).2 = F'.map (·.1) ++ (r5.2 ++ (shutX lsd (L.drop (j + 1)) { r5.1 with t := ⟨hj.t.K, updX hj.t.C (slotN a) (abortF (hj.t.C (slotN a))).C⟩ }).2) := r2
          rw [eH] at r1' r2'
          exact next hl5 f1 f3' (ok5.mono (by omega)) l5' f4 r1' (by rw [r2', f2', List.append_assoc])
        · have q0' : ¬ (abortF (hj.t.C (slotN a))).e = 0 := beqF q0
          rw [if_neg q0'] at r1 r2
          exact next (by omega) F4 k4 (ok4.mono (by omega)) l4 X4' r1 (by rw [r2]; simp [sendAllH]; rfl)
  exact get_new (a := ⟨lb, j, none⟩) (i := j) (b := lb) kd okj (fun w4 he4 => hcell (he4.own hld (by simp))) (fun w4 he4 => by
    rw [add_mk, Nat.zero_add]
    exact Own.cell (kd.ext0 he4).own (by rw [fnArr_get _ (by omega)]; rfl)) body
end
end Go.Proofs.Qxb6500424aGreat
