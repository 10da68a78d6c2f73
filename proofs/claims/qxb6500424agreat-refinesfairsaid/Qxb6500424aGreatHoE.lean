/-
  host: emit: a block's segments go out with the row's ports on.
-/
import Derived.Test.Qxb6500424aGreatHoD
set_option linter.unusedVariables false
set_option linter.unusedSimpArgs false
open Go.Vc
namespace Go.Proofs.Qxb6500424aGreat
theorem HsOk.sends {h : HS} : ∀ (l : List OutS) (n : Int) (h : HS), HsOk n h → HsOk (n + 4 * l.length) (sendAllH h l).1
  | [], n, h, k => by simpa [sendAllH] using k
  | o :: l, n, h, k => by
    have := HsOk.sends (h := h) l (n + 4) (sendH h o).1 (k.send o)
    show HsOk _ (sendAllH (sendH h o).1 l).1
    refine this.mono ?_
    simp
    omega
section
variable {w w' w0 : World} {B : HB} {h : HS} {n : Int}
theorem SL.keepT {b : Option Addr} {l c lo : Nat} {E : List (SegV × Nat)} {X : List Nat} {ts : List TypeId} (k : SL w b l c lo E) (he : Ext X w w') (hX : Tys w X ts) (h1 : T_api_Segment ∉ ts) (h2 : T_uint8 ∉ ts) : SL w' b l c lo E :=
  ⟨rowT k.row he hX h1, fun e hm => ⟨ownT he hX (k.dat e hm).1 h2, (k.dat e hm).2⟩, k.asc, k.ge, k.blk, k.cap⟩
theorem FrL.lt {b : Option Addr} {l c lo : Nat} {F : List (List Int × Nat)} (k : FrL w b l c lo F) : ∀ e ∈ F, e.2 < w.heap.size := fun e he => (k.dat e he).lt
def entArr (e : Sk.Ent) : Array Value := #[.int .i64 e.sd, .int .i64 e.kind, .int .i64 e.lp, .int .i64 e.rh, .int .i64 e.rp, .int .i64 e.slot, .int .i64 e.par, .bool e.rdy]
theorem emit_ok2 {e : Sk.Ent} {ob sb : Option Addr} {ol oc sl sc lo2 : Nat} {F : List (List Int × Nat)} {E : List (SegV × Nat)} {R : Option Addr → Nat → Nat → World → Prop}
    (hE : Ext B.all w0 w) (hh : HostAt w B h) (ok : HsOk n h) (hn : n ≤ 288230376151711744) (hF : FrL w ob ol oc w0.heap.size F) (hol : ol ≤ 900) (hS : SL w sb sl sc lo2 E) (hsl : sl ≤ 10)
    (hR : ∀ b' l' c' F' w', FrL w' b' l' c' w0.heap.size F' → F'.map (·.1) = F.map (·.1) ++ (sendAllH h (E.map fun x => stampS e x.1)).2 → HostAt w' B (sendAllH h (E.map fun x => stampS e x.1)).1 → Ext B.all w0 w' → l' ≤ ol + 3 * sl → ExtT w w' (hostTys ++ [81]) → R b' l' c' w') :
    host_Host_emit.Call (some ⟨B.hp, 0, none⟩) ob ol oc e.sd e.kind e.lp e.rh e.rp e.slot e.par e.rdy sb sl sc w R := by
  apply host_Host_emit.sound
  unfold host_Host_emit.B0
  refine New.mk fun en w1 een hs1 oen he1 => ?_
  have oen' : Own w1 en (entArr e) 66 := oen
  have hlenE := hS.len
  have z1 := he1.size
  unfold host_Host_emit.L1
  refine ⟨fun m h0' b' l' c' sb' sl' sc' en' i w' => some ⟨B.hp, 0, none⟩ = h0' ∧ sb = sb' ∧ sl = sl' ∧ sc = sc' ∧ en = en' ∧ ∃ (j : Nat) (F' : List (List Int × Nat)), i = (j : Int) ∧ j ≤ sl ∧ m = sl - j ∧ l' ≤ ol + 3 * j ∧ FrL w' b' l' c' w0.heap.size F' ∧
    F'.map (·.1) = F.map (·.1) ++ (sendAllH h ((E.take j).map fun x => stampS e x.1)).2 ∧ HostAt w' B (sendAllH h ((E.take j).map fun x => stampS e x.1)).1 ∧ SL w' sb sl sc lo2 E ∧ Own w' en (entArr e) 66 ∧ Ext B.all w0 w' ∧ ExtT w w' (hostTys ++ [81]), sl,
    ⟨rfl, rfl, rfl, rfl, rfl, 0, F, rfl, by omega, by omega, by omega, hF.ext0 he1, by simp [sendAllH], hh.ext0 he1, hS.ext0 he1, oen', hE.trans' he1 (fun x hx => by cases hx), ExtT.nil he1 _⟩, ?_⟩
  rintro m h0' b' l' c' sb' sl' sc' en' i w' ⟨rfl, rfl, rfl, rfl, rfl, j, F', rfl, hj, rfl, hl', hF', hmap, kj, hSj, oj, hE', hT'⟩
  unfold host_Host_emit.L1b
  refine Bm.ite (fun hlt => ?_) (fun hge => ?_)
  · have hlt' : j < sl := by omega
    obtain ⟨x, hx⟩ : ∃ x, E[j]? = some x := ⟨_, List.getElem?_eq_getElem (by omega)⟩
    obtain ⟨k, rfl, cs, hok, hc⟩ := hSj.row.at hlt' (by omega)
    have hc' : ∀ r, r < 7 → cs[j * 7 + r]? = (segC x)[r]? := fun r hr => by rw [hc r hr, flat_get segC_len hx hr]
    have hcell : ∀ r, r < 7 → ∀ v, (segC x)[r]? = some v → w'.cell? ⟨k, j * 7 + r, none⟩ = some v := fun r hr v hv => hok.cell (by rw [hc' r hr]; exact hv)
    have ej : ((j : Int)).toNat = j := Int.toNat_natCast j
    refine Pn.mk ⟨⟨by omega, by omega⟩, ?_⟩
    simp only [add_mk, ej, Nat.zero_add]
    refine LdI.cell (hcell 0 (by omega) _ rfl) (LdI.cell (hcell 1 (by omega) _ rfl) (LdI.cell (hcell 2 (by omega) _ rfl) (LdI.cell (hcell 3 (by omega) _ rfl) (LdI.cell (hcell 4 (by omega) _ rfl) (LdI.cell (hcell 5 (by omega) _ rfl) (LdL.cell (hcell 6 (by omega) _ rfl) ?_))))))
    refine New.mk fun s_ w2 es hs2 os he2 => ?_
    have hns : en ≠ s_ := by have := oj.lt; omega
    refine Sts.full (vs := [.int .i64 x.1.1.sp, .int .i64 x.1.1.dp, .int .i64 x.1.1.sq, .int .i64 x.1.1.ak, .int .i64 x.1.1.fl, .int .i64 x.1.1.wn, .slice (some ⟨x.2, 0, none⟩) x.1.2.length x.1.2.length]) os rfl rfl fun w3 hs3 o3 he3 => ?_
    have e3 : Ext [s_] w' w3 := he2.nil.trans he3
    refine LdI.mk (e3.own oj (by simpa using hns)) rfl ?_
    refine Sts.mk o3 (by simp) rfl fun w4 hs4 o4 he4 => ?_
    have e4 := e3.trans he4
    refine LdI.mk (e4.own oj (by simpa using hns)) rfl ?_
    refine Sts.mk o4 (by simp [size_putArr]) rfl fun w5 hs5 o5 he5 => ?_
    have e5 := e4.trans he5
    refine LdI.mk (e5.own oj (by simpa using hns)) rfl ?_
    refine LdI.mk o5 rfl (LdI.mk o5 rfl (LdI.mk o5 rfl (LdI.mk o5 rfl (LdI.mk o5 rfl (LdI.mk o5 rfl (LdL.mk o5 rfl ?_))))))
    have E5 : Ext [] w' w5 := e5.mono (fun y hy hl => by simp at hy; omega)
    have k5 := kj.ext0 E5
    have F5 := hF'.ext0 E5
    have S5 := hSj.ext0 E5
    have okj := HsOk.sends (h := h) ((E.take j).map fun x => stampS e x.1) n h ok
    rw [List.length_map, List.length_take] at okj
    have hmin : min j E.length = j := by omega
    rw [hmin] at okj
    have hdat := (S5.dat x (List.mem_of_getElem? hx)).rd0
    refine send_ok (o := stampS e x.1) (extVia hE' E5 (fun y hy => by cases hy)) k5 okj (by omega) F5 (by omega) hdat rfl F5.lt fun b6 l6 c6 F6 w6 hF6 hm6 k6 hE6 hX6 hl6 => ?_
    rw [w64 (by omega) (by omega)]
    have htak : E.take (j + 1) = E.take j ++ [x] := by rw [List.take_add_one, hx]; rfl
    have hsplit : sendAllH h ((E.take (j + 1)).map fun x => stampS e x.1) = ((sendH (sendAllH h ((E.take j).map fun x => stampS e x.1)).1 (stampS e x.1)).1, (sendAllH h ((E.take j).map fun x => stampS e x.1)).2 ++ (sendH (sendAllH h ((E.take j).map fun x => stampS e x.1)).1 (stampS e x.1)).2) := by
      rw [htak, List.map_append, sendAllH_append]
      simp [sendAllH]
    have ty : Tys w5 (B.all ++ rowBlk b') (hostTys ++ [81]) := k5.tys.app (Tys.row F5.row)
    refine ⟨sl - (j + 1), by omega, trivial, trivial, trivial, trivial, trivial, j + 1, F6, by push_cast; rfl, by omega, rfl, by omega, hF6, ?_, by rw [hsplit]; exact k6, S5.keepT hX6 ty (by decide) (by decide), ownT hX6 ty (E5.own oj (by simp)) (by decide), hE6, (hT'.trans (ExtT.nil E5 _)).trans (ExtT.of hX6 ty)⟩
    rw [hm6, hmap, hsplit, List.append_assoc]
  · have ej : j = sl := by omega
    subst ej
    have et : E.take j = E := List.take_of_length_le (by omega)
    rw [et] at hmap kj
    exact hR b' l' c' F' w' hF' hmap kj hE' hl' hT'
theorem emit_ok {e : Sk.Ent} {ob sb : Option Addr} {ol oc sl sc lo2 : Nat} {F : List (List Int × Nat)} {E : List (SegV × Nat)} {R : Option Addr → Nat → Nat → World → Prop}
    (hE : Ext B.all w0 w) (hh : HostAt w B h) (ok : HsOk n h) (hn : n ≤ 288230376151711744) (hF : FrL w ob ol oc w0.heap.size F) (hol : ol ≤ 900) (hS : SL w sb sl sc lo2 E) (hsl : sl ≤ 10)
    (hR : ∀ b' l' c' F' w', FrL w' b' l' c' w0.heap.size F' → F'.map (·.1) = F.map (·.1) ++ (sendAllH h (E.map fun x => stampS e x.1)).2 → HostAt w' B (sendAllH h (E.map fun x => stampS e x.1)).1 → Ext B.all w0 w' → l' ≤ ol + 3 * sl → R b' l' c' w') :
    host_Host_emit.Call (some ⟨B.hp, 0, none⟩) ob ol oc e.sd e.kind e.lp e.rh e.rp e.slot e.par e.rdy sb sl sc w R :=
  emit_ok2 hE hh ok hn hF hol hS hsl fun b' l' c' F' w' h1 h2 h3 h4 h5 _ => hR b' l' c' F' w' h1 h2 h3 h4 h5
end
end Go.Proofs.Qxb6500424aGreat
