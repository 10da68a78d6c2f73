/-
  connlaw: the law's small functions.
-/
import Derived.Test.Qxb6500422aGreatCnN
set_option linter.unusedVariables false
set_option linter.unusedSimpArgs false
open Go.Vc
namespace Go.Proofs.Qxb6500422aGreat

/-! ### Scribble, SameSeg, SameInts, Stamp -/
theorem scribble_ok {w : World} {k l c : Nat} {v : List Int} {R : World → Prop} (h : Bf w k v) (hl : l ≤ v.length) (hb : l ≤ 281474976710656)
    (hR : ∀ w', w'.heap.size = w.heap.size → (∃ v', Bf w' k v') → Ext [k] w w' → R w') : connlaw_Scribble.Call (some ⟨k, 0, none⟩) l c w R := by
  apply connlaw_Scribble.sound
  unfold connlaw_Scribble.B0 connlaw_Scribble.L1
  refine ⟨fun m b' l' c' i w' => ∃ (n : Nat) (v' : List Int), n ≤ l ∧ m = l - n ∧ some ⟨k, 0, none⟩ = b' ∧ l = l' ∧ i = (n : Int) ∧ Bf w' k v' ∧ v'.length = v.length ∧ w'.heap.size = w.heap.size ∧ Ext [k] w w', _, ⟨0, v, by omega, rfl, rfl, rfl, rfl, h, rfl, rfl, Ext.refl _ _⟩, ?_⟩
  rintro m b' l' c' i w' ⟨n, v', hn, rfl, rfl, rfl, rfl, h', hl', hs', he'⟩
  unfold connlaw_Scribble.L1b
  refine Bm.ite (fun hlt => ?_) fun hge => hR w' hs' ⟨v', h'⟩ he'
  obtain ⟨x, hx⟩ := get_lt (L := v') (n := n) (by omega)
  obtain ⟨kk, o, e, hc⟩ := (h'.rd0).at hx
  simp only [Option.some.injEq, Addr.mk.injEq, and_true] at e
  obtain ⟨rfl, rfl⟩ := e
  refine Pn.mk ⟨⟨by omega, by omega⟩, LdI.cell (n := x) (by rw [addr_k]; exact hc) (Pn.mk ⟨⟨by omega, by omega⟩, ?_⟩)⟩
  rw [addr_i]
  refine h'.set (by omega) (wrap8_isB _) fun w2 hs2 h2 he2 => ⟨l - (n + 1), by omega, n + 1, _, by omega, rfl, rfl, rfl, by rw [w64 (by omega) (by omega)]; omega, h2, by simpa using hl', by omega, he'.trans he2⟩
theorem sameSeg_ok {w : World} {H : Hd} {ab bb : Option Addr} {al ac bl bc : Nat} {D : List Int} {R : Bool → World → Prop} (ha : Rd w ab D) (hb : Rd w bb D) (hal : D.length = al) (hbl : D.length = bl) (hl : al ≤ 281474976710656)
    (hR : ∀ w', Ext [] w w' → R true w') : connlaw_SameSeg.Call H.sp H.dp H.sq H.ak H.fl H.wn ab al ac H.sp H.dp H.sq H.ak H.fl H.wn bb bl bc w R := by
  apply connlaw_SameSeg.sound
  unfold connlaw_SameSeg.B0
  refine New.mk fun a w1 e1 s1 o1 he1 => New.mk fun b w2 e2 s2 o2 he2 => ?_
  have o1' := he2.own o1 (by simp)
  have hx := he1.trans he2
  refine LdI.mk o1' rfl (LdI.mk o2 rfl (Bm.neg (by simp) (LdI.mk o1' rfl (LdI.mk o2 rfl (Bm.neg (by simp) (LdI.mk o1' rfl (LdI.mk o2 rfl (Bm.neg (by simp) (LdI.mk o1' rfl (LdI.mk o2 rfl (Bm.neg (by simp) (LdI.mk o1' rfl (LdI.mk o2 rfl (Bm.neg (by simp) (LdI.mk o1' rfl (LdI.mk o2 rfl ?_))))))))))))))))
  unfold connlaw_SameSeg.B1
  refine Bm.neg (by simp) (LdL.mk o1' rfl (LdL.mk o2 rfl (sameBytes_ok (ha.ext0 hx) (hb.ext0 hx) hal hbl hl fun w3 he3 _ => ?_)))
  rw [decide_eq_true rfl]
  exact hR w3 (hx.trans he3)
theorem sameInts_ok {w : World} {ra rb : Nat} {L : List Int} {n c1 c2 : Nat} {R : Bool → World → Prop} (ha : IAt w ra L) (hb : IAt w rb L) (hn : L.length = n) (hl : n ≤ 1000)
    (hR : ∀ w', Ext [] w w' → R true w') : connlaw_SameInts.Call (some ⟨ra, 0, none⟩) n c1 (some ⟨rb, 0, none⟩) n c2 w R := by
  apply connlaw_SameInts.sound
  unfold connlaw_SameInts.B0
  refine Bm.neg (by simp) ?_
  unfold connlaw_SameInts.L1
  refine ⟨fun m a' l' c' b' l2' c2' i w' => ∃ k : Nat, k ≤ n ∧ m = n - k ∧ some ⟨ra, 0, none⟩ = a' ∧ n = l' ∧ some ⟨rb, 0, none⟩ = b' ∧ n = l2' ∧ i = (k : Int) ∧ Ext [] w w', _, ⟨0, by omega, rfl, rfl, rfl, rfl, rfl, rfl, Ext.refl _ _⟩, ?_⟩
  rintro m a' l' c' b' l2' c2' i w' ⟨k, hk, rfl, rfl, rfl, rfl, rfl, rfl, he'⟩
  unfold connlaw_SameInts.L1b
  refine Bm.ite (fun hlt => ?_) fun hge => hR w' he'
  obtain ⟨x, hx⟩ := get_lt (L := L) (n := k) (by omega)
  have hed : Ext [] w w'.drew := he'.trans (Ext.drew _ _)
  exact Pn.mk ⟨⟨by omega, by omega⟩, (ha.ext hed (by simp)).ld (addr_i ra k) hx (Pn.mk ⟨⟨by omega, by omega⟩, (hb.ext hed (by simp)).ld (addr_i rb k) hx (Bm.neg (by simp) ⟨n - (k + 1), by omega, k + 1, by omega, rfl, rfl, rfl, rfl, rfl, by rw [w64 (by omega) (by omega)]; omega, hed⟩)⟩)⟩
def st8 (J : Int) : Int := IntKind.u8.wrap (BitVec.ofInt IntKind.u8.bits (IntKind.u8.wrap (J.tmod 256)) ^^^ BitVec.ofInt IntKind.u8.bits (165 : Int)).toNat
theorem st8_isB (J : Int) : 0 ≤ st8 J ∧ st8 J < 256 := wrap8_isB _
def stampV (j i : Nat) : Int := st8 (if i % 4 = 1 then ((j / 256 : Nat) : Int) else if i % 4 = 2 then ((j / 65536 : Nat) : Int) else if i % 4 = 3 then ((j / 16777216 : Nat) : Int) else (j : Int))
theorem tdiv_nat (j k : Nat) : ((j : Nat) : Int).tdiv ((k : Nat) : Int) = ((j / k : Nat) : Int) := by
  rw [Int.tdiv_eq_ediv_of_nonneg (by omega)]
  simp
theorem stamp_ok {w : World} {j i : Nat} {R : Int → World → Prop} (hj : j ≤ 1000000000) (hR : R (stampV j i) w) : connlaw_Stamp.Call (j : Int) (i : Int) w R := by
  apply connlaw_Stamp.sound
  unfold connlaw_Stamp.B0
  refine ⟨by decide, ?_⟩
  rw [tmod_pos _ (by omega)]
  unfold stampV at hR
  have d1 := tdiv_nat j 256
  have d2 := tdiv_nat j 65536
  have d3 := tdiv_nat j 16777216
  refine Bm.mk (fun e => ⟨by decide, ?_⟩) fun e => Bm.mk (fun e2 => ⟨by decide, ?_⟩) fun e2 => Bm.mk (fun e3 => ⟨by decide, ?_⟩) fun e3 => ?_
  · have e' : (i : Int) % 4 = 1 := by simpa using e
    rw [if_pos (by omega)] at hR
    show connlaw_Stamp.B1 (IntKind.i64.wrap (((j : Nat) : Int).tdiv ((256 : Nat) : Int))) w R
    rw [d1, w64 (by omega) (by omega)]
    exact ⟨by decide, hR⟩
  · have e' : ¬ (i : Int) % 4 = 1 := by simpa using e
    have e2' : (i : Int) % 4 = 2 := by simpa using e2
    rw [if_neg (by omega), if_pos (by omega)] at hR
    show connlaw_Stamp.B1 (IntKind.i64.wrap (((j : Nat) : Int).tdiv ((65536 : Nat) : Int))) w R
    rw [d2, w64 (by omega) (by omega)]
    exact ⟨by decide, hR⟩
  · have e' : ¬ (i : Int) % 4 = 1 := by simpa using e
    have e2' : ¬ (i : Int) % 4 = 2 := by simpa using e2
    have e3' : (i : Int) % 4 = 3 := by simpa using e3
    rw [if_neg (by omega), if_neg (by omega), if_pos (by omega)] at hR
    show connlaw_Stamp.B1 (IntKind.i64.wrap (((j : Nat) : Int).tdiv ((16777216 : Nat) : Int))) w R
    rw [d3, w64 (by omega) (by omega)]
    exact ⟨by decide, hR⟩
  · have e' : ¬ (i : Int) % 4 = 1 := by simpa using e
    have e2' : ¬ (i : Int) % 4 = 2 := by simpa using e2
    have e3' : ¬ (i : Int) % 4 = 3 := by simpa using e3
    rw [if_neg (by omega), if_neg (by omega), if_neg (by omega)] at hR
    exact ⟨by decide, hR⟩
/-! ### copies, pairs of lists, Info's fields -/
theorem copySeg_ok {w : World} {H : Hd} {b : Option Addr} {l c : Nat} {D : List Int} {R : Int → Int → Int → Int → Int → Int → Option Addr → Nat → Nat → World → Prop} (hD : Rd w b D) (hl : D.length = l) (hb : l ≤ 281474976710656)
    (hR : ∀ k w', w.heap.size ≤ k → Bf w' k D → Ext [] w w' → R H.sp H.dp H.sq H.ak H.fl H.wn (some ⟨k, 0, none⟩) D.length D.length w') : connlaw_CopySeg.Call H.sp H.dp H.sq H.ak H.fl H.wn b l c w R := by
  apply connlaw_CopySeg.sound
  unfold connlaw_CopySeg.B0
  refine New.mk fun s w1 e1 s1 o1 he1 => New.mk fun t w2 e2 s2 o2 he2 => ?_
  have o1' := he2.own o1 (by simp)
  refine LdL.mk o1' rfl (copyBytes_ok (hD.ext0 (he1.trans he2)) hl hb fun k w3 hk hs3 hf3 he3 => ?_)
  have o13 := he3.own o1' (by simp)
  have o23 := he3.own o2 (by simp)
  have k1 : k ≠ s := by have := o1'.lt; omega
  have k2 : k ≠ t := by have := o2.lt; omega
  have z1 := he1.size
  have z2 := he2.size
  refine Sts.mk o13 (by simp) rfl fun w4 hs4 o14 he4 => ?_
  have o24 : Own w4 t _ _ := he4.own o23 (by simp; omega)
  refine LdI.mk o14 rfl (LdI.mk o14 rfl (LdI.mk o14 rfl (LdI.mk o14 rfl (LdI.mk o14 rfl (LdI.mk o14 rfl (LdL.mk o14 rfl ?_))))))
  subst hl
  refine retC (g := (H, D)) o24 rfl fun w5 hs5 he5 => hR k w5 (by omega) ((hf3.ext he4 (by simpa using k1)).ext he5 (by simpa using k2)) ?_
  exact (((he1.trans he2).trans he3).trans' he4 (fun y hy hlt => by simp at hy; omega)).trans' he5 (fun y hy hlt => by simp at hy; omega)
section
variable {w : World} {b : Option Addr} {l c lo : Nat} {E : List (SegV × Nat)}
/-- One segment of a list. -/
theorem SL.ld {i : Nat} {e : SegV × Nat} {K : Int → Int → Int → Int → Int → Int → Option Addr → Nat → Nat → Prop} (h : SL w b l c lo E) (hi : E[i]? = some e) (hK : K e.1.1.sp e.1.1.dp e.1.1.sq e.1.1.ak e.1.1.fl e.1.1.wn (some ⟨e.2, 0, none⟩) e.1.2.length e.1.2.length) :
    Pn b fun a => (0 ≤ (i : Int) ∧ (i : Int) < (l : Int)) ∧ LdI .i64 (Addr.add a ((i : Int).toNat * 7)) w fun x0 => LdI .i64 ((Addr.add a ((i : Int).toNat * 7)).add 1) w fun x1 => LdI .i64 ((Addr.add a ((i : Int).toNat * 7)).add 2) w fun x2 => LdI .i64 ((Addr.add a ((i : Int).toNat * 7)).add 3) w fun x3 => LdI .i64 ((Addr.add a ((i : Int).toNat * 7)).add 4) w fun x4 => LdI .i64 ((Addr.add a ((i : Int).toNat * 7)).add 5) w fun x5 => LdL ((Addr.add a ((i : Int).toNat * 7)).add 6) w fun xb xl xc => K x0 x1 x2 x3 x4 x5 xb xl xc := by
  have hlen := h.len
  have hlt := (List.getElem?_eq_some_iff.1 hi).1
  obtain ⟨k, rfl, cs, ho, hc⟩ := h.row.at (i := i) (by omega) (by omega)
  have g : ∀ j, j < 7 → cs[i * 7 + j]? = (segC e)[j]? := fun j hj => by rw [hc j hj, flat_get segC_len hi hj]
  refine Pn.mk ⟨⟨by omega, by omega⟩, ?_⟩
  simp only [Int.toNat_natCast, add_mk, Nat.zero_add]
  exact LdI.mk ho (g 0 (by omega)) (LdI.mk ho (g 1 (by omega)) (LdI.mk ho (g 2 (by omega)) (LdI.mk ho (g 3 (by omega)) (LdI.mk ho (g 4 (by omega)) (LdI.mk ho (g 5 (by omega)) (LdL.mk ho (g 6 (by omega)) hK))))))
def Short (G : List SegV) : Prop := ∀ g ∈ G, g.2.length ≤ 16
theorem Short.nil : Short [] := fun g hg => by cases hg
theorem Short.one {g : SegV} (h : g.2.length ≤ 16) : Short [g] := fun x hx => by simp at hx; subst hx; exact h
theorem Short.app {A B : List SegV} (h : Short A) (h' : Short B) : Short (A ++ B) := fun g hg => (List.mem_append.1 hg).elim (h g) (h' g)
theorem Short.cons {g : SegV} {B : List SegV} (h : g.2.length ≤ 16) (h' : Short B) : Short (g :: B) := fun x hx => (List.mem_cons.1 hx).elim (fun e => by subst e; exact h) (h' x)
theorem sameSegs_ok {bb : Option Addr} {bl bc lo2 : Nat} {F : List (SegV × Nat)} {R : Bool → World → Prop} (ha : SL w b l c lo E) (hb : SL w bb bl bc lo2 F) (hE : E.map (·.1) = F.map (·.1)) (hs : Short (E.map (·.1))) (hl : l ≤ 1000)
    (hR : ∀ w', Ext [] w w' → R true w') : connlaw_SameSegs.Call b l c bb bl bc w R := by
  apply connlaw_SameSegs.sound
  unfold connlaw_SameSegs.B0
  have l1 := ha.len
  have l2 := hb.len
  have l3 : E.length = F.length := by have := congrArg List.length hE; simpa using this
  have l4 : l = bl := by omega
  subst l4
  refine Bm.neg (by simp) ?_
  unfold connlaw_SameSegs.L1
  refine ⟨fun m a' l' c' b' l2' c2' i w' => ∃ k : Nat, k ≤ l ∧ m = l - k ∧ b = a' ∧ l = l' ∧ bb = b' ∧ l = l2' ∧ i = (k : Int) ∧ Ext [] w w', _, ⟨0, by omega, rfl, rfl, rfl, rfl, rfl, rfl, Ext.refl _ _⟩, ?_⟩
  rintro m a' l' c' b' l2' c2' i w' ⟨k, hk, rfl, rfl, rfl, rfl, rfl, rfl, he'⟩
  unfold connlaw_SameSegs.L1b
  refine Bm.ite (fun hlt => ?_) fun hge => hR w' he'
  obtain ⟨e, he⟩ := get_lt (L := E) (n := k) (by omega)
  obtain ⟨f, hf⟩ := get_lt (L := F) (n := k) (by omega)
  have hed : Ext [] w w'.drew := he'.trans (Ext.drew _ _)
  have hef : e.1 = f.1 := by
    have h1 : (E.map (·.1))[k]? = some e.1 := by simp [he]
    have h2 : (F.map (·.1))[k]? = some f.1 := by simp [hf]
    rw [hE, h2] at h1
    simpa using h1.symm
  have da := (ha.dat e (List.mem_of_getElem? he)).ext0 hed
  have db := (hb.dat f (List.mem_of_getElem? hf)).ext0 hed
  have hsh := hs e.1 (List.mem_map.2 ⟨e, List.mem_of_getElem? he, rfl⟩)
  refine (ha.ext0 hed).ld he ((hb.ext0 hed).ld hf ?_)
  rw [← hef] at db ⊢
  refine sameSeg_ok (H := e.1.1) (D := e.1.2) da.rd0 db.rd0 rfl rfl (by omega) fun w2 he2 => Bm.neg rfl ⟨l - (k + 1), by omega, k + 1, by omega, rfl, rfl, rfl, rfl, rfl, by rw [w64 (by omega) (by omega)]; omega, hed.trans he2⟩
end
theorem sameInfo_ok {w : World} {x y : Nat} {C : CS} {R : Bool → World → Prop} (ha : InAt w x C) (hb : InAt w y C) (hR : ∀ w', Ext [] w w' → R true w') : connlaw_SameInfo.Call (some ⟨x, 0, none⟩) (some ⟨y, 0, none⟩) w R := by
  apply connlaw_SameInfo.sound
  unfold connlaw_SameInfo.B0
  have a1 : InAt w.drew x C := ha
  have b1 : InAt w.drew y C := hb
  have a2 : InAt w.drew.drew x C := ha
  have b2 : InAt w.drew.drew y C := hb
  have a3 : InAt w.drew.drew.drew x C := ha
  have b3 : InAt w.drew.drew.drew y C := hb
  have a4 : InAt w.drew.drew.drew.drew x C := ha
  have b4 : InAt w.drew.drew.drew.drew y C := hb
  have i0 : ∀ {w : World} {z : Nat} {K : Int → Prop}, InAt w z C → K C.st → LdI .i64 ⟨z, 0, none⟩ w K := fun h hk => LdI.fn h (by omega) rfl hk
  have iI : ∀ {w : World} {z : Nat} {v : Int} {K : Int → Prop} (o : Nat), InAt w z C → o < 18 → inF C (inV C) o = .int .i64 v → K v → LdI .i64 (Addr.add ⟨z, 0, none⟩ o) w K := fun o h ho hv hk => h.ldI ho hv hk
  have iB : ∀ {w : World} {z : Nat} {v : Bool} {K : Bool → Prop} (o : Nat), InAt w z C → o < 18 → inF C (inV C) o = .bool v → K v → LdB (Addr.add ⟨z, 0, none⟩ o) w K := fun o h ho hv hk => by
    rw [add_mk, Nat.zero_add]
    exact LdB.fn h ho hv hk
  refine Pn.mk (i0 a1 (Pn.mk (i0 b1 (Bm.neg (by simp) ?_))))
  refine Pn.mk (iI 1 a1 (by omega) rfl (Pn.mk (iI 1 b1 (by omega) rfl (Bm.neg (by simp) ?_))))
  refine Pn.mk (iB 2 a1 (by omega) rfl (Pn.mk (iB 2 b1 (by omega) rfl (Bm.neg (by simp) ?_))))
  refine Pn.mk (iB 3 a1 (by omega) rfl (Pn.mk (iB 3 b1 (by omega) rfl (Bm.neg (by simp) ?_))))
  refine Pn.mk (iB 4 a1 (by omega) rfl (Pn.mk (iB 4 b1 (by omega) rfl (Bm.neg (by simp) ?_))))
  refine Pn.mk (iB 5 a1 (by omega) rfl (Pn.mk (iB 5 b1 (by omega) rfl ?_)))
  rw [show (!(C.pf == C.pf)) = false by simp]
  unfold connlaw_SameInfo.B1
  refine Bm.neg rfl ?_
  refine Pn.mk (iI 6 a2 (by omega) rfl (Pn.mk (iI 6 b2 (by omega) rfl (Bm.neg (by simp) ?_))))
  refine Pn.mk (iI 7 a2 (by omega) rfl (Pn.mk (iI 7 b2 (by omega) rfl (Bm.neg (by simp) ?_))))
  refine Pn.mk (iI 8 a2 (by omega) rfl (Pn.mk (iI 8 b2 (by omega) rfl (Bm.neg (by simp) ?_))))
  refine Pn.mk (iI 13 a2 (by omega) rfl (Pn.mk (iI 13 b2 (by omega) rfl ?_)))
  rw [show (C.pw != C.pw) = false by simp]
  unfold connlaw_SameInfo.B2
  refine Bm.neg rfl ?_
  refine Pn.mk (iI 9 a3 (by omega) rfl (Pn.mk (iI 9 b3 (by omega) rfl (Bm.neg (by simp) ?_))))
  refine Pn.mk (iI 10 a3 (by omega) rfl (Pn.mk (iI 10 b3 (by omega) rfl (Bm.neg (by simp) ?_))))
  refine Pn.mk (iI 11 a3 (by omega) rfl (Pn.mk (iI 11 b3 (by omega) rfl (Bm.neg (by simp) ?_))))
  refine Pn.mk (iI 12 a3 (by omega) rfl (Pn.mk (iI 12 b3 (by omega) rfl ?_)))
  rw [show (inV C 12 != inV C 12) = false by simp]
  unfold connlaw_SameInfo.B3
  refine Bm.neg rfl ?_
  refine Pn.mk (iI 14 a4 (by omega) rfl (Pn.mk (iI 14 b4 (by omega) rfl (Bm.pos (by simp) ?_))))
  refine Pn.mk (iI 15 a4 (by omega) rfl (Pn.mk (iI 15 b4 (by omega) rfl (Bm.pos (by simp) ?_))))
  refine Pn.mk (iI 16 a4 (by omega) rfl (Pn.mk (iI 16 b4 (by omega) rfl (Bm.pos (by simp) ?_))))
  refine Pn.mk (iI 17 a4 (by omega) rfl (Pn.mk (iI 17 b4 (by omega) rfl ?_)))
  rw [show (C.qt == C.qt) = true by simp]
  exact hR _ ((((Ext.drew [] w).trans (Ext.drew _ _)).trans (Ext.drew _ _)).trans (Ext.drew _ _))
theorem ground_ok {w : World} {R : Option Addr → Option Addr → World → Prop} (hR : ∀ p r w', w.heap.size ≤ p → w.heap.size ≤ r → SR w' p S0s → RR w' r R0s → Ext [] w w' → R (some ⟨p, 0, none⟩) (some ⟨r, 0, none⟩) w') : connlaw_Ground.Call w R := by
  apply connlaw_Ground.sound
  unfold connlaw_Ground.B0
  refine New.mk fun b w1 e1 s1 o1 he1 => sNew_ok fun p w2 hp h2 he2 => rNew_ok fun r w3 hr h3 he3 => ?_
  have o3 := (he2.trans he3).own o1 (by simp)
  have z1 := he1.size
  have z2 := he2.size
  refine Sts.full (vs := [.pointer (some ⟨p, 0, none⟩), .pointer (some ⟨r, 0, none⟩)]) o3 rfl rfl fun w4 hs4 o4 he4 => LdP.mk o4 rfl (LdP.mk o4 rfl ?_)
  have := o1.lt
  exact hR p r w4 (by omega) (by omega) ((h2.ext0 he3).ext he4 (by simp; omega)) (h3.ext he4 (by simp; omega)) (((he1.trans he2).trans he3).trans' he4 (fun y hy hlt => by simp at hy; omega))
/-! ### short segments -/
section
variable {C : CS}
theorem again_short (hl : C.S.D.length ≤ 16) : (againF C).2.length ≤ 16 := by
  unfold againF
  repeat' split
  · simp [mkF]
  · simp [mkF]
  · simp [mkF]; omega
  · simp [mkF]
theorem pump_short (hl : C.S.D.length ≤ 16) : Short (pumpF C).2 := by
  unfold pumpF
  split
  · refine Short.app ?_ ?_
    · unfold pump1
      split
      · exact Short.one (by simp [mkF]; omega)
      · exact Short.nil
    · unfold pump2
      split
      · exact Short.one (by simp [mkF])
      · exact Short.nil
  · exact Short.nil
theorem arm_S (C : CS) : (armF C).S = C.S := by rw [armF_eq]
theorem tick_short (h : CsOk C) : Short (tickF C).2 := by
  have hl := h.S.len
  unfold tickF
  split
  · exact Short.nil
  split
  · exact Short.nil
  split
  · split
    · split
      · exact Short.nil
      · exact Short.cons (again_short (by rw [arm_S]; exact hl)) (pump_short (by rw [arm_S]; exact hl))
    · exact pump_short hl
  · exact pump_short hl
theorem send_short {P : List Int} (h : CsOk C) : Short (sendF P C).2.G := by
  have hl := h.S.len
  unfold sendF
  split
  · exact Short.nil
  split
  · exact Short.nil
  split
  · exact Short.nil
  split
  · exact Short.nil
  split
  · exact Short.nil
  · refine pump_short ?_
    show (C.S.D ++ P.take (min P.length (16 - C.S.D.length))).length ≤ 16
    simp
    omega
theorem recv_short {mx : Int} : Short (recvF mx C).2.G := by
  unfold recvF
  split
  · exact Short.nil
  split
  · exact Short.nil
  split
  · split
    · exact Short.nil
    split
    · exact Short.nil
    · exact Short.nil
  · show Short (if _ then _ else _)
    split
    · exact Short.one (by simp [ackF, mkF])
    · exact Short.nil
theorem recv_got {mx : Int} (h : CsOk C) : (recvF mx C).1.length ≤ 16 := by
  have hl := h.B.len
  unfold recvF
  repeat' split
  all_goals first | (simp; done) | (simp; omega)
theorem close_short (h : CsOk C) : Short (closeF C).G := by
  have hl := h.S.len
  unfold closeF
  repeat' split
  all_goals first | exact Short.nil | exact pump_short hl
theorem abort_short : Short (abortF C).G := by
  unfold abortF
  repeat' split
  all_goals first | exact Short.nil | exact Short.one (by simp [rstF])
theorem openA_short {iss : Int} : Short (openAF iss C).G := by
  unfold openAF
  split
  · exact Short.nil
  · exact Short.one (again_short (by show [].length ≤ 16; simp))
theorem openP_short {iss : Int} {hd : Hd} : Short (openPF iss hd C).G := by
  unfold openPF
  split
  · exact Short.nil
  split
  · exact Short.nil
  · exact Short.one (again_short (by show [].length ≤ 16; simp))
theorem acked_len {ak wn : Int} (h : CsW C) : (ackedF ak wn C).2.S.D.length ≤ 16 := by
  have hl := h.S.len
  have ha : ∀ x, (ackA x C.S).2.D.length ≤ 16 := fun x => (ackA_ok h.S x).len
  unfold ackedF
  split
  · exact hl
  split
  · exact hl
  split
  · exact hl
  · show (if _ then _ else _ : CS).S.D.length ≤ 16
    split
    · rw [arm_S]; exact ha _
    · exact ha _
theorem take_S {sq f : Int} {D : List Int} : (takeF sq f D C).S = C.S := by
  unfold takeF
  repeat' split
  all_goals rfl
theorem goon_short {sq f : Int} {D : List Int} (hl : C.S.D.length ≤ 16) : Short (goonF sq f D C).2 := by
  unfold goonF
  split
  · exact Short.cons (by simp [ackF, mkF]) (pump_short (by rw [take_S]; exact hl))
  · exact pump_short hl
theorem open_short {ak wn sq f : Int} {D : List Int} (h : CsW C) : Short (openF ak wn sq f D C).2 := by
  unfold openF
  split
  · exact goon_short (acked_len h)
  · exact Short.one (by simp [ackF, mkF])
theorem sync_short {sq ak f wn : Int} {D : List Int} (h : CsOk C) (hs : C.st = 2 ∨ C.st = 3) : Short (syncF sq ak f wn D C).2 := by
  have hl := h.S.len
  unfold syncF
  split
  · split
    · exact Short.nil
    · exact Short.nil
  split
  · split
    · exact Short.one (again_short hl)
    · exact Short.one (by simp [ackF, mkF])
  split
  · exact Short.nil
  split
  · rename_i h2
    split
    · exact Short.one (by simp [rstF])
    · exact open_short (opened0_ok h (.inr h2)).toCsW
  · exact open_short h.toCsW
theorem input_short {hd : Hd} {D : List Int} (h : CsOk C) : Short (inputF hd D C).2 := by
  unfold inputF
  split
  · unfold quietF
    split
    · exact Short.one (by simp [ackF, mkF])
    · exact Short.nil
  split
  · unfold synSentF
    repeat' split
    all_goals first | exact Short.nil | exact Short.one (by simp [rstF, ackF, mkF])
  split
  · rename_i h23
    exact sync_short h h23
  · exact Short.nil
end
end Go.Proofs.Qxb6500422aGreat
