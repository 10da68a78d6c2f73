/-
  nodelaw: SameDid, Untouched, Spoil; what an event leaves.
-/
import Derived.Test.Qxb6500430aGreatNdO
set_option linter.unusedVariables false
set_option linter.unusedSimpArgs false
open Go.Vc
namespace Go.Proofs.Qxb6500430aGreat
open Kv
theorem pnOf {b : Option Addr} {a : Addr} {K : Addr → Prop} (e : b = some a) (h : K a) : Pn b K := by subst e; exact Pn.mk h
section
variable {α : Type} {w w' : World} {b : Option Addr} {l c sz n : Nat} {T : TypeId} {f : α → List Value} {L : List α} {x : α}
theorem row_fl (h : Row w b l c sz T (L.flatMap f)) (hf : ∀ a, (f a).length = sz) (hs : 0 < sz) (hx : L[n]? = some x) (hn : n < l) : ∃ k, b = some ⟨k, 0, none⟩ ∧ ∃ cs, Own w k cs T ∧ ∀ j, j < sz → cs[n * sz + j]? = (f x)[j]? := by
  obtain ⟨k, ek, cs, ho, hc⟩ := h.at hn hs
  exact ⟨k, ek, cs, ho, fun j hj => by rw [hc j hj, flat_get hf hx hj]⟩
theorem rowI0 {v : Int} {Q : Int → Prop} (h : Row w b l c sz T (L.flatMap f)) (hf : ∀ a, (f a).length = sz) (hs : 0 < sz) (hx : L[n]? = some x) (hn : n < l) (hv : (f x)[0]? = some (.int .i64 v)) (hQ : Q v) : Pn b fun a => (0 ≤ (n : Int) ∧ (n : Int) < (l : Int)) ∧ LdI .i64 (Addr.add a ((n : Int).toNat * sz)) w Q := by
  obtain ⟨k, ek, cs, ho, hc⟩ := row_fl h hf hs hx hn
  refine pnOf ek ⟨⟨by omega, by omega⟩, ?_⟩
  rw [Int.toNat_natCast, add_mk, Nat.zero_add]
  exact LdI.mk ho (by have := hc 0 hs; rw [Nat.add_zero] at this; rw [this, hv]) hQ
theorem rowIj {j : Nat} {v : Int} {Q : Int → Prop} (h : Row w b l c sz T (L.flatMap f)) (hf : ∀ a, (f a).length = sz) (hs : 0 < sz) (hx : L[n]? = some x) (hn : n < l) (hj : j < sz) (hv : (f x)[j]? = some (.int .i64 v)) (hQ : Q v) : Pn b fun a => (0 ≤ (n : Int) ∧ (n : Int) < (l : Int)) ∧ LdI .i64 ((Addr.add a ((n : Int).toNat * sz)).add j) w Q := by
  obtain ⟨k, ek, cs, ho, hc⟩ := row_fl h hf hs hx hn
  refine pnOf ek ⟨⟨by omega, by omega⟩, ?_⟩
  rw [Int.toNat_natCast, add_mk, add_mk, Nat.zero_add]
  exact LdI.mk ho (by rw [hc j hj, hv]) hQ
theorem rowSj {j : Nat} {v : ByteArray} {Q : ByteArray → Prop} (h : Row w b l c sz T (L.flatMap f)) (hf : ∀ a, (f a).length = sz) (hs : 0 < sz) (hx : L[n]? = some x) (hn : n < l) (hj : j < sz) (hv : (f x)[j]? = some (.string v)) (hQ : Q v) : Pn b fun a => (0 ≤ (n : Int) ∧ (n : Int) < (l : Int)) ∧ LdS ((Addr.add a ((n : Int).toNat * sz)).add j) w Q := by
  obtain ⟨k, ek, cs, ho, hc⟩ := row_fl h hf hs hx hn
  refine pnOf ek ⟨⟨by omega, by omega⟩, ?_⟩
  rw [Int.toNat_natCast, add_mk, add_mk, Nat.zero_add]
  exact LdS.mk ho (by rw [hc j hj, hv]) hQ
theorem rowPutN {x' : α} {K : World → Prop} (h : Row w b l c sz T (L.flatMap f)) (hf : ∀ a, (f a).length = sz) (hs : 0 < sz) (hn : n < l) (h1 : (f x').all Value.oneCell' = true) (hK : ∀ k w', b = some ⟨k, 0, none⟩ → w'.heap.size = w.heap.size → Row w' b l c sz T ((L.set n x').flatMap f) → Ext [k] w w' → K w') : Pn b fun a => (0 ≤ (n : Int) ∧ (n : Int) < (l : Int)) ∧ Sts (f x') (Addr.add a ((n : Int).toNat * sz)) 0 w K := by
  have hL : L.length * sz = l * sz := by rw [← flat_length hf L]; exact h.1
  have hLl : n < L.length := by
    have := Nat.eq_of_mul_eq_mul_right hs hL
    omega
  obtain ⟨k, ek, cs, ho, hc⟩ := h.at hn hs
  refine pnOf ek ⟨⟨by omega, by omega⟩, ?_⟩
  rw [Int.toNat_natCast, add_mk, Nat.zero_add]
  rw [ek] at h
  refine Row.put (news := f x') h (by
    rw [hf x']
    have : (n + 1) * sz ≤ l * sz := Nat.mul_le_mul_right _ hn
    rw [Nat.add_mul, Nat.one_mul] at this
    exact this) h1 fun w1 hs1 r1 he1 => hK k w1 ek hs1 ?_ he1
  rw [hf x', flat_set hf hLl] at r1
  rw [ek]
  exact r1
end
section
variable {w w' : World}
theorem sameAns_ok {a : Int} {s : ByteArray} {R : Bool → World → Prop} (hR : ∀ w', Ext [] w w' → R true w') : nodelaw_SameAns.Call a s a s w R := by
  apply nodelaw_SameAns.sound
  unfold nodelaw_SameAns.B0
  refine New.mk fun x w1 hx hs1 ox he1 => New.mk fun y w2 hy hs2 oy he2 => ?_
  have ox2 := he2.own ox (by simp)
  refine LdI.mk ox2 rfl (LdI.mk oy rfl (Bm.pos (by simp) (LdS.mk ox2 rfl (LdS.mk oy rfl ?_))))
  rw [beq_self_eq_true]
  exact hR w2 (he1.trans he2)
theorem sameDid_ok {e0 : Int} {ob1 rb1 ob2 rb2 : Option Addr} {oc1 rc1 oc2 rc2 lo1 lo2 : Nat} {O : List OutV} {Rp : List Rep} {R : Bool → World → Prop} (h1 : DidAt w lo1 ob1 oc1 rb1 rc1 O Rp) (h2 : DidAt w lo2 ob2 oc2 rb2 rc2 O Rp) (hO : O.length ≤ 100) (hRp : Rp.length ≤ 100) (hR : ∀ w', Ext [] w w' → R true w') : nodelaw_SameDid.Call e0 ob1 O.length oc1 rb1 Rp.length rc1 e0 ob2 O.length oc2 rb2 Rp.length rc2 w R := by
  apply nodelaw_SameDid.sound
  unfold nodelaw_SameDid.B0
  refine New.mk fun d w1 hd hs1 od1 he1 => New.mk fun e w2 he hs2 oe he2 => ?_
  have od := he2.own od1 (by simp)
  have E2 := he1.trans he2
  refine LdI.mk od rfl (LdI.mk oe rfl (Bm.neg (by simp) (LdL.mk od rfl (LdL.mk oe rfl (Bm.neg (by simp) (LdL.mk od rfl (LdL.mk oe rfl ?_)))))))
  rw [show (((Rp.length : Nat) : Int) != ((Rp.length : Nat) : Int)) = false by simp]
  unfold nodelaw_SameDid.B1
  refine Bm.neg rfl ?_
  unfold nodelaw_SameDid.L1
  refine ⟨fun m d' e' i w' => ∃ n : Nat, n ≤ O.length ∧ m = O.length - n ∧ d = d' ∧ e = e' ∧ i = (n : Int) ∧ Ext [] w2 w', _, ⟨0, by omega, rfl, rfl, rfl, rfl, Ext.refl _ _⟩, ?_⟩
  rintro m d' e' i w3 ⟨n, hn, rfl, rfl, rfl, rfl, he3⟩
  unfold nodelaw_SameDid.L1b
  have od3 := he3.own od (by simp)
  refine LdL.mk od3 rfl (Bm.ite (fun hlt => ?_) fun hge => ?_)
  · obtain ⟨x, hx⟩ := get_lt' (L := O) (n := n) (by omega)
    have e23 := he3.trans (Ext.drew [] w3)
    have e3 := E2.trans e23
    have od3d := e23.own od (by simp)
    have oe3d := e23.own oe (by simp)
    have r1 := (h1.ext0 e3).o
    have r2 := (h2.ext0 e3).o
    refine LdL.mk od3d rfl (rowI0 r1 outC_len (by omega) hx (by omega) rfl (LdL.mk oe3d rfl (rowI0 r2 outC_len (by omega) hx (by omega) rfl (Bm.neg (by simp) (LdL.mk od3d rfl (rowSj r1 outC_len (by omega) hx (by omega) (by omega) rfl (LdL.mk oe3d rfl (rowSj r2 outC_len (by omega) hx (by omega) (by omega) rfl ?_))))))))
    rw [beq_self_eq_true]
    unfold nodelaw_SameDid.B2
    exact Bm.neg rfl ⟨O.length - (n + 1), by omega, n + 1, by omega, rfl, rfl, rfl, by rw [w64 (by omega) (by omega)]; omega, e23⟩
  · unfold nodelaw_SameDid.L2
    refine ⟨fun m d' e' i w' => ∃ n : Nat, n ≤ Rp.length ∧ m = Rp.length - n ∧ d = d' ∧ e = e' ∧ i = (n : Int) ∧ Ext [] w2 w', _, ⟨0, by omega, rfl, rfl, rfl, rfl, he3⟩, ?_⟩
    rintro m d' e' i w4 ⟨n4, hn4, rfl, rfl, rfl, rfl, he4⟩
    unfold nodelaw_SameDid.L2b
    have od4 := he4.own od (by simp)
    refine LdL.mk od4 rfl (Bm.ite (fun hlt => ?_) fun hge => hR w4 (E2.trans he4))
    obtain ⟨x, hx⟩ := get_lt' (L := Rp) (n := n4) (by omega)
    have e24 := he4.trans (Ext.drew [] w4)
    have e4 := E2.trans e24
    have od4d := e24.own od (by simp)
    have oe4d := e24.own oe (by simp)
    have r1 := (h1.ext0 e4).r
    have r2 := (h2.ext0 e4).r
    refine LdL.mk od4d rfl (rowI0 r1 repC_len (by omega) hx (by omega) rfl (LdL.mk oe4d rfl (rowI0 r2 repC_len (by omega) hx (by omega) rfl (Bm.neg (by simp) (LdL.mk od4d rfl (rowIj r1 repC_len (by omega) hx (by omega) (by omega) rfl (LdL.mk oe4d rfl (rowIj r2 repC_len (by omega) hx (by omega) (by omega) rfl ?_))))))))
    rw [show (x.2.1 != x.2.1) = false by simp]
    unfold nodelaw_SameDid.B3
    have e24d := e24.trans (Ext.drew [] w4.drew)
    have e4d := E2.trans e24d
    have od5 := e24d.own od (by simp)
    have oe5 := e24d.own oe (by simp)
    have ans : ∀ {bb : Option Addr} {cc lo1 : Nat} {Q : Int → ByteArray → Prop}, Row w4.drew.drew bb Rp.length cc 4 T_api_Reply (Rp.flatMap repC) → Q x.2.2.1 x.2.2.2 → Pn bb fun a => (0 ≤ (n4 : Int) ∧ (n4 : Int) < (Rp.length : Int)) ∧ LdI .i64 ((Addr.add a ((n4 : Int).toNat * 4)).add 2) w4.drew.drew fun y0 => LdS (((Addr.add a ((n4 : Int).toNat * 4)).add 2).add 1) w4.drew.drew fun y1 => Q y0 y1 := fun {bb cc lo1 Q} hr hQ => by
      obtain ⟨k, ek, cs, ho, hc⟩ := row_fl hr repC_len (by omega) hx (by omega)
      refine pnOf ek ⟨⟨by omega, by omega⟩, ?_⟩
      rw [Int.toNat_natCast, add_mk, add_mk, add_mk, Nat.zero_add]
      exact LdI.mk ho (hc 2 (by omega)) (LdS.mk ho (hc 3 (by omega)) hQ)
    refine Bm.neg rfl (LdL.mk od5 rfl (ans (lo1 := 0) (h1.ext0 e4d).r (LdL.mk oe5 rfl (ans (lo1 := 0) (h2.ext0 e4d).r (sameAns_ok fun w6 he6 => Bm.neg rfl ?_)))))
    exact ⟨Rp.length - (n4 + 1), by omega, n4 + 1, by omega, rfl, rfl, rfl, by rw [w64 (by omega) (by omega)]; omega, e24d.trans he6⟩
/-! ### what is kept -/
structure KD where
  er : Int
  ob : Option Addr
  ol : Nat
  oc : Nat
  rb : Option Addr
  rl : Nat
  rc : Nat
def kdC (I : KD) : List Value := [.int .i64 I.er, .slice I.ob I.ol I.oc, .slice I.rb I.rl I.rc]
theorem kdC_len (I : KD) : (kdC I).length = 3 := rfl
def zO : OutV := (-7, ByteArray.mk #[120])
def zR : Rep := (-7, 0, 0, ByteArray.mk #[])
structure KpAt (w : World) (I : KD) : Prop where
  o : Row w I.ob I.ol I.oc 2 T_api_Out ((List.replicate I.ol zO).flatMap outC)
  r : Row w I.rb I.rl I.rc 4 T_api_Reply ((List.replicate I.rl zR).flatMap repC)
  ol3 : I.ol ≤ 100
  rl3 : I.rl ≤ 100
def KD.foot (I : KD) (k : Nat) : Prop := k ∈ rowBlk I.ob ∨ k ∈ rowBlk I.rb
theorem KpAt.ext {I : KD} {Z : List Nat} (h : KpAt w I) (he : Ext Z w w') (hZ : ∀ y ∈ Z, y < w.heap.size → ¬ I.foot y) : KpAt w' I :=
  ⟨h.o.ext he (fun k hk hx => hZ k hx (h.o.lt k hk) (.inl hk)), h.r.ext he (fun k hk hx => hZ k hx (h.r.lt k hk) (.inr hk)), h.ol3, h.rl3⟩
theorem KpAt.ext0 {I : KD} (h : KpAt w I) (he : Ext [] w w') : KpAt w' I := h.ext he (fun y hy => by cases hy)
theorem KpAt.ty {I : KD} (h : KpAt w I) {k : Nat} (hk : I.foot k) : ∃ cs T, Own w k cs T ∧ T ∈ [T_api_Out, T_api_Reply] := by
  rcases hk with z | z
  · obtain ⟨cs, ho⟩ := h.o.ty z
    exact ⟨_, _, ho, by simp⟩
  · obtain ⟨cs, ho⟩ := h.r.ty z
    exact ⟨_, _, ho, by simp⟩
theorem gUntouched_ok {nb : Option Addr} {nl nc : Nat} {K : List KD} {R : Bool → World → Prop} (h : Row w nb nl nc 3 T_api_Did (K.flatMap kdC)) (hk : ∀ I ∈ K, KpAt w I) (hl : nl ≤ 100) (hR : ∀ w', Ext [] w w' → R true w') : nodelaw_Untouched.Call nb nl nc w R := by
  apply nodelaw_Untouched.sound
  unfold nodelaw_Untouched.B0 nodelaw_Untouched.L1
  have h1 := h.1
  have h2 := flat_length kdC_len K
  have hlen : K.length = nl := by omega
  refine ⟨fun m nb' nl' nc' j w' => ∃ n : Nat, n ≤ nl ∧ m = nl - n ∧ nb = nb' ∧ nl = nl' ∧ nc = nc' ∧ j = (n : Int) ∧ Ext [] w w', _, ⟨0, by omega, rfl, rfl, rfl, rfl, rfl, Ext.refl _ _⟩, ?_⟩
  rintro m nb' nl' nc' j w1 ⟨n, hn, rfl, rfl, rfl, rfl, rfl, he1⟩
  unfold nodelaw_Untouched.L1b
  refine Bm.ite (fun hlt => ?_) fun hge => hR w1 he1
  obtain ⟨I, hI⟩ := get_lt' (L := K) (n := n) (by omega)
  have kI := hk I (List.mem_of_getElem? hI)
  have ol := kI.ol3
  have rl := kI.rl3
  have row1 := Row.ext h he1 (fun _ _ z => by cases z)
  obtain ⟨kk, ek, cs, ho, g⟩ := row_fl row1 kdC_len (by omega) hI (by omega)
  refine pnOf ek ⟨⟨by omega, by omega⟩, ?_⟩
  rw [Int.toNat_natCast, add_mk, add_mk, add_mk, Nat.zero_add]
  refine LdI.mk ho (g 0 (by omega)) (LdL.mk ho (g 1 (by omega)) (LdL.mk ho (g 2 (by omega)) (NewSet.mk rfl rfl fun d w2 hd hs2 od he2 => ?_)))
  have E2 := he1.trans he2
  have od2 : Own w2 d (kdC I).toArray T_api_Did := od
  unfold nodelaw_Untouched.L2
  refine ⟨fun m nb' nl' nc' j d' i w' => ∃ p : Nat, p ≤ I.ol ∧ m = I.ol - p ∧ nb = nb' ∧ nl = nl' ∧ nc = nc' ∧ (n : Int) = j ∧ d = d' ∧ i = (p : Int) ∧ Ext [] w2 w', _, ⟨0, by omega, rfl, rfl, rfl, rfl, rfl, rfl, rfl, Ext.refl _ _⟩, ?_⟩
  rintro m nb' nl' nc' j d' i w3 ⟨p, hp, rfl, rfl, rfl, rfl, rfl, rfl, rfl, he3⟩
  unfold nodelaw_Untouched.L2b
  have od3 := he3.own od2 (by simp)
  refine LdL.mk od3 rfl (Bm.ite (fun hlt2 => ?_) fun hge2 => ?_)
  · have hx : (List.replicate I.ol zO)[p]? = some zO := by rw [List.getElem?_replicate, if_pos (by omega)]
    have r3 := (kI.ext0 (E2.trans he3)).o
    refine LdL.mk od3 rfl (rowI0 r3 outC_len (by omega) hx (by omega) rfl (Bm.neg rfl (LdL.mk od3 rfl (rowSj r3 outC_len (by omega) hx (by omega) (by omega) rfl ?_))))
    rw [show (!(zO.2.toList == (ByteArray.mk #[120]).toList)) = false by rw [show zO.2 = ByteArray.mk #[120] from rfl, beq_self_eq_true]; rfl]
    unfold nodelaw_Untouched.B1
    exact Bm.neg rfl ⟨I.ol - (p + 1), by omega, p + 1, by omega, rfl, rfl, rfl, rfl, rfl, rfl, by rw [w64 (by omega) (by omega)]; omega, he3⟩
  · unfold nodelaw_Untouched.L3
    refine ⟨fun m nb' nl' nc' j d' i w' => ∃ p : Nat, p ≤ I.rl ∧ m = I.rl - p ∧ nb = nb' ∧ nl = nl' ∧ nc = nc' ∧ (n : Int) = j ∧ d = d' ∧ i = (p : Int) ∧ Ext [] w2 w', _, ⟨0, by omega, rfl, rfl, rfl, rfl, rfl, rfl, rfl, he3⟩, ?_⟩
    rintro m nb' nl' nc' j d' i w4 ⟨p4, hp4, rfl, rfl, rfl, rfl, rfl, rfl, rfl, he4⟩
    unfold nodelaw_Untouched.L3b
    have od4 := he4.own od2 (by simp)
    refine LdL.mk od4 rfl (Bm.ite (fun hlt3 => ?_) fun hge3 => ⟨nl - (n + 1), by omega, n + 1, by omega, rfl, rfl, rfl, rfl, by rw [w64 (by omega) (by omega)]; omega, E2.trans he4⟩)
    have hx : (List.replicate I.rl zR)[p4]? = some zR := by rw [List.getElem?_replicate, if_pos (by omega)]
    have r4 := (kI.ext0 (E2.trans he4)).r
    refine LdL.mk od4 rfl ?_
    obtain ⟨k2, ek2, cs2, ho2, g2⟩ := row_fl r4 repC_len (by omega) hx (by omega)
    refine pnOf ek2 ⟨⟨by omega, by omega⟩, ?_⟩
    rw [Int.toNat_natCast, add_mk, add_mk, add_mk, add_mk, Nat.zero_add]
    refine LdI.mk ho2 (g2 0 (by omega)) (LdI.mk ho2 (g2 1 (by omega)) (LdI.mk ho2 (g2 2 (by omega)) (LdS.mk ho2 (g2 3 (by omega)) (NewSet.mk rfl rfl fun r w5 hr hs5 or5 he5 => ?_))))
    refine LdI.mk or5 rfl (Bm.neg rfl (LdI.mk or5 rfl (Bm.neg rfl (LdI.mk or5 rfl (Bm.neg rfl (LdS.mk or5 rfl ?_))))))
    rw [show (!(zR.2.2.2.toList == (ByteArray.mk #[]).toList)) = false by rw [show zR.2.2.2 = ByteArray.mk #[] from rfl, beq_self_eq_true]; rfl]
    unfold nodelaw_Untouched.B2
    exact Bm.neg rfl ⟨I.rl - (p4 + 1), by omega, p4 + 1, by omega, rfl, rfl, rfl, rfl, rfl, rfl, by rw [w64 (by omega) (by omega)]; omega, he4.trans he5⟩
theorem set_next {α : Type} {z : α} {L : List α} {n : Nat} (h : n < L.length) : (List.replicate n z ++ L.drop n).set n z = List.replicate (n + 1) z ++ L.drop (n + 1) := by
  rw [List.set_append_right _ _ (by simp), List.length_replicate, Nat.sub_self, List.drop_eq_getElem_cons h, List.set_cons_zero, List.replicate_succ', List.append_assoc]
  rfl
theorem gSpoil_ok {e0 : Int} {ob rb : Option Addr} {oc rc lo : Nat} {O : List OutV} {Rp : List Rep} {R : World → Prop} (h : DidAt w lo ob oc rb rc O Rp) (hO : O.length ≤ 100) (hRp : Rp.length ≤ 100)
    (hR : ∀ w', KpAt w' ⟨e0, ob, O.length, oc, rb, Rp.length, rc⟩ → Ext (rowBlk ob ++ rowBlk rb) w w' → R w') : nodelaw_Spoil.Call e0 ob O.length oc rb Rp.length rc w R := by
  apply nodelaw_Spoil.sound
  unfold nodelaw_Spoil.B0
  refine New.mk fun d w1 hd hs1 od he1 => ?_
  have h1 := h.ext0 he1
  unfold nodelaw_Spoil.L1
  refine ⟨fun m d' i w' => ∃ n : Nat, n ≤ O.length ∧ m = O.length - n ∧ d = d' ∧ i = (n : Int) ∧ Row w' ob O.length oc 2 T_api_Out ((List.replicate n zO ++ O.drop n).flatMap outC) ∧ Ext (rowBlk ob) w1 w', _, ⟨0, by omega, rfl, rfl, rfl, by simpa using h1.o, Ext.refl _ _⟩, ?_⟩
  rintro m d' i w2 ⟨n, hn, rfl, rfl, rfl, r2, he2⟩
  unfold nodelaw_Spoil.L1b
  have t2 := Tys.row h1.o
  have od2 := ownT he2 t2 od (by decide)
  refine LdL.mk od2 rfl (Bm.ite (fun hlt => LdL.mk od2 rfl ?_) fun hge => ?_)
  · refine rowPutN (x' := zO) r2 outC_len (by omega) (by omega) rfl fun k w3 ek hs3 r3 he3 => ?_
    rw [set_next (by omega)] at r3
    exact ⟨O.length - (n + 1), by omega, n + 1, by omega, rfl, rfl, by rw [w64 (by omega) (by omega)]; omega, r3, he2.trans (he3.mono fun y hy _ => by simp at hy; rw [hy, ek]; simp [rowBlk])⟩
  · have hnl : n = O.length := by omega
    subst hnl
    rw [List.drop_of_length_le (Nat.le_refl _), List.append_nil] at r2
    have rr2 := rowT h1.r he2 t2 (by decide)
    unfold nodelaw_Spoil.L2
    refine ⟨fun m d' i w' => ∃ n : Nat, n ≤ Rp.length ∧ m = Rp.length - n ∧ d = d' ∧ i = (n : Int) ∧ Row w' rb Rp.length rc 4 T_api_Reply ((List.replicate n zR ++ Rp.drop n).flatMap repC) ∧ Ext (rowBlk rb) w2 w', _, ⟨0, by omega, rfl, rfl, rfl, by simpa using rr2, Ext.refl _ _⟩, ?_⟩
    rintro m d' i w3 ⟨n3, hn3, rfl, rfl, rfl, r3, he3⟩
    unfold nodelaw_Spoil.L2b
    have t3 := Tys.row rr2
    have od3 := ownT he3 t3 od2 (by decide)
    refine LdL.mk od3 rfl (Bm.ite (fun hlt => LdL.mk od3 rfl ?_) fun hge3 => ?_)
    · refine rowPutN (x' := zR) r3 repC_len (by omega) (by omega) rfl fun k w4 ek hs4 r4 he4 => ?_
      rw [set_next (by omega)] at r4
      exact ⟨Rp.length - (n3 + 1), by omega, n3 + 1, by omega, rfl, rfl, by rw [w64 (by omega) (by omega)]; omega, r4, he3.trans (he4.mono fun y hy _ => by simp at hy; rw [hy, ek]; simp [rowBlk])⟩
    · have hn3l : n3 = Rp.length := by omega
      subst hn3l
      rw [List.drop_of_length_le (Nat.le_refl _), List.append_nil] at r3
      exact hR w3 ⟨rowT r2 he3 t3 (by decide), r3, hO, hRp⟩ ((he1.nil.trans (he2.mono fun y hy _ => List.mem_append.2 (.inl hy))).trans (he3.mono fun y hy _ => List.mem_append.2 (.inr hy)))
end
/-! ### what an event leaves -/
theorem tickG_len (Y : YS) : (tickY Y).G.length ≤ 6 := by
  unfold tickY
  dsimp only
  rw [List.length_append]
  have h1 := perPeer_len (persF { Y with e := (El.tickF Y.e).2 }) (fun p => sendF p (persF { Y with e := (El.tickF Y.e).2 })) 3
  have h2 := perPeer_len (persF { Y with e := (El.tickF Y.e).2 }) (askM (persF { Y with e := (El.tickF Y.e).2 })) 3
  unfold sendAllF askAllF
  split <;> split <;> simp <;> omega
theorem stepG_len (m : MsgV) (Y : YS) : (stepY m Y).G.length ≤ 6 := by
  unfold stepY
  split
  · simp
  split
  · simp [voteAskY]
  split
  · unfold voteGotY
    dsimp only
    split
    · exact Nat.le_trans (perPeer_len _ _ 3) (by omega)
    · simp
  split
  · unfold entsY
    dsimp only
    split <;> simp
  split
  · unfold snapY
    dsimp only
    repeat' split
    all_goals simp
  · unfold ackY ackedF refusedF
    repeat' split
    all_goals first | (simp; done) | (dsimp only; split <;> simp)
structure EvF (n : NS) (ev : NEv) : Prop where
  ok : NOk ev.n
  id : ev.n.Y.e.id = n.Y.e.id
  aok : AllOk (n.Y.L :: ev.S)
  slen : ev.S.length ≤ 13
  gl : (outG ev.G).length ≤ 100
  rl : ev.R.length ≤ 100
theorem after_facts {n0 n : NS} {S : List LogS} {G : List MsgV} (h0 : NOk n0) (h : NMid n) (hid : n.Y.e.id = n0.Y.e.id) (hS : AllOk S) (hl : S.length ≤ 12) (hG : G.length ≤ 6) : EvF n0 (afterN n S G) := by
  obtain ⟨a1, a2, a3⟩ := afterN_n (S := S) (G := G) h
  have c1 := compS_len (catchN n)
  have c2 := compS_ok (catchN_mid h).1
  refine ⟨a1, by rw [a2]; exact hid, fun X hX => ?_, ?_, ?_, ?_⟩
  · rcases List.mem_cons.1 hX with z | z
    · rw [z]; exact h0.mid.y.L
    · exact (hS.app c2) X z
  · show (S ++ compS (catchN n)).length ≤ 13
    rw [List.length_append]
    omega
  · show (outG G).length ≤ 100
    unfold outG
    rw [List.length_map]
    omega
  · show ((afterR n).2 ++ (giveN (catchN n).Y.e.role 3 (afterR n).1).2).length ≤ 100
    rw [List.length_append]
    have u1 := uc_run ((catchN n).Y.cm - (catchN n).ap).toNat (compN (catchN n))
    have u2 := uc_comp (catchN n)
    have u3 := uc_give (role := (catchN n).Y.e.role) 3 (afterR n).1 (by omega)
    have u4 := uc_le (catchN n)
    have e1 : afterR n = runN ((catchN n).Y.cm - (catchN n).ap).toNat (compN (catchN n)) := rfl
    rw [← e1] at u1
    omega
theorem fail_facts {n : NS} {e : Int} (h : NOk n) : EvF n (failN n e) := ⟨h, rfl, fun X hX => by simp [failN] at hX; rw [hX]; exact h.mid.y.L, by simp [failN], by simp [failN, outG], by simp [failN]⟩
theorem ev_facts {o : OpV} {n : NS} (h : NOk n) : EvF n (evN o n) := by
  unfold evN
  split
  · have hp : (tickY n.Y).S.length ≤ 12 := by
      have := persS_len { n.Y with e := (El.tickF n.Y.e).2 }
      show (persS { n.Y with e := (El.tickF n.Y.e).2 }).length ≤ 12
      omega
    exact after_facts h (tick_mid h) tick_id (tick_inv h.mid.y).2 hp (tickG_len _)
  split
  · unfold recvN
    split
    · exact fail_facts h
    · split
      · exact fail_facts h
      · exact after_facts h (step_mid h) step_id (step_inv h.mid.y).2 (step_len h.mid.y) (stepG_len _ _)
  split
  · unfold callN
    split
    · exact fail_facts h
    rename_i hc
    split
    · exact fail_facts h
    rename_i hr
    split
    · exact fail_facts h
    split
    · exact fail_facts h
    rename_i h0
    have pl := propose_len (d := encCmd (cmdN o)) (Y := n.Y)
    exact after_facts h (call_mid h (by simpa using hc) (by simpa using hr) (by simpa using h0)) (by show (proposeY (encCmd (cmdN o)) n.Y).2.Y.e.id = _; rw [propose_id]) (propose_inv h.mid.y).2 (by omega) (by simp)
  · exact fail_facts h
end Go.Proofs.Qxb6500430aGreat
