/-
  hostlaw: Info in the law's hands, waits, sweep.
-/
import Derived.Test.Qxb6500424aGreatHmD
import Derived.Test.Qxb6500424aGreatHrG
set_option linter.unusedVariables false
set_option linter.unusedSimpArgs false
open Go.Vc
namespace Go.Proofs.Qxb6500424aGreat
section
variable {w0 w w' : World} {a c : Nat} {m : LH} {r : LR} {k : LC} {B : HB} {h : HS} {n : Int}
/-- What Info answers, laid into a block. -/
structure InfoR (w : World) (s : Nat) (h : HS) (sd : Int) (e : Int) : Prop where
  no : Sk.getE h.t.K.E sd = none → e = 21 ∧ Own w s (siArr Sk.zE none) 69
  yes : ∀ a, Sk.getE h.t.K.E sd = some a → e = 0 ∧ ∃ ib, InAt w ib (infoC h.t a) ∧ Own w s (siArr a.1 (some ⟨ib, 0, none⟩)) 69
theorem info_at {s : Nat} {sd : Int} {K : Int → World → Prop} (hh : HostAt w B h) (ok : HsOk n h) (hs : Own w s (siArr Sk.zE none) 69) (hK : ∀ e w', InfoR w' s h sd e → Ext [s] w w' → K e w') :
    host_Host_Info.Call (some ⟨B.hp, 0, none⟩) sd w fun r0 r1 r2 r3 r4 r5 r6 r7 r8 e w1 => Sts [.int .i64 r0, .int .i64 r1, .int .i64 r2, .int .i64 r3, .int .i64 r4, .int .i64 r5, .int .i64 r6, .bool r7, .pointer r8] ⟨s, 0, none⟩ 0 w1 fun w2 => K e w2 := by
  refine info_ok hh ok (fun hn w1 e1 => ?_) (fun a ha ib w1 hib hia e1 => ?_)
  · refine Sts.full (vs := [.int .i64 0, .int .i64 0, .int .i64 0, .int .i64 0, .int .i64 0, .int .i64 0, .int .i64 0, .bool false, .pointer none]) (e1.own hs (by simp)) rfl rfl fun w2 hs2 o2 e2 => hK 21 w2 ⟨fun _ => ⟨rfl, o2⟩, fun a ha => by rw [hn] at ha; cases ha⟩ (e1.nil.trans e2)
  · refine Sts.full (vs := [.int .i64 a.1.sd, .int .i64 a.1.kind, .int .i64 a.1.lp, .int .i64 a.1.rh, .int .i64 a.1.rp, .int .i64 a.1.slot, .int .i64 a.1.par, .bool a.1.rdy, .pointer (some ⟨ib, 0, none⟩)]) (e1.own hs (by simp)) rfl rfl fun w2 hs2 o2 e2 => hK 0 w2 ⟨fun hn => (by rw [hn] at ha; cases ha), fun a' ha' => ?_⟩ (e1.nil.trans e2)
    rw [ha] at ha'
    cases ha'
    refine ⟨rfl, ib, e2.own hia (fun z => ?_), o2⟩
    have : ib = s := by simpa using z
    have := hs.lt
    omega
theorem info_new {sd : Int} {K : Nat → Int → World → Prop} (hh : HostAt w B h) (ok : HsOk n h) (hK : ∀ s e w', InfoR w' s h sd e → w.heap.size ≤ s → Ext [] w w' → K s e w') :
    host_Host_Info.Call (some ⟨B.hp, 0, none⟩) sd w fun r0 r1 r2 r3 r4 r5 r6 r7 r8 e w1 => New (.cells #[.int .i64 0, .int .i64 0, .int .i64 0, .int .i64 0, .int .i64 0, .int .i64 0, .int .i64 0, .bool false, .pointer none] 69) w1 fun s w2 => Sts [.int .i64 r0, .int .i64 r1, .int .i64 r2, .int .i64 r3, .int .i64 r4, .int .i64 r5, .int .i64 r6, .bool r7, .pointer r8] ⟨s, 0, none⟩ 0 w2 fun w3 => K s e w3 := by
  refine info_ok hh ok (fun hn w1 e1 => ?_) (fun a ha ib w1 hib hia e1 => ?_)
  · refine New.mk fun s w2 es hs2 os he2 => Sts.full (vs := [.int .i64 0, .int .i64 0, .int .i64 0, .int .i64 0, .int .i64 0, .int .i64 0, .int .i64 0, .bool false, .pointer none]) os rfl rfl fun w3 hs3 o3 e3 => ?_
    have z1 := e1.size
    refine hK s 21 w3 ⟨fun _ => ⟨rfl, o3⟩, fun a ha => by rw [hn] at ha; cases ha⟩ (by omega) ((e1.trans he2).trans' e3 (fun y hy hl => by simp at hy; omega))
  · refine New.mk fun s w2 es hs2 os he2 => Sts.full (vs := [.int .i64 a.1.sd, .int .i64 a.1.kind, .int .i64 a.1.lp, .int .i64 a.1.rh, .int .i64 a.1.rp, .int .i64 a.1.slot, .int .i64 a.1.par, .bool a.1.rdy, .pointer (some ⟨ib, 0, none⟩)]) os rfl rfl fun w3 hs3 o3 e3 => ?_
    have z1 := e1.size
    have hil := Own.lt hia
    refine hK s 0 w3 ⟨fun hn => (by rw [hn] at ha; cases ha), fun a' ha' => ?_⟩ (by omega) ((e1.trans he2).trans' e3 (fun y hy hl => by simp at hy; omega))
    rw [ha] at ha'
    cases ha'
    exact ⟨rfl, ib, e3.own (he2.own hia (by simp)) (fun z => by simp at z; omega), o3⟩
theorem wtCell {b : Option Addr} {l cc i : Nat} {R : List Wt} {x : Wt} (hr : Row w b l cc 3 T_hostlaw_Waiting (R.flatMap wtC)) (hx : R[i]? = some x) : ∃ k, b = some ⟨k, 0, none⟩ ∧ ∀ q v, q < 3 → (wtC x)[q]? = some v → w.cell? ⟨k, i * 3 + q, none⟩ = some v := by
  have hi := (List.getElem?_eq_some_iff.1 hx).1
  have h1 := hr.1
  have h2 := flat_length wtC_len R
  obtain ⟨k, rfl, cs, ho, hc⟩ := hr.at (i := i) (by omega) (by omega)
  refine ⟨k, rfl, fun q v hq hv => ho.cell ?_⟩
  rw [hc q hq, flat_get wtC_len hx hq]
  exact hv
theorem waits_ok {sd : Int} {R : Int → World → Prop} (hL : LawAt w0 w a m r k) (hb : r.R.length ≤ 4398046511104) (hR : ∀ x, (x < 0 ↔ waitB c sd r.R = false) → R x w) : hostlaw_World_waits.Call (some ⟨a, 0, none⟩) (c : Int) sd w R := by
  apply hostlaw_World_waits.sound
  unfold hostlaw_World_waits.B0 hostlaw_World_waits.L1
  refine ⟨fun mm a' c' sd' i w' => ∃ q : Nat, q ≤ r.R.length ∧ mm = r.R.length - q ∧ some ⟨a, 0, none⟩ = a' ∧ (c : Int) = c' ∧ sd = sd' ∧ i = (q : Int) ∧ w = w' ∧ waitB c sd (r.R.take q) = false, _, ⟨0, by omega, rfl, rfl, rfl, rfl, rfl, rfl, rfl⟩, ?_⟩
  rintro mm a' c' sd' i w' ⟨q, hq, rfl, rfl, rfl, rfl, rfl, rfl, hn⟩
  unfold hostlaw_World_waits.L1b
  refine Pn.mk (hL.ldL (b := r.rb) (l := r.R.length) (cc := r.rc) (by omega) rfl (Bm.ite (fun hlt => ?_) fun hge => ?_))
  rotate_left
  · rw [List.take_of_length_le (by omega)] at hn
    exact hR (-1) ⟨fun _ => hn, fun _ => by omega⟩
  obtain ⟨x, hx⟩ : ∃ x, r.R[q]? = some x := ⟨_, List.getElem?_eq_getElem (by omega)⟩
  obtain ⟨kr, ekr, hc⟩ := wtCell hL.r.R hx
  have next : ¬ (x.1 = c ∧ x.2.1 = sd) → waitB c sd (r.R.take (q + 1)) = false := fun z => by
    rw [List.take_add_one, hx, waitB_app, hn]
    simp [waitB]
    exact fun z1 z2 => z ⟨z1, z2⟩
  refine Pn.mk (hL.ldL (b := r.rb) (l := r.R.length) (cc := r.rc) (by omega) rfl ?_)
  rw [ekr]
  refine Pn.mk ⟨⟨by omega, by omega⟩, LdI.cell (by rw [addA, Int.toNat_natCast]; exact hc 0 _ (by omega) rfl) (Bm.mk (fun z => ?_) fun z => ?_)⟩
  · refine Pn.mk (hL.ldL (b := r.rb) (l := r.R.length) (cc := r.rc) (by omega) rfl ?_)
    rw [ekr]
    refine Pn.mk ⟨⟨by omega, by omega⟩, LdI.cell (by rw [Int.toNat_natCast, add2]; exact hc 1 _ (by omega) rfl) ?_⟩
    unfold hostlaw_World_waits.B1
    refine Bm.mk (fun z2 => hR _ ⟨fun _ => by omega, fun z3 => ?_⟩) fun z2 => ⟨r.R.length - (q + 1), by omega, q + 1, by omega, rfl, rfl, rfl, rfl, by rw [w64 (by omega) (by omega)]; omega, rfl, next fun y => beqF z2 y.2⟩
    have e1 : (x.1 : Int) = (c : Int) := beqT z
    have : waitB c sd r.R = true := waitB_iff.2 ⟨x, List.mem_of_getElem? hx, by omega, beqT z2⟩
    rw [this] at z3
    cases z3
  · unfold hostlaw_World_waits.B1
    exact Bm.neg rfl ⟨r.R.length - (q + 1), by omega, q + 1, by omega, rfl, rfl, rfl, rfl, by rw [w64 (by omega) (by omega)]; omega, rfl, next fun y => beqF z (by rw [y.1])⟩
/-- The hosts' tables as sweepR wants them. -/
def LH.E (m : LH) (c : Nat) : List Sk.AE := (m.H c).t.K.E
structure HsAll (n : Int) (H : Nat → HS) : Prop where
  ok : ∀ c, c < 3 → HsOk n (H c)
  why : ∀ c, c < 3 → WT (H c).t
theorem LawAt.stRdy {R' : List Wt} {b : Option Addr} {cc : Nat} {K : World → Prop} (hL : LawAt w0 w a m r k) (hr : Row w b R'.length cc 3 T_hostlaw_Waiting (R'.flatMap wtC)) (hg : ∀ y ∈ rowBlk b, w0.heap.size ≤ y)
    (hK : ∀ w', w'.heap.size = w.heap.size → LawAt w0 w' a m { r with R := R', rb := b, rc := cc } k → Ext [a] w w' → K w') : Sts [.slice b R'.length cc] (Addr.add ⟨a, 0, none⟩ 46) 0 w K := by
  rw [addA]
  refine LawAt.stG (r' := { r with R := R', rb := b, rc := cc }) (k' := k) hL.own hL.h ⟨hL.r.W, hL.r.N, hL.r.sn, hr, hL.r.I, hL.r.M, hL.r.O, hL.r.tl, hL.r.tok, hL.r.sepW, hL.r.sepM, hg, hL.r.geI, hL.r.geM, hL.r.geO, hL.r.x⟩ hL.ge hL.ext (by omega) rfl (fun j z => ne_c rfl fun hj => ?_) hK
  exact lawF_other (o := 46) (by omega) hj ⟨rfl, rfl, rfl, rfl, rfl⟩ ⟨rfl, rfl, rfl⟩ ⟨.inr rfl, .inr rfl, .inr rfl, .inr rfl, .inl rfl, .inr rfl, .inr rfl, .inr rfl⟩ z
theorem sweep_ok {R : World → Prop} (hL : LawAt w0 w a m r k) (ok : HsAll n m.H) (hb : r.R.length ≤ 4398046511104) (h3 : ∀ x ∈ r.R, x.1 < 3)
    (hR : ∀ b cc w', LawAt w0 w' a m { r with R := sweepR m.E r.R, rb := b, rc := cc } k → ExtT w w' [T_hostlaw_World] → R w') : hostlaw_World_sweep.Call (some ⟨a, 0, none⟩) w R := by
  apply hostlaw_World_sweep.sound
  unfold hostlaw_World_sweep.B0
  refine Pn.mk (hL.ldL (b := r.rb) (l := r.R.length) (cc := r.rc) (by omega) rfl (Make.mk (by omega) (by omega) (by omega) (by omega) fun b12 w1 e12 hs1 o12 he1 => ?_))
  have hsz : (madeCells (Value.agg #[.int .i64 0, .int .i64 0, .int .i64 0]).cells (((r.R.length : Nat) : Int).toNat * 3)).size = r.R.length * 3 := by
    rw [Int.toNat_natCast]
    simp [madeCells]
  have g1 : Row w1 (some ⟨b12, 0, none⟩) 0 r.R.length 3 T_hostlaw_Waiting [] := ⟨rfl, Nat.zero_le _, .inr ⟨b12, _, rfl, o12, by rw [hsz]; exact Nat.le_refl _, by simp⟩⟩
  have hz := hL.sz
  have z1 := he1.size
  rw [Int.toNat_natCast]
  unfold hostlaw_World_sweep.L1
  refine ⟨fun mm a' b' l' c' i w' => ∃ q : Nat, q ≤ r.R.length ∧ mm = r.R.length - q ∧ some ⟨a, 0, none⟩ = a' ∧ l' = (sweepR m.E (r.R.take q)).length ∧ i = (q : Int) ∧ Ext [] w w' ∧ Row w' b' (sweepR m.E (r.R.take q)).length c' 3 T_hostlaw_Waiting ((sweepR m.E (r.R.take q)).flatMap wtC) ∧ ∀ y ∈ rowBlk b', w.heap.size ≤ y, r.R.length, ⟨0, by omega, rfl, rfl, rfl, rfl, he1, g1, fun y hy => by simp [rowBlk] at hy; omega⟩, ?_⟩
  rintro mm a' b' l' c' i w' ⟨q, hq, rfl, rfl, rfl, rfl, he', row', hge'⟩
  have hL' := hL.ext0 he'
  unfold hostlaw_World_sweep.L1b
  refine Pn.mk (hL'.ldL (b := r.rb) (l := r.R.length) (cc := r.rc) (by omega) rfl (Bm.ite (fun hlt => ?_) fun hgq => ?_))
  rotate_left
  · rw [List.take_of_length_le (by omega)] at row'
    rw [List.take_of_length_le (show r.R.length ≤ q by omega)]
    exact Pn.mk (hL'.stRdy (R' := sweepR m.E r.R) row' (fun y hy => by have := hge' y hy; omega) fun w2 hs2 h2 he2 => hR b' c' w2 h2 ((ExtT.nil he' _).trans (ExtT.of he2 (Tys.one hL'.own))))
  obtain ⟨x, hx⟩ : ∃ x, r.R[q]? = some x := ⟨_, List.getElem?_eq_getElem (by omega)⟩
  have hx3 := h3 x (List.mem_of_getElem? hx)
  obtain ⟨kr, ekr, hc⟩ := wtCell hL'.r.R hx
  refine Pn.mk (hL'.ldL (b := r.rb) (l := r.R.length) (cc := r.rc) (by omega) rfl ?_)
  rw [ekr]
  refine Pn.mk ⟨⟨by omega, by omega⟩, ?_⟩
  rw [Int.toNat_natCast, add2, add2, addA]
  refine LdI.cell (hc 0 _ (by omega) rfl) (LdI.cell (hc 1 _ (by omega) rfl) (LdI.cell (hc 2 _ (by omega) rfl) (New.mk fun rb w2 erb hs2 orb he2 => Sts.full (vs := wtC x) orb rfl rfl fun w3 hs3 o3 he3 => ?_)))
  have E3 : Ext [] w w3 := (he'.trans he2).trans' he3 (fun y hy hl => by simp at hy; have := he'.size; omega)
  have E3' : Ext [] w' w3 := he2.trans' he3 (fun y hy hl => by simp at hy; omega)
  have E3d : Ext [] w w3.drew := E3.trans (Ext.drew _ _)
  have hL3 := hL.ext0 E3d
  have o3d := o3.drew
  have row3 := row'.ext (E3'.trans (Ext.drew [] _)) (fun _ _ z => by cases z)
  have hst : sweepR m.E (r.R.take (q + 1)) = sweepR m.E (r.R.take q) ++ (if validB m.E x = true then [x] else []) := by
    unfold sweepR
    rw [List.take_add_one, hx, List.filter_append]
    simp only [Option.toList, List.filter_cons, List.filter_nil]
  have hlen : (sweepR m.E (r.R.take q)).length ≤ q := by
    unfold sweepR
    have := List.length_filter_le (validB m.E) (r.R.take q)
    rw [List.length_take] at this
    omega
  -- behind Info
  have fin : ∀ {s : Nat} {e : Int} {w5 : World}, InfoR w5 s (m.H x.1) x.2.1 e → Ext [] w3.drew w5 → hostlaw_World_sweep.B1 (some ⟨a, 0, none⟩) b' (sweepR m.E (r.R.take q)).length c' (q : Int) rb s e w5 (fun a' b' l' c' i w' => ∃ m', m' < r.R.length - q ∧ ∃ q : Nat, q ≤ r.R.length ∧ m' = r.R.length - q ∧ some ⟨a, 0, none⟩ = a' ∧ l' = (sweepR m.E (r.R.take q)).length ∧ i = (q : Int) ∧ Ext [] w w' ∧ Row w' b' (sweepR m.E (r.R.take q)).length c' 3 T_hostlaw_Waiting ((sweepR m.E (r.R.take q)).flatMap wtC) ∧ ∀ y ∈ rowBlk b', w.heap.size ≤ y) R := fun {s e w5} hI e5 => by
    have o5 := e5.own o3d (by simp)
    have row5 := row3.ext e5 (fun _ _ z => by cases z)
    have E5 := E3d.trans e5
    have z5 := E5.size
    have no : validB m.E x = false → ∀ tt : Bool, tt = false → hostlaw_World_sweep.B2 (some ⟨a, 0, none⟩) b' (sweepR m.E (r.R.take q)).length c' (q : Int) rb tt w5 (fun a' b' l' c' i w' => ∃ m', m' < r.R.length - q ∧ ∃ q : Nat, q ≤ r.R.length ∧ m' = r.R.length - q ∧ some ⟨a, 0, none⟩ = a' ∧ l' = (sweepR m.E (r.R.take q)).length ∧ i = (q : Int) ∧ Ext [] w w' ∧ Row w' b' (sweepR m.E (r.R.take q)).length c' 3 T_hostlaw_Waiting ((sweepR m.E (r.R.take q)).flatMap wtC) ∧ ∀ y ∈ rowBlk b', w.heap.size ≤ y) R := fun hv tt ht => by
      unfold hostlaw_World_sweep.B2 hostlaw_World_sweep.B3
      rw [hv, if_neg (by simp), List.append_nil] at hst
      refine Bm.neg ht ⟨r.R.length - (q + 1), by omega, q + 1, by omega, rfl, rfl, by rw [hst], by rw [w64 (by omega) (by omega)]; omega, E5, by rw [hst]; exact row5, hge'⟩
    unfold hostlaw_World_sweep.B1
    cases hg : Sk.getE (m.H x.1).t.K.E x.2.1 with
    | none =>
      rw [(hI.no hg).1]
      refine Bm.neg rfl (no ?_ false rfl)
      unfold validB LH.E
      rw [hg]
    | some ar =>
      obtain ⟨rfl, ib, hia, os⟩ := hI.yes ar hg
      have hv : validB m.E x = (ar.1.rdy && decide (ar.1.par = x.2.2)) := by
        unfold validB LH.E
        rw [hg]
      refine Bm.pos rfl (LdB.mk os rfl (Bm.mk (fun zr => ?_) fun zr => ?_))
      · refine LdI.mk os rfl (LdI.mk o5 rfl ?_)
        rw [zr, Bool.true_and] at hv
        by_cases zp : ar.1.par = x.2.2
        · rw [decide_eq_true zp] at hv
          rw [hv, if_pos rfl] at hst
          unfold hostlaw_World_sweep.B2
          refine Bm.pos (by rw [zp]; simp) (LdI.mk o5 rfl (LdI.mk o5 rfl (LdI.mk o5 rfl (New.mk fun nb w6 enb hs6 onb he6 => ?_))))
          have row6 := row5.ext he6 (fun _ _ z => by cases z)
          refine Vc.Append.mk (e := 76) (news := wtC x) row6 (CellsAt.own onb (fun j v hj => by simpa [wtC] using hj)) rfl rfl rfl (by omega) (by omega) fun b7 c7 w7 r7 he7 hb7 => ?_
          unfold hostlaw_World_sweep.B3
          have z6 := he6.size
          refine ⟨r.R.length - (q + 1), by omega, q + 1, by omega, rfl, rfl, by rw [hst]; simp, by rw [w64 (by omega) (by omega)]; omega, (E5.trans he6).trans' he7 (fun y hy hl => absurd (hge' y hy) (by omega)), ?_, fun y hy => ?_⟩
          · rw [hst, List.flatMap_append]
            simpa using r7
          · rcases hb7 y hy with z | z
            · exact hge' y z
            · omega
        · rw [decide_eq_false zp] at hv
          exact no hv _ (by simpa using zp)
      · rw [zr, Bool.false_and] at hv
        exact no hv false rfl
  have nI : (wtC x).toArray[0]? = some (.int .i64 (x.1 : Int)) := rfl
  refine LdI.mk o3d rfl (Pn.mk ⟨⟨by omega, by omega⟩, hL3.ldH hx3 (LdI.mk o3d rfl ⟨?_, ?_⟩)⟩)
  · exact info_new (hL3.h.H x.1 hx3) (ok.ok x.1 hx3) fun s e w5 hI hs e5 => fin hI e5
  · refine New.mk fun s w4 es hs4 os4 he4 => ⟨(he4.own o3d (by simp)).cell rfl, ?_, (he4.own o3d (by simp)).cell rfl, ?_⟩
    · have h4 := hL3.ext0 he4
      rw [addC0]
      exact h4.own.cell (by rw [fnArr_get _ (by omega)]; unfold lawF pt; rw [if_pos hx3])
    · refine info_at ((hL3.h.H x.1 hx3).ext0 he4) (ok.ok x.1 hx3) os4 fun e w5 hI e5 => fin hI (he4.trans' e5 (fun y hy hl => by simp at hy; omega))
end
end Go.Proofs.Qxb6500424aGreat
