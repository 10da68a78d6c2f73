/-
  seglaw: Play.
-/
import Derived.Test.Qxb6500426aSgM
import Derived.Test.Qxb6500426aScript
set_option linter.unusedVariables false
set_option linter.unusedSimpArgs false
open Go.Vc
namespace Go.Proofs.Qxb6500426a

section
variable {w0 w : World} {a : Nat} {σ : LawS} {qu : Bool} {N : Nat}
/-- The law's own record written. -/
theorem LX.world {w' : World} {d sd : Hd} {lb pb : Option Addr} {ll lc pl pc : Nat} {LV PV : List Int} {src dst : Int} (h : LX w0 w a σ qu N) (ho : Own w' a (({ σ with dr := d, lb := lb, ll := ll, lc := lc, LV := LV, sd := sd, pb := pb, pl := pl, pc := pc, PV := PV, src := src, dst := dst } : LawS).cells qu) T_seglaw_World) (he : Ext [a] w w')
    (hl : Row w lb ll lc 1 T_uint8 (U8 LV) ∧ IsB LV) (hp : Row w pb pl pc 1 T_uint8 (U8 PV) ∧ IsB PV) (hg : LV = [] ∨ (EncOk src dst sd PV.length ∧ LV = encSeg src dst sd PV)) : LX w0 w' a { σ with dr := d, lb := lb, ll := ll, lc := lc, LV := LV, sd := sd, pb := pb, pl := pl, pc := pc, PV := PV, src := src, dst := dst } qu N := by
  have t1 : Tys w [a] [T_seglaw_World] := Tys.one h.at'.own
  obtain ⟨X1, x1, x2⟩ := h.at'.sx
  obtain ⟨Y1, y1, y2⟩ := h.at'.rx
  obtain ⟨hf, vf, r1, r2⟩ := h.at'.rm.own
  have ga := h.ge a (by simp [foot])
  refine ⟨⟨ho, ⟨X1, ownT he t1 x1 (by decide), x2⟩, ⟨ownT he t1 h.at'.sm.own (by decide), rowT h.at'.sm.row he t1 (by decide)⟩, h.at'.sok, ⟨Y1, ownT he t1 y1 (by decide), y2⟩, ⟨⟨hf, vf, ownT he t1 r1 (by decide), r2⟩, rowT h.at'.rm.row he t1 (by decide)⟩, h.at'.rok,
    ⟨rowT hl.1 he t1 (by decide), hl.2⟩, ⟨rowT hp.1 he t1 (by decide), hp.2⟩, hg, rowT h.at'.mine he t1 (by decide), fun j v hv => ?_, rowT h.at'.ints he t1 (by decide), fun j v hv => ?_⟩, h.kn, h.jn, h.ge, h.ext.trans' he (fun y hy hl => by simp at hy; omega)⟩
  · obtain ⟨k, n, e, hn, ho⟩ := h.at'.kept j v hv
    exact ⟨k, n, e, hn, ownT he t1 ho (by decide)⟩
  · obtain ⟨k, n, e, hn, ho⟩ := h.at'.kint j v hv
    exact ⟨k, n, e, hn, ownT he t1 ho (by decide)⟩
theorem LX.draft {w' : World} (d : Hd) (h : LX w0 w a σ qu N) (ho : Own w' a (({ σ with dr := d } : LawS).cells qu) T_seglaw_World) (he : Ext [a] w w') : LX w0 w' a { σ with dr := d } qu N :=
  h.world (d := d) ho he h.at'.last h.at'.sent h.at'.good
theorem put5 (σ : LawS) (qu : Bool) (x : Int) (i : Nat) (d : Hd) (hi : ((σ.cells qu).setIfInBounds i (.int .i64 x)) = (({ σ with dr := d } : LawS).cells qu)) : putArr (σ.cells qu) i [.int .i64 x] = (({ σ with dr := d } : LawS).cells qu) := hi
theorem put7 (σ : LawS) (qu : Bool) (d : Hd) (b : Option Addr) (l c : Nat) : putArr (σ.cells qu) 12 [.int .i64 d.sp, .int .i64 d.dp, .int .i64 d.sq, .int .i64 d.ak, .int .i64 d.fl, .int .i64 d.wn, .slice b l c] = (({ σ with sd := d, pb := b, pl := l, pc := c } : LawS).cells qu) := by
  apply Array.ext'
  unfold LawS.cells
  simp only [putArr]
  simp
/-- A row of bytes out of a fresh block. -/
theorem Bf.rowz {k c : Nat} {v z : List Int} (h : Bf w k (v ++ z)) (hc : v.length + z.length = c) : Row w (some ⟨k, 0, none⟩) v.length c 1 T_uint8 (U8 v) := by
  refine ⟨by rw [U8_length]; omega, by omega, .inr ⟨k, _, rfl, h.1, by simp [U8]; omega, ?_⟩⟩
  rw [← u8app, Nat.mul_one, List.take_append_of_le_length (by rw [U8_length]; exact Nat.le_refl _), List.take_of_length_le (by rw [U8_length]; exact Nat.le_refl _)]
/-- A fresh record filled. -/
theorem newSeg {H : Hd} {b : Option Addr} {l c : Nat} {K : Nat → World → Prop} (hk : ∀ s w', w.heap.size ≤ s → Own w' s (H.cells b l c) T_api_Segment → Ext [] w w' → K s w') :
    New (.cells #[.int .i64 0, .int .i64 0, .int .i64 0, .int .i64 0, .int .i64 0, .int .i64 0, .slice none 0 0] 39) w fun s w1 => Sts [.int .i64 H.sp, .int .i64 H.dp, .int .i64 H.sq, .int .i64 H.ak, .int .i64 H.fl, .int .i64 H.wn, .slice b l c] ⟨s, 0, none⟩ 0 w1 fun w2 => K s w2 :=
  New.mk fun s w1 e1 s1 o1 he1 => Sts.full (vs := (H.cells b l c).toList) o1 rfl rfl fun w2 hs2 o2 he2 => hk s w2 (by omega) o2 (he1.trans' he2 (fun y hy hlt => by simp at hy; omega))
def opArr (o : OpV) : Array Value := #[.int .i64 o.k, .int .i64 o.a, .int .i64 o.b, .int .i64 o.c, .string o.s, .string o.t]
theorem playDraft_ok {o : OpV} {ob : Nat} {R : Bool → World → Prop} (h : LX w0 w a σ qu N) (oo : Own w ob (opArr o) T_api_Op) (hR : ∀ σ' w', LX w0 w' a σ' qu N → R true w') :
    (LdI .i64 ⟨ob, 1, none⟩ w fun x45 => LdI .i64 ⟨ob, 2, none⟩ w fun x47 => Pn (some (⟨a, 0, none⟩ : Addr)) fun y => Sts [.int .i64 x45] (y.add 4) 0 w fun w2 => w2.cell? ⟨ob, 2, none⟩ = some (.int .i64 x47) ∧ Pn (some (⟨a, 0, none⟩ : Addr)) fun y1 => Sts [.int .i64 x47] ((y1.add 4).add 1) 0 w2 fun w3 => R true w3) ∧
    (LdI .i64 ⟨ob, 1, none⟩ w fun x60 => LdI .i64 ⟨ob, 2, none⟩ w fun x62 => LdI .i64 ⟨ob, 3, none⟩ w fun x64 => Pn (some (⟨a, 0, none⟩ : Addr)) fun y => Sts [.int .i64 x60] ((y.add 4).add 2) 0 w fun w4 => w4.cell? ⟨ob, 3, none⟩ = some (.int .i64 x64) ∧ w4.cell? ⟨ob, 2, none⟩ = some (.int .i64 x62) ∧ Pn (some (⟨a, 0, none⟩ : Addr)) fun y3 => Sts [.int .i64 x62] ((y3.add 4).add 3) 0 w4 fun w5 => w5.cell? ⟨ob, 3, none⟩ = some (.int .i64 x64) ∧ Pn (some (⟨a, 0, none⟩ : Addr)) fun y4 => Sts [.int .i64 x64] ((y4.add 4).add 5) 0 w5 fun w6 => R true w6) ∧
    (LdI .i64 ⟨ob, 1, none⟩ w fun x78 => Pn (some (⟨a, 0, none⟩ : Addr)) fun y => Sts [.int .i64 x78] ((y.add 4).add 4) 0 w fun w7 => R true w7) := by
  have oc : ∀ {w' : World}, Ext [a] w w' → Own w' ob (opArr o) T_api_Op := fun he => ownT he (Tys.one h.at'.own) oo (by decide)
  refine ⟨LdI.mk oo rfl (LdI.mk oo rfl (Pn.mk ?_)), LdI.mk oo rfl (LdI.mk oo rfl (LdI.mk oo rfl (Pn.mk ?_))), LdI.mk oo rfl (Pn.mk ?_)⟩
  · rw [add_mk, Nat.zero_add]
    refine Sts.mk h.at'.own (by simp [LawS.cells]) rfl fun w2 hs2 o2 he2 => ⟨(oc he2).cell rfl, Pn.mk ?_⟩
    have h2 := h.draft { σ.dr with sp := o.a } o2 he2
    rw [add_mk, add_mk]
    refine Sts.mk h2.at'.own (by simp [LawS.cells]) rfl fun w3 hs3 o3 he3 => hR _ w3 (h2.draft { σ.dr with sp := o.a, dp := o.b } o3 he3)
  · rw [add_mk, add_mk]
    refine Sts.mk h.at'.own (by simp [LawS.cells]) rfl fun w2 hs2 o2 he2 => ⟨(oc he2).cell rfl, (oc he2).cell rfl, Pn.mk ?_⟩
    have h2 := h.draft { σ.dr with sq := o.a } o2 he2
    rw [add_mk, add_mk]
    refine Sts.mk h2.at'.own (by simp [LawS.cells]) rfl fun w3 hs3 o3 he3 => ⟨(oc (he2.trans he3)).cell rfl, Pn.mk ?_⟩
    have h3 := h2.draft { σ.dr with sq := o.a, ak := o.b } o3 he3
    rw [add_mk, add_mk]
    refine Sts.mk h3.at'.own (by simp [LawS.cells]) rfl fun w4 hs4 o4 he4 => hR _ w4 (h3.draft { σ.dr with sq := o.a, ak := o.b, wn := o.c } o4 he4)
  · rw [add_mk, add_mk]
    refine Sts.mk h.at'.own (by simp [LawS.cells]) rfl fun w2 hs2 o2 he2 => hR _ w2 (h.draft { σ.dr with fl := o.a } o2 he2)
/-- The draft's cells. -/
theorem LawAt.ldDraft {K : Int → Int → Int → Int → Int → Int → Option Addr → Nat → Nat → Prop} (h : LawAt w a σ qu) (hk : K σ.dr.sp σ.dr.dp σ.dr.sq σ.dr.ak σ.dr.fl σ.dr.wn none 0 0) :
    LdI .i64 (Addr.add ⟨a, 0, none⟩ 4) w fun x0 => LdI .i64 ((Addr.add ⟨a, 0, none⟩ 4).add 1) w fun x1 => LdI .i64 ((Addr.add ⟨a, 0, none⟩ 4).add 2) w fun x2 => LdI .i64 ((Addr.add ⟨a, 0, none⟩ 4).add 3) w fun x3 => LdI .i64 ((Addr.add ⟨a, 0, none⟩ 4).add 4) w fun x4 => LdI .i64 ((Addr.add ⟨a, 0, none⟩ 4).add 5) w fun x5 => LdL ((Addr.add ⟨a, 0, none⟩ 4).add 6) w fun x6 x7 x8 => K x0 x1 x2 x3 x4 x5 x6 x7 x8 := by
  simp only [add_mk]
  exact LdI.mk h.own rfl (LdI.mk h.own rfl (LdI.mk h.own rfl (LdI.mk h.own rfl (LdI.mk h.own rfl (LdI.mk h.own rfl (LdL.mk h.own rfl hk))))))
theorem ldSeg {s : Nat} {H : Hd} {b : Option Addr} {l c : Nat} {K : Int → Int → Int → Int → Int → Int → Option Addr → Nat → Nat → Prop} (h : Own w s (H.cells b l c) T_api_Segment) (hk : K H.sp H.dp H.sq H.ak H.fl H.wn b l c) :
    LdI .i64 ⟨s, 0, none⟩ w fun x0 => LdI .i64 ⟨s, 1, none⟩ w fun x1 => LdI .i64 ⟨s, 2, none⟩ w fun x2 => LdI .i64 ⟨s, 3, none⟩ w fun x3 => LdI .i64 ⟨s, 4, none⟩ w fun x4 => LdI .i64 ⟨s, 5, none⟩ w fun x5 => LdL ⟨s, 6, none⟩ w fun x6 x7 x8 => K x0 x1 x2 x3 x4 x5 x6 x7 x8 :=
  LdI.mk h rfl (LdI.mk h rfl (LdI.mk h rfl (LdI.mk h rfl (LdI.mk h rfl (LdI.mk h rfl (LdL.mk h rfl hk))))))
theorem LawAt.ldSent {K : Int → Int → Int → Int → Int → Int → Option Addr → Nat → Nat → Prop} (h : LawAt w a σ qu) (hk : K σ.sd.sp σ.sd.dp σ.sd.sq σ.sd.ak σ.sd.fl σ.sd.wn σ.pb σ.pl σ.pc) :
    LdI .i64 (Addr.add ⟨a, 0, none⟩ 12) w fun x0 => LdI .i64 ((Addr.add ⟨a, 0, none⟩ 12).add 1) w fun x1 => LdI .i64 ((Addr.add ⟨a, 0, none⟩ 12).add 2) w fun x2 => LdI .i64 ((Addr.add ⟨a, 0, none⟩ 12).add 3) w fun x3 => LdI .i64 ((Addr.add ⟨a, 0, none⟩ 12).add 4) w fun x4 => LdI .i64 ((Addr.add ⟨a, 0, none⟩ 12).add 5) w fun x5 => LdL ((Addr.add ⟨a, 0, none⟩ 12).add 6) w fun x6 x7 x8 => K x0 x1 x2 x3 x4 x5 x6 x7 x8 := by
  simp only [add_mk]
  exact LdI.mk h.own rfl (LdI.mk h.own rfl (LdI.mk h.own rfl (LdI.mk h.own rfl (LdI.mk h.own rfl (LdI.mk h.own rfl (LdL.mk h.own rfl hk))))))
/-- Behind Encode on both sides. -/
theorem playEnc_ok {o : OpV} {ob s2 k1 k2 : Nat} {ab bb : Option Addr} {al ac bl bc pc2 : Nat} {e : Int} {z1 z2 : List Int} {R : Bool → World → Prop} (h : LX w0 w a σ qu N) (hN : N ≤ 999999999) (oo : Own w ob (opArr o) T_api_Op) (os : Own w s2 (σ.dr.cells (some ⟨k2, 0, none⟩) o.s.size pc2) T_api_Segment)
    (hz2 : o.s.size + z2.length = pc2) (hf2 : Bf w k2 (strB o.s ++ z2)) (he : e = encErr o.a o.b σ.dr o.s.size)
    (hcase : (e ≠ 0 ∧ ab = none ∧ al = 0 ∧ ac = 0) ∨ (e = 0 ∧ EncOk o.a o.b σ.dr o.s.size ∧ ∃ k, ab = some ⟨k, 0, none⟩ ∧ al = 8 + o.s.size ∧ ac = 8 + o.s.size ∧ w0.heap.size ≤ k ∧ KNot k σ ∧ k ∉ rowBlk bb ∧ k ≠ k2 ∧ Bf w k (encSeg o.a o.b σ.dr (strB o.s)) ∧ bl = 8 + o.s.size ∧ Row w bb bl bc 1 T_uint8 (U8 (encSeg o.a o.b σ.dr (strB o.s)))))
    (hR : ∀ σ' w', LX w0 w' a σ' qu (N + 1) → R true w') : seglaw_World_Play.B1 (some ⟨a, 0, none⟩) ob s2 ab al ac e bb bl bc false w R := by
  unfold seglaw_World_Play.B1
  refine Bm.neg rfl ?_
  rcases hcase with ⟨hne, rfl, rfl, rfl⟩ | ⟨hz, hok, k, rfl, rfl, rfl, hk0, hkn, hkb, hkk, hfk, rfl, hrow⟩
  · refine Bm.neg (by simpa using hne) ?_
    unfold seglaw_World_Play.B5
    exact lawOwn_nil (hR σ w (h.mono (by omega)))
  · refine Bm.pos (by simpa using hz) ?_
    have hd := h.ext0 (Ext.drew [] w)
    have ood : Own w.drew ob (opArr o) T_api_Op := oo
    have osd : Own w.drew s2 (σ.dr.cells (some ⟨k2, 0, none⟩) o.s.size pc2) T_api_Segment := os
    have t0 : Tys w.drew [a] [T_seglaw_World] := Tys.one hd.at'.own
    have oc : ∀ {w' : World}, Ext [a] w.drew w' → Own w' ob (opArr o) T_api_Op := fun he => ownT he t0 ood (by decide)
    have sc : ∀ {w' : World}, Ext [a] w.drew w' → Own w' s2 (σ.dr.cells (some ⟨k2, 0, none⟩) o.s.size pc2) T_api_Segment := fun he => ownT he t0 osd (by decide)
    refine ldSeg osd (LdI.mk ood rfl (LdI.mk ood rfl (Pn.mk ?_)))
    rw [add_mk, Nat.zero_add]
    refine Sts.mk hd.at'.own (by simp [LawS.cells]) rfl fun w1 hs1 o1 he1 => ⟨(oc he1).cell rfl, (oc he1).cell rfl, (sc he1).cell rfl, (sc he1).cell rfl, (sc he1).cell rfl, (sc he1).cell rfl, (sc he1).cell rfl, (sc he1).cell rfl, (sc he1).cell rfl, Pn.mk ?_⟩
    rw [add_mk, Nat.zero_add]
    have o1' : Own w1 a (({ σ with lb := bb, ll := 8 + o.s.size, lc := bc } : LawS).cells qu) T_seglaw_World := o1
    refine Sts.mk o1' (by simp [LawS.cells]) rfl fun w2 hs2 o2 he2 => ⟨(oc (he1.trans he2)).cell rfl, (oc (he1.trans he2)).cell rfl, Pn.mk ?_⟩
    have o2' : Own w2 a (({ σ with lb := bb, ll := 8 + o.s.size, lc := bc, sd := σ.dr, pb := some ⟨k2, 0, none⟩, pl := o.s.size, pc := pc2 } : LawS).cells qu) T_seglaw_World := by
      rw [put7] at o2
      exact o2
    rw [add_mk, Nat.zero_add]
    refine Sts.mk o2' (by simp [LawS.cells]) rfl fun w3 hs3 o3 he3 => ⟨(oc ((he1.trans he2).trans he3)).cell rfl, Pn.mk ?_⟩
    have o3' : Own w3 a (({ σ with lb := bb, ll := 8 + o.s.size, lc := bc, sd := σ.dr, pb := some ⟨k2, 0, none⟩, pl := o.s.size, pc := pc2, src := o.a } : LawS).cells qu) T_seglaw_World := o3
    rw [add_mk, Nat.zero_add]
    refine Sts.mk o3' (by simp [LawS.cells]) rfl fun w4 hs4 o4' he4 => ?_
    have o4 : Own w4 a (({ σ with lb := bb, ll := 8 + o.s.size, lc := bc, sd := σ.dr, pb := some ⟨k2, 0, none⟩, pl := o.s.size, pc := pc2, src := o.a, dst := o.b } : LawS).cells qu) T_seglaw_World := o4'
    have ex4 := ((he1.trans he2).trans he3).trans he4
    have hBs := strB_isB o.s
    have hls := strB_length o.s
    have hokD : EncOk o.a o.b σ.dr (strB o.s).length := by rw [hls]; exact hok
    have hL := hd.world (w' := w4) (d := σ.dr) (sd := σ.dr) (lb := bb) (ll := 8 + o.s.size) (lc := bc) (LV := encSeg o.a o.b σ.dr (strB o.s)) (pb := some ⟨k2, 0, none⟩) (pl := o.s.size) (pc := pc2) (PV := strB o.s) (src := o.a) (dst := o.b) o4 ex4 ⟨hrow.ext (Ext.drew [] _) (fun _ _ h => by cases h), hokD.isB hBs⟩ ⟨by
        have := (hf2.ext0 (Ext.drew [] w)).rowz (c := pc2) (by omega)
        rw [hls] at this
        exact this, hBs⟩ (.inr ⟨hokD, rfl⟩)
    have hfk4 : Bf w4 k (encSeg o.a o.b σ.dr (strB o.s)) := ⟨ownT ex4 t0 (hfk.ext0 (Ext.drew [] w)).1 (by decide), hfk.2⟩
    have hn8 := hok.n
    unfold seglaw_World_Play.B5
    refine lawOwn_ok hL hN hfk4 ⟨hkn.d, hkn.e, hkb, by simp [rowBlk]; omega, hkn.v⟩ hk0 (by rw [encSeg_len, hls]) (by omega) fun σ' w5 h5 _ _ => hR σ' w5 h5
/-- Behind the decoding of the kept segment. -/
theorem playLast_ok {o : OpV} {ob s : Nat} {σ1 : LawS} {pb : Option Addr} {pl pc : Nat} {R : Bool → World → Prop} (h : LX w0 w a σ1 qu N) (hkin : Kin σ σ1) (oo : Own w ob (opArr o) T_api_Op) (os : Own w s ((decV o.a o.b σ.LV).1.cells pb pl pc) T_api_Segment) (hrd : Rd w pb (decV o.a o.b σ.LV).2) (hpl : (decV o.a o.b σ.LV).2.length = pl) (hpl2 : pl ≤ 100)
    (hR : ∀ w', Ext [] w w' → R true w') : seglaw_World_Play.B2 (some ⟨a, 0, none⟩) ob s (decErr o.a o.b σ.LV) true w R := by
  obtain ⟨_, _, _, _, _, _, _, _, rfl⟩ := hkin
  unfold seglaw_World_Play.B2
  have hd := h.ext0 (Ext.drew [] w)
  have ood : Own w.drew ob (opArr o) T_api_Op := oo
  have osd : Own w.drew s ((decV o.a o.b σ.LV).1.cells pb pl pc) T_api_Segment := os
  have hlen : σ.LV.length = σ.ll := by have := h.at'.last.1.1; rw [U8_length] at this; have e : σ.LV.length = σ.ll * 1 := this; omega
  have hgood : σ.LV = [] ∨ (EncOk σ.src σ.dst σ.sd σ.PV.length ∧ σ.LV = encSeg σ.src σ.dst σ.sd σ.PV) := h.at'.good
  refine Bm.neg rfl (Pn.mk (hd.at'.ldLast (Bm.ite (fun hpos => ?_) fun hz => ?_)))
  · have hpos' : 0 < σ.LV.length := by have : ((σ.ll : Nat) : Int) > 0 := hpos; omega
    rcases hgood with e | ⟨hok, hLV⟩
    · rw [e] at hpos'; simp at hpos'
    have stray : ¬ (o.a = σ.src ∧ o.b = σ.dst) → seglaw_World_Play.B6 (some ⟨a, 0, none⟩) s (decErr o.a o.b σ.LV) false w.drew R := fun hne => by
      unfold seglaw_World_Play.B6
      have hst := stray_err (a := o.a) (b := o.b) hok hne
      rw [← hLV] at hst
      refine Bm.neg rfl (Pn.mk (hd.at'.ldLast (Bm.pos (decide_eq_true hpos) ?_)))
      rcases hst with e | e
      · rw [e]
        exact Bm.pos rfl (hR _ (Ext.drew _ _))
      · rw [e]
        exact Bm.neg rfl (hR _ (Ext.drew _ _))
    refine LdI.mk ood rfl (Pn.mk (hd.at'.ldSrc ?_))
    by_cases ea : o.a = σ.src
    · refine Bm.pos (by simpa using ea) (LdI.mk ood rfl (Pn.mk (hd.at'.ldDst ?_)))
      by_cases eb : o.b = σ.dst
      · have ebt : (o.b == σ.dst) = true := by simpa using eb
        show seglaw_World_Play.B6 (some ⟨a, 0, none⟩) s (decErr o.a o.b σ.LV) (o.b == σ.dst) w.drew R
        rw [ebt]
        unfold seglaw_World_Play.B6
        have hz0 : decErr o.a o.b σ.LV = 0 := by rw [ea, eb, hLV]; exact round_err hok
        refine Bm.pos rfl ?_
        rw [hz0]
        have ev : decV o.a o.b σ.LV = (σ.sd, σ.PV) := by
          unfold decV
          rw [if_pos hz0, hLV, enc_hd, enc_drop]
        rw [ev] at osd hrd hpl
        have hdd := hd.ext0 (Ext.drew [] w.drew)
        have hPV : σ.PV.length = σ.pl := by have := h.at'.sent.1.1; rw [U8_length] at this; have e : σ.PV.length = σ.pl * 1 := this; omega
        refine Bm.pos rfl (ldSeg (w := w.drew.drew) osd (Pn.mk (hdd.at'.ldSent (sameSeg_ok (H := σ.sd) (D := σ.PV) ((hrd.ext0 (Ext.drew [] w)).ext0 (Ext.drew [] _)) (row_rd hdd.at'.sent.1 hdd.at'.sent.2) hpl hPV (by omega) fun w2 he2 => hR w2 (((Ext.drew _ _).trans (Ext.drew _ _)).trans he2)))))
      · have ebt : (o.b == σ.dst) = false := by simpa using eb
        show seglaw_World_Play.B6 (some ⟨a, 0, none⟩) s (decErr o.a o.b σ.LV) (o.b == σ.dst) w.drew R
        rw [ebt]
        exact stray fun hc => eb hc.2
    · refine Bm.neg (by simpa using ea) (stray fun hc => ea hc.1)
  · unfold seglaw_World_Play.B6
    exact Bm.neg rfl (Pn.mk (hd.at'.ldLast (Bm.neg (decide_eq_false hz) (hR _ (Ext.drew _ _)))))
end
end Go.Proofs.Qxb6500426a
