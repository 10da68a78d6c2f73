/-
  host: the abstract network's memory: Took, Read, EOF.
-/
import Derived.Test.Qxb6500424aGreatHnG
set_option linter.unusedVariables false
set_option linter.unusedSimpArgs false
open Go.Vc
namespace Go.Proofs.Qxb6500424aGreat
section
variable {lo : Nat} {w w' : World} {p : Nat} {N : List PEM} {del : Nat → Int}
theorem endPutG {k l c i q : Nat} {x x' : PEM} {v : Value} {K : World → Prop} (h : NetAt lo w p N del) (o : Own w p #[.slice (some ⟨k, 0, none⟩) l c, .int .i64 (del 0), .int .i64 (del 1), .int .i64 (del 2)] T_hostm_Net) (r : Row w (some ⟨k, 0, none⟩) l c 16 T_hostm_End (N.flatMap endC)) (hx : N[i]? = some x) (hq : q < 16) (h1 : v.oneCell' = true) (he : endC x' = (endC x).set q v)
    (hS : BytesAt w x'.sb x'.sc x'.E.S) (hRr : BytesAt w x'.rb x'.rc x'.E.R) (hK : ∀ w', NetAt lo w' p (N.set i x') del → ExtL lo w w' [T_hostm_End] → K w') : Sts [v] ⟨k, i * 16 + q, none⟩ 0 w K := by
  have hi := (List.getElem?_eq_some_iff.1 hx).1
  have hlen := NetAt.rlen r
  refine r.put (by simp; omega) (by simp [h1]) fun w' hs r' he' => ?_
  have r2 : Row w' (some ⟨k, 0, none⟩) l c 16 T_hostm_End ((N.set i x').flatMap endC) := by
    have := flat_set1 (f := endC) endC_len (j := q) (a' := x') (v := v) hx hq he
    rw [← this]
    exact r'
  have ty : Tys w [k] [T_hostm_End] := fun y hy hl => by
    simp at hy
    subst hy
    obtain ⟨cs, ho⟩ := r.ty (k := y) (by simp [rowBlk])
    exact ⟨cs, _, ho, by simp⟩
  have o2 := ownT he' ty o (by decide)
  refine hK w' ⟨⟨_, l, c, o2, r2⟩, fun y hy => ?_, fun y hy => ?_, h.ge.same o o2⟩ (ExtL.of he' ty (fun x hx => h.ge.row o rfl x (by simpa [rowBlk] using hx)))
  · rcases List.mem_or_eq_of_mem_set hy with z | z
    · exact ⟨rowT (h.S y z).row he' ty (by decide), (h.S y z).isB⟩
    · rw [z]
      exact ⟨rowT hS.row he' ty (by decide), hS.isB⟩
  · rcases List.mem_or_eq_of_mem_set hy with z | z
    · exact ⟨rowT (h.R y z).row he' ty (by decide), (h.R y z).isB⟩
    · rw [z]
      exact ⟨rowT hRr.row he' ty (by decide), hRr.isB⟩
theorem bf_row {k : Nat} {v : List Int} (h : Bf w k v) : Row w (some ⟨k, 0, none⟩) v.length v.length 1 T_uint8 (U8 v) :=
  ⟨by simp [U8], Nat.le_refl _, .inr ⟨k, _, rfl, h.1, by simp [U8], by rw [Nat.mul_one, List.take_of_length_le (by simp [U8])]⟩⟩
/-- More is laid behind a fresh copy. -/
theorem appendB {k n : Nat} {xb : Option Addr} {v D : List Int} {K : Option Addr → Nat → World → Prop} (hf : Bf w k v) (hD : Rd w xb D) (hn : D.length = n) (hb : v.length + D.length ≤ 100000000000000)
    (hK : ∀ nb nc w', BytesAt w' nb nc (v ++ D) → (∀ y ∈ rowBlk nb, y = k ∨ w.heap.size ≤ y) → Ext [k] w w' → K nb nc w') : Append 5 (.int .u8 0) 1 1 (some ⟨k, 0, none⟩) v.length v.length xb n w K := by
  refine Vc.Append.mk (e := 5) (news := U8 D) (bf_row hf) hD.cells (by rw [U8_length]; omega) rfl (U8_all D) (by omega) (by omega) fun nb nc w2 r2 he2 hb2 => hK nb nc w2 ⟨?_, hf.2.append hD.isB⟩ (fun y hy => ?_) he2
  · have : U8 (v ++ D) = U8 v ++ U8 D := by simp [U8]
    rw [this, List.length_append, hn]
    exact r2
  · rcases hb2 y hy with z | z
    · simp [rowBlk] at z; exact .inl z
    · right; omega
theorem took_ok {i kk dl dc : Nat} {x : PEM} {db : Option Addr} {D : List Int} {R : Bool → World → Prop} (h : NetAt lo w p N del) (hx : N[i]? = some x) (hc : x.E.clo = false) (h3 : x.E.st = 3) (hD : Rd w db D) (hdl : D.length = dl) (hdc : dl ≤ dc) (hk : kk ≤ dl) (hb : x.E.S.length + kk ≤ 100000000000000)
    (hR : ∀ nb nc w', NetAt lo w' p (N.set i { x with E := { x.E with S := x.E.S ++ D.take kk }, sb := nb, sc := nc }) del → (∀ y ∈ rowBlk nb, w.heap.size ≤ y) → ExtL lo w w' [T_hostm_End] → R true w') : hostm_Net_Took.Call (some ⟨p, 0, none⟩) (i : Int) (kk : Int) db dl dc w R := by
  apply hostm_Net_Took.sound
  unfold hostm_Net_Took.B0
  have hi := (List.getElem?_eq_some_iff.1 hx).1
  refine nHas_ok h ?_
  rw [decide_eq_true (show 0 ≤ (i : Int) ∧ (i : Int) < (N.length : Int) by omega)]
  refine Bm.neg rfl (Bm.neg (decide_eq_false (by omega)) (Bm.neg (decide_eq_false (by omega)) (ndB h rfl hx (by omega) rfl ?_)))
  rw [hc]
  refine Bm.neg rfl (ndI h rfl hx (by omega) rfl ?_)
  unfold hostm_Net_Took.B1
  have hd := h.drew
  obtain ⟨b, l, c, o, r⟩ := hd.ex
  have hlen := NetAt.rlen r
  obtain ⟨k, rfl, _⟩ := endCell r hx
  refine Bm.neg (by rw [h3]; rfl) (Pn.mk (LdL.mk o rfl (ndL (b0 := x.sb) (l0 := x.E.S.length) (c0 := x.sc) hd rfl hx (by omega) rfl ⟨⟨by omega, by omega⟩, ?_⟩)))
  rw [slBase0]
  simp only [Int.toNat_natCast, Nat.sub_zero]
  have hDt : (D.take kk).length = kk := by rw [List.length_take]; omega
  have hm := List.mem_of_getElem? hx
  refine copyBytes_ok (hd.S x hm).rd rfl (by omega) fun k1 w1 hk1 hs1 hf1 he1 => ?_
  have E1 : Ext [] w w1 := (Ext.drew [] w).trans he1
  have hz : w.drew.heap.size = w.heap.size := rfl
  refine ⟨(he1.own o (by simp)).cell rfl, appendB hf1 ((hD.ext0 E1).take kk) hDt (by omega) fun nb nc w2 hB hnb he2 => ?_⟩
  have E2 : Ext [] w w2 := E1.trans' he2 (fun y hy hl => by simp at hy; omega)
  have n2 := h.ext0 E2
  have o2 : Own w2 p _ T_hostm_Net := (Ext.trans' he1 he2 (fun y hy hl => by simp at hy; omega) : Ext [] w.drew w2).own o (by simp)
  have r2 : Row w2 (some ⟨k, 0, none⟩) l c 16 T_hostm_End (N.flatMap endC) := r.ext (Ext.trans' he1 he2 (fun y hy hl => by simp at hy; omega) : Ext [] w.drew w2) (fun _ _ q => by cases q)
  have z1 := E1.size
  refine ⟨o2.cell rfl, Pn.mk ⟨⟨by omega, by omega⟩, ?_⟩⟩
  rw [add2]
  refine endPutG (x' := { x with E := { x.E with S := x.E.S ++ D.take kk }, sb := nb, sc := nc }) n2 o2 r2 hx (by omega) rfl (by unfold endC; simp [List.length_append, hDt]) hB (n2.R x hm) fun w3 h3 t3 => hR nb nc w3 h3 (fun y hy => ?_) ((ExtL.nil E2 _).trans t3)
  rcases hnb y hy with z | z <;> omega
theorem isPrefix_ok {ab bb : Option Addr} {al ac bl bc : Nat} {u v : List Int} {R : Bool → World → Prop} (hu : Rd w ab u) (hv : Rd w bb v) (hal : u.length = al) (hbl : v.length = bl) (hbc : bl ≤ bc) (hb : al ≤ 281474976710656) (hp : u.length ≤ v.length ∧ v.take u.length = u) (hR : ∀ w', Ext [] w w' → R true w') : api_IsPrefix.Call ab al ac bb bl bc w R := by
  apply api_IsPrefix.sound
  unfold api_IsPrefix.B0
  refine Bm.pos (decide_eq_true (by omega)) ⟨⟨by omega, by omega⟩, ?_⟩
  rw [slBase0]
  simp only [Int.toNat_natCast, Nat.sub_zero]
  refine sameBytes_ok (u := u) (v := v.take al) hu (hv.take al) hal (by rw [List.length_take]; omega) hb fun w' he _ => ?_
  rw [decide_eq_true (by rw [← hal]; exact hp.2.symm)]
  exact hR w' he
theorem read_ok {i t gl gc : Nat} {x y : PEM} {gb : Option Addr} {D : List Int} {R : Bool → World → Prop} (h : NetAt lo w p N del) (hx : N[i]? = some x) (ht : x.E.peer = (t : Int)) (hy : N[t]? = some y) (hti : t ≠ i) (hD : Rd w gb D) (hdl : D.length = gl) (hg : 0 < gl) (hb : x.E.R.length + gl ≤ 100000000000000) (hyc : y.E.S.length ≤ y.sc)
    (hp : (x.E.R ++ D).length ≤ y.E.S.length ∧ y.E.S.take (x.E.R ++ D).length = x.E.R ++ D)
    (hR : ∀ nb nc w', NetAt lo w' p (N.set i { x with E := { x.E with R := x.E.R ++ D }, rb := nb, rc := nc }) del → (∀ z ∈ rowBlk nb, w.heap.size ≤ z) → ExtL lo w w' [T_hostm_End] → R true w') : hostm_Net_Read.Call (some ⟨p, 0, none⟩) (i : Int) gb gl gc w R := by
  apply hostm_Net_Read.sound
  unfold hostm_Net_Read.B0
  have hi := (List.getElem?_eq_some_iff.1 hx).1
  refine nHas_ok h ?_
  rw [decide_eq_true (show 0 ≤ (i : Int) ∧ (i : Int) < (N.length : Int) by omega)]
  have hd := h.drew
  obtain ⟨b, l, c, o, r⟩ := hd.ex
  have hlen := NetAt.rlen r
  obtain ⟨k, rfl, _⟩ := endCell r hx
  refine Bm.neg rfl (Pn.mk (LdL.mk o rfl (ndL (b0 := x.rb) (l0 := x.E.R.length) (c0 := x.rc) hd rfl hx (by omega) rfl ?_)))
  have hm := List.mem_of_getElem? hx
  refine copyBytes_ok (hd.R x hm).rd rfl (by omega) fun k1 w1 hk1 hs1 hf1 he1 => ?_
  have E1 : Ext [] w w1 := (Ext.drew [] w).trans he1
  have hz : w.drew.heap.size = w.heap.size := rfl
  refine ⟨(he1.own o (by simp)).cell rfl, appendB hf1 (hD.ext0 E1) hdl (by omega) fun nb nc w2 hB hnb he2 => ?_⟩
  have E2 : Ext [] w w2 := E1.trans' he2 (fun y hy hl => by simp at hy; omega)
  have E2d : Ext [] w.drew w2 := he1.trans' he2 (fun y hy hl => by simp at hy; omega)
  have n2 := h.ext0 E2
  have o2 := E2d.own o (by simp)
  have r2 := r.ext E2d (fun _ _ q => by cases q)
  have z1 := E1.size
  have z2 := E2.size
  refine ⟨o2.cell rfl, Pn.mk ⟨⟨by omega, by omega⟩, ?_⟩⟩
  rw [Int.toNat_natCast, add2]
  refine endPutG (x' := { x with E := { x.E with R := x.E.R ++ D }, rb := nb, rc := nc }) n2 o2 r2 hx (by omega) rfl (by unfold endC; simp [List.length_append, hdl]) (n2.S x hm) hB fun w3 h3 t3 => ?_
  have hx3 : (N.set i { x with E := { x.E with R := x.E.R ++ D }, rb := nb, rc := nc })[i]? = some { x with E := { x.E with R := x.E.R ++ D }, rb := nb, rc := nc } := List.getElem?_set_self hi
  have hy3 : (N.set i { x with E := { x.E with R := x.E.R ++ D }, rb := nb, rc := nc })[t]? = some y := by rw [List.getElem?_set_ne (fun z => hti z.symm)]; exact hy
  refine Bm.pos (decide_eq_true (by omega)) (ndI h3.drew rfl hx3 (by omega) rfl ?_)
  show Bm (decide (x.E.peer ≥ 0)) _ _
  refine Bm.pos (decide_eq_true (by omega)) (ndL (b0 := nb) (l0 := (x.E.R ++ D).length) (c0 := nc) h3.drew rfl hx3 (by omega) rfl (ndPL (b0 := y.sb) (l0 := y.E.S.length) (c0 := y.sc) h3.drew rfl hx3 ht hy3 (by omega) rfl ?_))
  have hlen2 : (x.E.R ++ D).length ≤ 281474976710656 := by rw [List.length_append]; omega
  refine isPrefix_ok (h3.drew.R _ (List.mem_of_getElem? hx3)).rd (h3.drew.S _ (List.mem_of_getElem? hy3)).rd rfl rfl hyc hlen2 hp fun w4 e4 => ?_
  have E4 : Ext [] w3 w4 := (Ext.drew [] w3).trans e4
  refine hR nb nc w4 (h3.ext0 E4) (fun z hz => ?_) (((ExtL.nil E2 _).trans t3).trans (ExtL.nil E4 _))
  rcases hnb z hz with q | q <;> omega
theorem eof_ok {i t : Nat} {x y : PEM} {R : Bool → World → Prop} (h : NetAt lo w p N del) (hx : N[i]? = some x) (ht : x.E.peer = (t : Int)) (hy : N[t]? = some y) (hc : y.E.clo = true) (he : x.E.R = y.E.S) (hb : x.E.R.length ≤ 281474976710656) (hR : ∀ w', Ext [] w w' → R true w') : hostm_Net_EOF.Call (some ⟨p, 0, none⟩) (i : Int) w R := by
  apply hostm_Net_EOF.sound
  unfold hostm_Net_EOF.B0
  have hi := (List.getElem?_eq_some_iff.1 hx).1
  refine nHas_ok h ?_
  rw [decide_eq_true (show 0 ≤ (i : Int) ∧ (i : Int) < (N.length : Int) by omega)]
  refine Bm.neg rfl (ndI h rfl hx (by omega) rfl ?_)
  refine Bm.pos (decide_eq_true (by omega)) (ndB h.drew ht hy (by omega) rfl ?_)
  rw [hc]
  refine Bm.pos rfl (ndL (b0 := x.rb) (l0 := x.E.R.length) (c0 := x.rc) h.drew rfl hx (by omega) rfl (ndL (b0 := y.sb) (l0 := y.E.S.length) (c0 := y.sc) h.drew ht hy (by omega) rfl ?_))
  refine sameBytes_ok (h.drew.R x (List.mem_of_getElem? hx)).rd (h.drew.S y (List.mem_of_getElem? hy)).rd rfl rfl hb fun w' he' _ => ?_
  rw [decide_eq_true he]
  exact hR w' ((Ext.drew [] w).trans he')
theorem first_all : ∀ x : Fin 256, (IntKind.u8.wrap (BitVec.ofInt IntKind.u8.bits (x.val : Int) &&& BitVec.ofInt IntKind.u8.bits (127 : Int)).toNat == (0 : Int)) = decide ((x.val : Int) % 128 = 0) := by decide +kernel
theorem firstFrag_ok {b : Option Addr} {l c : Nat} {F : List Int} {R : Bool → World → Prop} (h : Rd w b F) (hl : F.length = l) (hR : R (frF F) w) : hostm_FirstFragment.Call b l c w R := by
  apply hostm_FirstFragment.sound
  unfold hostm_FirstFragment.B0
  unfold frF at hR
  refine Bm.ite (fun q => ?_) (fun q => ?_)
  · obtain ⟨x, hx⟩ : ∃ x, F[9]? = some x := ⟨_, List.getElem?_eq_getElem (by omega)⟩
    obtain ⟨k, o, rfl, hc⟩ := h.at hx
    refine Pn.mk ⟨⟨by omega, by omega⟩, LdI.cell (by rw [add_mk]; exact hc) ?_⟩
    have hb := h.isB.get hx
    have := first_all ⟨x.toNat, by omega⟩
    simp only at this
    rw [show ((x.toNat : Nat) : Int) = x by omega] at this
    rw [this]
    rw [decide_eq_true (show 9 < F.length by omega), List.getD_eq_getElem?_getD, hx] at hR
    simpa using hR
  · rw [decide_eq_false (show ¬ 9 < F.length by omega)] at hR
    exact hR
end
end Go.Proofs.Qxb6500424aGreat
