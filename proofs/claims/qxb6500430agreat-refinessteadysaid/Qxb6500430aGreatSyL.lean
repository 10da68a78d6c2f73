/-
  sync: the looks: View, At, TermAt, Check.
-/
import Derived.Test.Qxb6500430aGreatSyK
set_option linter.unusedVariables false
set_option linter.unusedSimpArgs false
open Go.Vc
namespace Go.Proofs.Qxb6500430aGreat
def vc (a0 a1 a2 a3 a4 a5 : Int) (g0 g1 g2 : Bool) (b0 b1 b2 b3 : Int) (sn : ByteArray) (n0 n1 n2 m0 m1 m2 : Int) : Array Value :=
  #[.int .i64 a0, .int .i64 a1, .int .i64 a2, .int .i64 a3, .int .i64 a4, .int .i64 a5, .bool g0, .bool g1, .bool g2, .int .i64 b0, .int .i64 b1, .int .i64 b2, .int .i64 b3, .string sn, .int .i64 n0, .int .i64 n1, .int .i64 n2, .int .i64 m0, .int .i64 m1, .int .i64 m2]
theorem vc_size (a0 a1 a2 a3 a4 a5 : Int) (g0 g1 g2 : Bool) (b0 b1 b2 b3 : Int) (sn : ByteArray) (n0 n1 n2 m0 m1 m2 : Int) : (vc a0 a1 a2 a3 a4 a5 g0 g1 g2 b0 b1 b2 b3 sn n0 n1 n2 m0 m1 m2).size = 20 := rfl
def viewC (Y : YS) : Array Value := vc Y.e.id Y.e.term Y.e.vote Y.e.role Y.e.leader Y.e.clock (El.gotB Y.e 0) (El.gotB Y.e 1) (El.gotB Y.e 2) Y.cm Y.L.base Y.L.bterm Y.L.last Y.L.snap (Y.nx 0) (Y.nx 1) (Y.nx 2) (Y.mt 0) (Y.mt 1) (Y.mt 2)
section
variable {w w' : World} {s l t d e : Nat} {D : DiskS} {F : List Nat} {A : AbsS} {Y : YS} {N : Int} {L : LogS} {X : SyR} {es : El.ES}
/-- A store into the view. -/
theorem stV {k o : Nat} {c c' : Array Value} {vs : List Value} {K : World → Prop} (h : Own w k c T_api_SyncView) (e : putArr c o vs = c') (hl : o + vs.length ≤ c.size) (h1 : vs.all Value.oneCell' = true) (hK : ∀ w', Own w' k c' T_api_SyncView → Ext [k] w w' → K w') : Sts vs ⟨k, o, none⟩ 0 w K :=
  Sts.mk h hl h1 fun w' _ ho he => hK w' (by rw [e] at ho; exact ho) he
theorem Vw.loc {k : Nat} {c : Array Value} (h : Vw w s X L es) (ho : Own w k c T_api_SyncView) (he : Ext [k] w w') : Vw w' s X L es := h.other he (Tys.one ho) (fun q hq => by simp at hq; subst hq; decide)
theorem view_ok {R : Option Addr → World → Prop} (h : Rest w s l t d e D F A Y) (hw : Y.e.Wf) (hR : ∀ k w', w.heap.size ≤ k → Own w' k (viewC Y) T_api_SyncView → Ext [] w w' → R (some ⟨k, 0, none⟩) w') : sync_Sync_View.Call (some ⟨s, 0, none⟩) w R := by
  apply sync_Sync_View.sound
  unfold sync_Sync_View.B0
  obtain ⟨bx, v⟩ := h.vw
  have z0 := Int.eq_ofNat_of_zero_le (a := 0) (Int.le_refl 0)
  refine New.mk fun k w1 hk hs1 o1 he1 => ?_
  have v1 := v.ext0 he1
  have o1' : Own w1 k (vc 0 0 0 0 0 0 false false false 0 0 0 0 estr 0 0 0 0 0 0) T_api_SyncView := o1
  refine v1.eId (stV (c' := vc Y.e.id 0 0 0 0 0 false false false 0 0 0 0 estr 0 0 0 0 0 0) o1' rfl (by rw [vc_size]; simp) rfl fun w2 o2 he2 => ?_)
  have v2 := v1.loc o1' he2
  refine v2.eTerm (stV (c' := vc Y.e.id Y.e.term 0 0 0 0 false false false 0 0 0 0 estr 0 0 0 0 0 0) o2 rfl (by rw [vc_size]; simp) rfl fun w3 o3 he3 => ?_)
  have v3 := v2.loc o2 he3
  refine v3.eVote hw (stV (c' := vc Y.e.id Y.e.term Y.e.vote 0 0 0 false false false 0 0 0 0 estr 0 0 0 0 0 0) o3 rfl (by rw [vc_size]; simp) rfl fun w4 o4 he4 => ?_)
  have v4 := v3.loc o3 he4
  refine v4.eRole hw (stV (c' := vc Y.e.id Y.e.term Y.e.vote Y.e.role 0 0 false false false 0 0 0 0 estr 0 0 0 0 0 0) o4 rfl (by rw [vc_size]; simp) rfl fun w5 o5 he5 => ?_)
  have v5 := v4.loc o4 he5
  refine v5.eLeader hw (stV (c' := vc Y.e.id Y.e.term Y.e.vote Y.e.role Y.e.leader 0 false false false 0 0 0 0 estr 0 0 0 0 0 0) o5 rfl (by rw [vc_size]; simp) rfl fun w6 o6 he6 => ?_)
  have v6 := v5.loc o5 he6
  have o6d : Own w6.drew k _ _ := o6
  refine Pn.mk (v6.own.ldE (El.realClock_ok v6.el hw (stV (c' := vc Y.e.id Y.e.term Y.e.vote Y.e.role Y.e.leader Y.e.clock false false false 0 0 0 0 estr 0 0 0 0 0 0) o6d rfl (by rw [vc_size]; simp) rfl fun w7 o7 he7 => ?_)))
  have v7 := (v6.ext0 (Ext.drew [] w6)).loc o6d he7
  have E7 : Ext [k] w1 w7 := (((((he2.trans he3).trans he4).trans he5).trans he6).trans (Ext.drew _ _)).trans he7
  -- the votes
  unfold sync_Sync_View.L1
  refine ⟨fun m s' k' p w' => ∃ n : Nat, n ≤ 3 ∧ m = 3 - n ∧ some ⟨s, 0, none⟩ = s' ∧ k = k' ∧ p = (n : Int) ∧ Vw w' s (syX l e Y bx 0) Y.L Y.e ∧ Own w' k (vc Y.e.id Y.e.term Y.e.vote Y.e.role Y.e.leader Y.e.clock (if 0 < n then El.gotB Y.e 0 else false) (if 1 < n then El.gotB Y.e 1 else false) (if 2 < n then El.gotB Y.e 2 else false) 0 0 0 0 estr 0 0 0 0 0 0) T_api_SyncView ∧ Ext [k] w1 w', _, ⟨0, by omega, rfl, rfl, rfl, rfl, v7, o7, E7⟩, ?_⟩
  rintro m s' k' p wa ⟨n, hn, rfl, rfl, rfl, rfl, va, oa, Ea⟩
  unfold sync_Sync_View.L1b
  refine Bm.ite (fun hlt => ?_) fun hge => ?_
  · have vad := va.ext0 (Ext.drew [] wa)
    have oad : Own wa.drew.drew k _ _ := oa
    refine Pn.mk (vad.own.ldE (El.realGot_ok vad.el hw ⟨⟨by omega, by omega⟩, ?_⟩))
    have st : ∀ {c' : Array Value} {Q : World → Prop}, putArr (vc Y.e.id Y.e.term Y.e.vote Y.e.role Y.e.leader Y.e.clock (if 0 < n then El.gotB Y.e 0 else false) (if 1 < n then El.gotB Y.e 1 else false) (if 2 < n then El.gotB Y.e 2 else false) 0 0 0 0 estr 0 0 0 0 0 0) (6 + n) [.bool (El.gotB Y.e (n : Int))] = c' → (∀ wb, Own wb k c' T_api_SyncView → Ext [k] wa.drew.drew wb → Q wb) → Sts [.bool (El.gotB Y.e (n : Int))] (Addr.add ⟨k, 6, none⟩ ((n : Int).toNat * 1)) 0 wa.drew.drew Q := fun {c' Q} e1 hQ => by
      rw [add_mk, Int.toNat_natCast, Nat.mul_one]
      exact stV oad e1 (by rw [vc_size]; simp; omega) rfl fun wb ob heb => hQ wb ob heb
    have fin : ∀ {wb : World}, Own wb k (vc Y.e.id Y.e.term Y.e.vote Y.e.role Y.e.leader Y.e.clock (if 0 < n + 1 then El.gotB Y.e 0 else false) (if 1 < n + 1 then El.gotB Y.e 1 else false) (if 2 < n + 1 then El.gotB Y.e 2 else false) 0 0 0 0 estr 0 0 0 0 0 0) T_api_SyncView → Ext [k] wa.drew.drew wb → Vw wb s (syX l e Y bx 0) Y.L Y.e ∧ Own wb k (vc Y.e.id Y.e.term Y.e.vote Y.e.role Y.e.leader Y.e.clock (if 0 < n + 1 then El.gotB Y.e 0 else false) (if 1 < n + 1 then El.gotB Y.e 1 else false) (if 2 < n + 1 then El.gotB Y.e 2 else false) 0 0 0 0 estr 0 0 0 0 0 0) T_api_SyncView ∧ Ext [k] w1 wb := fun {wb} ob heb =>
      ⟨(vad.ext0 (Ext.drew [] _)).loc oad heb, ob, (Ea.trans ((Ext.drew _ _).trans (Ext.drew _ _))).trans heb⟩
    have : n = 0 ∨ n = 1 ∨ n = 2 := by omega
    rcases this with rfl | rfl | rfl
    · exact st rfl fun wb ob heb => ⟨2, by omega, 1, by omega, rfl, rfl, rfl, by decide, fin ob heb⟩
    · exact st rfl fun wb ob heb => ⟨1, by omega, 2, by omega, rfl, rfl, rfl, by decide, fin ob heb⟩
    · exact st rfl fun wb ob heb => ⟨0, by omega, 3, by omega, rfl, rfl, rfl, by decide, fin ob heb⟩
  · have hn3 : n = 3 := by omega
    subst hn3
    have oa' : Own wa k (vc Y.e.id Y.e.term Y.e.vote Y.e.role Y.e.leader Y.e.clock (El.gotB Y.e 0) (El.gotB Y.e 1) (El.gotB Y.e 2) 0 0 0 0 estr 0 0 0 0 0 0) T_api_SyncView := oa
    refine Pn.mk (va.own.ldI (o := 2) (by omega) rfl (stV (c' := vc Y.e.id Y.e.term Y.e.vote Y.e.role Y.e.leader Y.e.clock (El.gotB Y.e 0) (El.gotB Y.e 1) (El.gotB Y.e 2) Y.cm 0 0 0 estr 0 0 0 0 0 0) oa' rfl (by rw [vc_size]; simp) rfl fun wb ob heb => ?_))
    have vb := va.loc oa' heb
    refine vb.cBase (stV (c' := vc Y.e.id Y.e.term Y.e.vote Y.e.role Y.e.leader Y.e.clock (El.gotB Y.e 0) (El.gotB Y.e 1) (El.gotB Y.e 2) Y.cm Y.L.base 0 0 estr 0 0 0 0 0 0) ob rfl (by rw [vc_size]; simp) rfl fun wc oc hec => ?_)
    have v_c := vb.loc ob hec
    refine v_c.cBaseTerm (stV (c' := vc Y.e.id Y.e.term Y.e.vote Y.e.role Y.e.leader Y.e.clock (El.gotB Y.e 0) (El.gotB Y.e 1) (El.gotB Y.e 2) Y.cm Y.L.base Y.L.bterm 0 estr 0 0 0 0 0 0) oc rfl (by rw [vc_size]; simp) rfl fun wd od hed => ?_)
    have vd := v_c.loc oc hed
    refine Pn.mk (vd.own.ldI (o := 9) (by omega) rfl (stV (c' := vc Y.e.id Y.e.term Y.e.vote Y.e.role Y.e.leader Y.e.clock (El.gotB Y.e 0) (El.gotB Y.e 1) (El.gotB Y.e 2) Y.cm Y.L.base Y.L.bterm Y.L.last estr 0 0 0 0 0 0) od rfl (by rw [vc_size]; simp) rfl fun we oe hee => ?_))
    have ve := vd.loc od hee
    refine ve.cSnap (stV (c' := vc Y.e.id Y.e.term Y.e.vote Y.e.role Y.e.leader Y.e.clock (El.gotB Y.e 0) (El.gotB Y.e 1) (El.gotB Y.e 2) Y.cm Y.L.base Y.L.bterm Y.L.last Y.L.snap 0 0 0 0 0 0) oe rfl (by rw [vc_size]; simp) rfl fun wf of hef => ?_)
    have vf := ve.loc oe hef
    refine Pn.mk (vf.own.ldI (o := 3) (by omega) rfl ?_)
    simp only [add_mk]
    refine LdI.fn vf.own (by omega) (syF_nx (p := 1) (by omega)) (LdI.fn vf.own (by omega) (syF_nx (p := 2) (by omega)) (stV (c' := vc Y.e.id Y.e.term Y.e.vote Y.e.role Y.e.leader Y.e.clock (El.gotB Y.e 0) (El.gotB Y.e 1) (El.gotB Y.e 2) Y.cm Y.L.base Y.L.bterm Y.L.last Y.L.snap (Y.nx 0) (Y.nx 1) (Y.nx 2) 0 0 0) of rfl (by rw [vc_size]; simp) rfl fun wg og heg => ?_))
    have vg := vf.loc of heg
    refine Pn.mk (LdI.fn (o := 6) vg.own (by omega) rfl ?_)
    simp only [add_mk]
    refine LdI.fn vg.own (by omega) (syF_mt (p := 1) (by omega)) (LdI.fn vg.own (by omega) (syF_mt (p := 2) (by omega)) (stV (c' := viewC Y) og rfl (by rw [vc_size]; simp) rfl fun wh oh heh => hR k wh (by omega) oh ?_))
    have E2 : Ext [k] w1 wh := ((((((Ea.trans heb).trans hec).trans hed).trans hee).trans hef).trans heg).trans heh
    exact he1.trans' E2 (fun y hy hl => by simp at hy; omega)
theorem at_ok {i : Int} {R : Int → ByteArray → Int → World → Prop} (h : Rest w s l t d e D F A Y) (hi : -9223372036854775808 ≤ i ∧ i ≤ 9223372036854775807) (hR : ∀ w', Ext [] w w' → R (atL Y.L i).1.1 (atL Y.L i).1.2 (atL Y.L i).2 w') : sync_Sync_At.Call (some ⟨s, 0, none⟩) i w R := by
  apply sync_Sync_At.sound
  unfold sync_Sync_At.B0
  obtain ⟨bx, v⟩ := h.vw
  refine New.mk fun k w1 hk hs1 o1 he1 => (v.ext0 he1).cAt hi fun w2 he2 => Sts.full (vs := [.int .i64 (atL Y.L i).1.1, .string (atL Y.L i).1.2]) (he2.own o1 (by simp)) rfl rfl fun w3 hs3 o3 he3 => LdI.mk o3 rfl (LdS.mk o3 rfl (hR w3 ?_))
  exact (he1.trans he2).trans' he3 (fun y hy hl => by simp at hy; omega)
theorem termAt_ok {i : Int} {R : Int → Int → World → Prop} (h : Rest w s l t d e D F A Y) (hi : -9223372036854775808 ≤ i ∧ i ≤ 9223372036854775807) (hR : ∀ w', Ext [] w w' → R (termL Y.L i).1 (termL Y.L i).2 w') : sync_Sync_TermAt.Call (some ⟨s, 0, none⟩) i w R := by
  apply sync_Sync_TermAt.sound
  unfold sync_Sync_TermAt.B0
  obtain ⟨bx, v⟩ := h.vw
  exact v.cTermAt hi fun w2 he2 => hR w2 he2
end
end Go.Proofs.Qxb6500430aGreat
