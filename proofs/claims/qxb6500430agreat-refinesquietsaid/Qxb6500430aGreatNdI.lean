/-
  node: the real events.
-/
import Derived.Test.Qxb6500430aGreatNdH
set_option linter.unusedVariables false
set_option linter.unusedSimpArgs false
open Go.Vc
namespace Go.Proofs.Qxb6500430aGreat
open Kv
abbrev OutV := Int × ByteArray
def outG (G : List MsgV) : List OutV := G.map fun m => (m.to, encM m)
theorem outs_eq {E : List ME} {G : List MsgV} (h : E.map (·.1) = G) : outsOf E = outG G := by
  subst h
  simp [outsOf, outG]
structure DidAt (w : World) (lo : Nat) (ob : Option Addr) (oc : Nat) (rb : Option Addr) (rc : Nat) (O : List OutV) (Rp : List Rep) : Prop where
  o : Row w ob O.length oc 2 T_api_Out (O.flatMap outC)
  r : Row w rb Rp.length rc 4 T_api_Reply (Rp.flatMap repC)
  og : ∀ y ∈ rowBlk ob, lo ≤ y
  rg : ∀ y ∈ rowBlk rb, lo ≤ y
theorem DidAt.nil (w : World) (lo : Nat) : DidAt w lo none 0 none 0 [] [] := ⟨Row.nil _ _ _, Row.nil _ _ _, fun y hy => (by cases hy), fun y hy => (by cases hy)⟩
section
variable {w w' : World} {lo lo' : Nat} {ob rb : Option Addr} {oc rc : Nat} {O : List OutV} {Rp : List Rep}
theorem DidAt.extT {ts : List TypeId} (h : DidAt w lo ob oc rb rc O Rp) (he : ExtT w w' ts) (h1 : T_api_Out ∉ ts) (h2 : T_api_Reply ∉ ts) : DidAt w' lo ob oc rb rc O Rp := ⟨he.row h.o h1, he.row h.r h2, h.og, h.rg⟩
theorem DidAt.ext0 (h : DidAt w lo ob oc rb rc O Rp) (he : Ext [] w w') : DidAt w' lo ob oc rb rc O Rp := h.extT (ExtT.nil he []) (by simp) (by simp)
theorem DidAt.low (h : DidAt w lo ob oc rb rc O Rp) (hl : lo' ≤ lo) : DidAt w lo' ob oc rb rc O Rp := ⟨h.o, h.r, fun y hy => Nat.le_trans hl (h.og y hy), fun y hy => Nat.le_trans hl (h.rg y hy)⟩
/-- A Did is handed back. -/
theorem retDid {b4 : Nat} {e : Int} {ol rl : Nat} {cs : Array Value} {R : RDid} (ot : Own w b4 cs T_api_Did) (hs : cs.size = 3) (hR : ∀ w', Ext [b4] w w' → R e ob ol oc rb rl rc w') :
    Sts [.int .i64 e, .slice ob ol oc, .slice rb rl rc] ⟨b4, 0, none⟩ 0 w fun w9 => LdI .i64 ⟨b4, 0, none⟩ w9 fun r_0 => LdL ⟨b4, 1, none⟩ w9 fun r_1_b r_1_l r_1_c => LdL ⟨b4, 2, none⟩ w9 fun r_2_b r_2_l r_2_c => R r_0 r_1_b r_1_l r_1_c r_2_b r_2_l r_2_c w9 :=
  Sts.full ot (by rw [hs]; rfl) rfl fun w9 _ o9 he9 => LdI.mk o9 rfl (LdL.mk o9 rfl (LdL.mk o9 rfl (hR w9 he9)))
end
section
variable {w0 w w' : World} {lo p s kp k l t d e : Nat} {D0 D : DiskS} {N : Int} {L0 : LogS} {F F0 : List Nat} {A : AbsS} {n n' : NS} {S : List LogS} {raw raw' : Nat → Value} {Rs Rs' : List Rep}
theorem after_ok {mb : Option Addr} {ml mc lo2 : Nat} {E : List ME} {R : RDid} (h : NReal w lo p kp k s l t d e D0 N L0 D F A n S raw Rs) (hm : NMid n) (hE : ML w mb ml mc lo2 E) (hml : ml ≤ 100) (hen : ∀ x ∈ E, x.1.ents.length ≤ 1000) (hlo : lo ≤ w.heap.size) (hN : N + (S.length : Int) + 1 ≤ 4611686018427387904) (hlog : D0.log.length + 20 * S.length ≤ 400)
    (hR : ∀ D' F' A' raw' ob oc rb rc w', DidAt w' w.heap.size ob oc rb rc (outsOf E) (afterN n S (E.map (·.1))).R → NReal w' lo p kp k s l t d e D0 N L0 D' F' A' (afterN n S (E.map (·.1))).n (afterN n S (E.map (·.1))).S raw' (afterN n S (E.map (·.1))).R → Fr NT lo w w' → R 0 ob (outsOf E).length oc rb (afterN n S (E.map (·.1))).R.length rc w') : node_Node_after.Call (some ⟨p, 0, none⟩) mb ml mc w R := by
  apply node_Node_after.sound
  unfold node_Node_after.B0
  refine New.mk fun b4 w1 hb4 hs1 ob1 he1 => Pn.mk ?_
  have h1 := h.ext0 he1
  have z1 := he1.size
  refine h1.nd.stN fun w2 o2 he2 => ?_
  have h2 : NReal w2 lo p kp k s l t d e D0 N L0 D F A n S raw [] := h1.st (Rs' := []) o2 he2 rfl rfl (fun i r hr => by cases hr) (by simp)
  have f2 : Fr NT lo w w2 := (Fr.of0 he1).trans (h1.frP he2)
  have z2 := he2.size
  refine catchUp_ok h2 hm.y fun w3 h3 f3 => Pn.mk ?_
  have F3 := f2.trans f3
  have y1 := (catchN_Y n).1
  obtain ⟨m1, bb1⟩ := catchN_mid hm
  have uu1 := uc_catch n
  have rest3 := h3.sm.rest
  refine h3.nd.ldS (view_ok rest3 m1.y.e fun v w4 hv ov he4 => Pn.mk ?_)
  rw [add_mk]
  have E4 := he4.trans (Ext.drew [] w4)
  have h4 := h3.ext0 E4
  have ov4 : Own w4.drew v (viewC (catchN n).Y) T_api_SyncView := Own.drew ov
  have F4 := F3.trans (Fr.of0 E4)
  refine LdI.mk ov4 rfl (Pn.mk ?_)
  rw [add_mk]
  refine LdI.mk ov4 rfl ?_
  have hz4 := F4.size
  refine ncompact_ok h4 m1.y m1.k m1.ap hN hlog (by omega) fun D5 F5 A5 w5 h5 f5 => Pn.mk ?_
  have F5' := F4.trans f5
  have ov5 := f5.ty.own ov4 (by decide)
  rw [add_mk]
  refine LdI.mk ov5 rfl ?_
  obtain ⟨m2, bb2, c2⟩ := compN_mid m1 bb1
  have r2 := compN_rest (catchN n)
  have uu2 := uc_comp (catchN n)
  have hul := uc_le n
  show node_Node_apply.Call (some ⟨p, 0, none⟩) (catchN n).Y.cm w5 _
  rw [← c2]
  refine napply_ok h5 m2.y m2.k m2.ap (by simp; omega) fun raw6 w6 h6 f6 => Pn.mk ?_
  have F6 := F5'.trans f6
  have ov6 := f6.ty.own ov5 (by decide)
  rw [add_mk]
  refine LdI.mk ov6 rfl ?_
  have hrun : runN ((compN (catchN n)).Y.cm - (compN (catchN n)).ap).toNat (compN (catchN n)) = afterR n := by unfold afterR; rw [c2, r2.2.1]
  rw [hrun] at h6
  rw [List.nil_append] at h6
  have hu6 : (afterR n).2.length + uc (afterR n).1 = uc n := by
    rw [← hrun]
    have := uc_run ((compN (catchN n)).Y.cm - (compN (catchN n)).ap).toNat (compN (catchN n))
    omega
  refine ngive_ok (role := (catchN n).Y.e.role) h6 (by omega) fun raw7 w7 h7 f7 => ?_
  have F7 := F6.trans f7
  have hz7 := F7.size
  have hE7 := hE.extT F7.ty (by decide) (by decide)
  have h7' : NReal w7 lo p kp k s l t d e D0 N L0 D5 F5 A5 (afterN n S (E.map (·.1))).n (afterN n S (E.map (·.1))).S raw7 (afterN n S (E.map (·.1))).R := h7
  refine did_ok h7' hE7 hml hen (by omega) fun ob oc rb rc w8 ho hr hog hrg h8 f8 => ?_
  have F8 := F7.trans f8
  have hb8 : ∃ cs, Own w8 b4 cs T_api_Did ∧ cs.size = 3 := by
    have fx : Fr NT lo w1 w8 := ((((((h1.frP he2).trans f3).trans (Fr.of0 E4)).trans f5).trans f6).trans f7).trans f8
    exact ⟨_, fx.ty.own ob1 (by decide), rfl⟩
  obtain ⟨cs, ob9, hcs⟩ := hb8
  refine retDid ob9 hcs fun w9 he9 => ?_
  have t9 := Tys.one ob9
  have x9 : ExtT w8 w9 [T_api_Did] := ExtT.of he9 t9
  have hol : (outsOf E).length = E.length := by simp [outsOf]
  have key := hR D5 F5 A5 raw7 ob oc rb rc w9 ⟨by rw [hol]; exact x9.row ho (by decide), x9.row hr (by decide), fun y hy => by have := hog y hy; omega, fun y hy => by have := hrg y hy; omega⟩ (h8.extT x9 (by decide)) (F8.fresh he9 (by omega) (by omega))
  rw [hol] at key
  exact key
/-- What an event leaves. -/
def EvR (w : World) (lo p kp k s l t d e : Nat) (D0 : DiskS) (N : Int) (L0 : LogS) (ev : NEv) (R : RDid) : Prop :=
  ∀ D' F' A' raw' Rs' ob oc rb rc w', DidAt w' w.heap.size ob oc rb rc (outG ev.G) ev.R → NReal w' lo p kp k s l t d e D0 N L0 D' F' A' ev.n ev.S raw' Rs' → Fr NT lo w w' → R ev.err ob (outG ev.G).length oc rb ev.R.length rc w'
theorem NReal.evt {Y' : YS} {S' : List LogS} (h : NReal w lo p kp k s l t d e D0 N L0 D F A n S raw Rs) (ev : Ev w s l t d e D0 F N L0 w' Y' [] S') (hid : Y'.e.id = n.Y.e.id) (x : ExtT w w' CT) (hlo : lo ≤ w.heap.size) : ∃ D' F' A', NReal w' lo p kp k s l t d e D0 N L0 D' F' A' { n with Y := Y' } S' raw Rs ∧ Fr NT lo w w' := by
  obtain ⟨D', F', A', sm2, g2, e2⟩ := ev.sm
  exact ⟨D', F', A', h.core sm2 hid x g2 hlo, (ext_fr e2 (coreIds h) x).mono (fun q hq => List.mem_append.2 (.inr hq))⟩
theorem ntick_ok {R : RDid} (h : NReal w lo p kp k s l t d e D N n.Y.L D F A n [] raw Rs) (hn : NOk n) (hlog : D.log = []) (hN : N + 13 ≤ 4611686018427387904) (hlo : lo ≤ w.heap.size) (hR : EvR w lo p kp k s l t d e D N n.Y.L (tickN n) R) : node_Node_Tick.Call (some ⟨p, 0, none⟩) w R := by
  apply node_Node_Tick.sound
  unfold node_Node_Tick.B0
  refine New.mk fun b2 w1 hb2 hs1 ob1 he1 => Pn.mk ?_
  have h1 := h.ext0 he1
  have z1 := he1.size
  refine h1.nd.ldS (tick_ok h1.sm.ev hn.mid.y (by omega) (by rw [hlog]; simp) fun xb xc EX w2 hEX mx hxc hlx ev2 x2 => ?_)
  obtain ⟨D', F', A', h2, f2⟩ := h1.evt ev2 tick_id x2 (by omega)
  have hsl : (tickY n.Y).S.length ≤ 12 := by
    have := persS_len { n.Y with e := (El.tickF n.Y.e).2 }
    show (persS { n.Y with e := (El.tickF n.Y.e).2 }).length ≤ 12
    omega
  have hent : ∀ x ∈ EX, x.1.ents.length ≤ 1000 := fun x hx => by
    have := (tick_ent hn.mid.y x.1 (by rw [← hEX]; exact List.mem_map.2 ⟨x, hx, rfl⟩)).1
    omega
  have z2 := f2.size
  refine after_ok h2 (tick_mid hn) mx (by omega) hent (by omega) (by omega) (by rw [hlog]; simp; omega) fun D3 F3 A3 raw3 ob oc rb rc w3 dd h3 f3 => ?_
  have ob3 := f3.ty.own (f2.ty.own ob1 (by decide)) (by decide)
  refine retDid ob3 rfl fun w4 he4 => ?_
  have x4 : ExtT w3 w4 [T_api_Did] := ExtT.of he4 (Tys.one ob3)
  rw [hEX] at dd h3
  rw [hEX, outs_eq hEX]
  rw [outs_eq hEX] at dd
  exact hR D3 F3 A3 raw3 _ ob oc rb rc w4 ((dd.extT x4 (by decide) (by decide)).low (by omega)) (h3.extT x4 (by decide)) ((((Fr.of0 he1).trans f2).trans f3).fresh he4 (by omega) (by omega))
theorem nrecv_ok {raws : ByteArray} {R : RDid} (h : NReal w lo p kp k s l t d e D N n.Y.L D F A n [] raw Rs) (hn : NOk n) (hlog : D.log = []) (hN : N + 13 ≤ 4611686018427387904) (hlo : lo ≤ w.heap.size) (hR : EvR w lo p kp k s l t d e D N n.Y.L (recvN raws n) R) : node_Node_Receive.Call (some ⟨p, 0, none⟩) raws w R := by
  apply node_Node_Receive.sound
  unfold node_Node_Receive.B0
  refine New.mk fun b4 w1 hb4 hs1 ob1 he1 => ?_
  have z1 := he1.size
  -- a refusal
  have fail : ∀ {wx : World} {m0 : Nat}, recvN raws n = failN n 12 → Ext [] w1 wx → node_Node_Receive.B1 (some ⟨p, 0, none⟩) b4 m0 true wx R := fun {wx m0} hf ex => by
    unfold node_Node_Receive.B1
    have obx := ex.own ob1 (by simp)
    refine Bm.pos rfl (retDid obx rfl fun w4 he4 => ?_)
    have x4 : ExtT wx w4 [T_api_Did] := ExtT.of he4 (Tys.one obx)
    rw [hf] at hR
    exact hR D F A raw Rs none 0 none 0 w4 (DidAt.nil _ _) ((h.ext0 (he1.trans ex)).extT x4 (by decide)) ((Fr.of0 (he1.trans ex)).fresh he4 (by omega) (by omega))
  refine decode_ok (fun m rb rc w2 hd hea he2 => NewSet.mk rfl rfl fun m0 w4 hm0 hs4 om he4 => Bm.neg rfl ?_) fun w2 hd he2 => NewSet.mk rfl rfl fun m0 w4 hm0 hs4 om he4 => Bm.pos rfl (fail (by unfold recvN; rw [hd]) ((he2.trans he4).trans (Ext.drew [] w4)))
  have e14 := (he2.trans he4).trans (Ext.drew [] w4)
  have om4 : Own w4.drew m0 (msgC m rb m.ents.length rc).toArray T_api_Msg := Own.drew om
  have h4 := h.ext0 (he1.trans e14)
  have hrv : recvN raws n = if m.to ≠ n.Y.e.id ∨ m.fr = m.to then failN n 12 else afterN { n with Y := (stepY m n.Y).Y } (stepY m n.Y).S (stepY m n.Y).G := by unfold recvN; rw [hd]
  refine LdI.mk om4 rfl (Pn.mk (h4.nd.ldId ?_))
  refine Bm.mk (fun hne => fail ?_ e14) fun heq => LdI.mk om4 rfl (LdI.mk om4 rfl ?_)
  · rw [hrv, if_pos (.inl (by simpa using hne))]
  have hto : m.to = n.Y.e.id := by simpa using heq
  by_cases hft : m.fr = m.to
  · rw [show (m.fr == m.to) = true by simp [hft]]
    exact fail (by rw [hrv, if_pos (.inr hft)]) e14
  rw [show (m.fr == m.to) = false by simp [hft]]
  have hok : ¬ (m.to ≠ n.Y.e.id ∨ m.fr = m.to) := fun q => by
    rcases q with q | q
    · exact q hto
    · exact hft q
  rw [if_neg hok] at hrv
  rw [hrv] at hR
  unfold node_Node_Receive.B1
  refine Bm.neg rfl (Pn.mk ?_)
  have e15 := e14.trans (Ext.drew [] w4.drew)
  have h5 := h.ext0 (he1.trans e15)
  have z5 := (he1.trans e15).size
  have om5 : Own w4.drew.drew m0 (msgC m rb m.ents.length rc).toArray T_api_Msg := Own.drew om4
  have hml : m.ents.length ≤ 2 := by
    have : msgB m = true := by
      unfold decM at hd
      split at hd
      · cases hd
      split at hd
      · cases hd
      · rename_i hsz _
        rw [decD_eq (((strB_isB raws).take _)) (by rw [List.length_take, strB_length]; omega)] at hd
        unfold decW at hd
        split at hd
        · cases hd
        split at hd
        · cases hd
        · rename_i E M _
          cases ht : takeS 0 255 M with
          | none => rw [ht] at hd; cases hd
          | some xk =>
            obtain ⟨x, K⟩ := xk
            rw [ht] at hd
            cases K with
            | cons a K => cases hd
            | nil =>
              dsimp only at hd
              split at hd
              · rename_i hmb
                cases hd
                exact hmb
              · cases hd
    exact ((msgB_iff m).1 this).len
  refine h5.nd.ldS (ldMsg om5 (step_ok h5.sm.ev hn.mid.y (EA.ext0 hea ((he4.trans (Ext.drew [] w4)).trans (Ext.drew [] _))) (by omega) (by omega) (by rw [hlog]; simp) fun xb xc EX w6 hEX mx hxc hlx ev6 x6 => ?_))
  obtain ⟨D', F', A', h6, f6⟩ := h5.evt ev6 step_id x6 (by omega)
  have hent : ∀ x ∈ EX, x.1.ents.length ≤ 1000 := fun x hx => by
    have := (step_ent hn.mid.y x.1 (by rw [← hEX]; exact List.mem_map.2 ⟨x, hx, rfl⟩)).1
    omega
  have hsl := step_len (m := m) hn.mid.y
  have z6 := f6.size
  refine after_ok h6 (step_mid hn) mx (by omega) hent (by omega) (by omega) (by rw [hlog]; simp; omega) fun D3 F3 A3 raw3 ob oc rb' rc' w7 dd h7 f7 => ?_
  have ob7 := f7.ty.own (f6.ty.own (e15.own ob1 (by simp)) (by decide)) (by decide)
  refine retDid ob7 rfl fun w8 he8 => ?_
  have x8 : ExtT w7 w8 [T_api_Did] := ExtT.of he8 (Tys.one ob7)
  rw [hEX] at dd h7
  rw [hEX, outs_eq hEX]
  rw [outs_eq hEX] at dd
  exact hR D3 F3 A3 raw3 _ ob oc rb' rc' w8 ((dd.extT x8 (by decide) (by decide)).low (by omega)) (h7.extT x8 (by decide)) ((((Fr.of0 (he1.trans e15)).trans f6).trans f7).fresh he8 (by omega) (by omega))
theorem ncall_ok {c : CmdS} {R : RDid} (h : NReal w lo p kp k s l t d e D N n.Y.L D F A n [] raw Rs) (hn : NOk n) (hlog : D.log = []) (hN : N + 13 ≤ 4611686018427387904) (hlo : lo ≤ w.heap.size) (hR : EvR w lo p kp k s l t d e D N n.Y.L (callN c n) R) : node_Node_Call.Call (some ⟨p, 0, none⟩) c.op c.cl c.seq c.key c.val c.old w R := by
  apply node_Node_Call.sound
  unfold node_Node_Call.B0
  refine New.mk fun cb w1 hcb hs1 oc1 he1 => New.mk fun b4 w2 hb4 hs2 ob2 he2 => ?_
  have E2 := he1.trans he2
  have oc2 : CmdAt w2 cb c := he2.own oc1 (by simp)
  have z1 := he1.size
  have z2 := E2.size
  have fail : ∀ {wx : World} {er : Int}, callN c n = failN n er → Ext [] w2 wx → Sts [.int .i64 er, .slice none 0 0, .slice none 0 0] ⟨b4, 0, none⟩ 0 wx fun w9 => LdI .i64 ⟨b4, 0, none⟩ w9 fun r_0 => LdL ⟨b4, 1, none⟩ w9 fun r_1_b r_1_l r_1_c => LdL ⟨b4, 2, none⟩ w9 fun r_2_b r_2_l r_2_c => R r_0 r_1_b r_1_l r_1_c r_2_b r_2_l r_2_c w9 := fun {wx er} hf ex => by
    have obx := ex.own ob2 (by simp)
    refine retDid obx rfl fun w4 he4 => ?_
    have x4 : ExtT wx w4 [T_api_Did] := ExtT.of he4 (Tys.one obx)
    rw [hf] at hR
    exact hR D F A raw Rs none 0 none 0 w4 (DidAt.nil _ _) ((h.ext0 (E2.trans ex)).extT x4 (by decide)) ((Fr.of0 (E2.trans ex)).fresh he4 (by omega) (by omega))
  refine oc2.all (cmdOK_ok fun w3 he3 => ?_)
  have E3 := E2.trans he3
  unfold callN at fail hR
  cases hok : cmdOk c with
  | false =>
    refine Bm.pos rfl (fail ?_ he3)
    rw [if_pos hok]
  | true =>
    rw [if_neg (by simp [hok])] at hR
    refine Bm.neg rfl (Pn.mk ?_)
    have hp := (cmdOk_true.1 hok).1
    have h3 := h.ext0 E3
    refine h3.nd.ldS (view_ok h3.sm.rest hn.mid.y.e fun v w5 hv ov he5 => Pn.mk ?_)
    rw [add_mk]
    have e25 := he3.trans he5
    refine LdI.mk ov rfl ?_
    show Bm (n.Y.e.role != 2) _ _
    by_cases hr : n.Y.e.role = 2
    rotate_left
    · refine Bm.pos (by simpa using hr) (fail ?_ e25)
      rw [if_neg (by simp [hok]), if_pos hr]
    rw [if_neg (by simp [hr])] at hR
    obtain ⟨y, hy⟩ : ∃ y : Nat, c.cl = y := ⟨c.cl.toNat, by omega⟩
    have E5 := E2.trans e25
    have h5 := (h.ext0 E5).ext0 (Ext.drew [] w5)
    have e25d := e25.trans (Ext.drew [] w5)
    have oc5 : CmdAt w5.drew cb c := oc2.ext0 e25d
    refine Bm.neg (by simp [hr]) (oc5.l1 (Pn.mk ?_))
    rw [hy]
    refine ⟨⟨by omega, by omega⟩, h5.nd.ldU (by omega) ?_⟩
    cases hus : n.used y with
    | true =>
      refine Bm.pos rfl (fail ?_ e25d)
      rw [if_neg (by simp [hok]), if_neg (by simp [hr]), if_pos (by rw [hy, Int.toNat_natCast]; exact hus)]
    | false =>
      rw [if_neg (by rw [hy, Int.toNat_natCast, hus]; simp)] at hR
      refine Bm.neg rfl (oc5.all (encodeCmd_ok fun w8 he8 => Pn.mk ?_))
      have e28 := e25d.trans he8
      have h8 := h.ext0 (E2.trans e28)
      have z8 := (E2.trans e28).size
      refine h8.nd.ldS (propose_ok (dd := encCmd c) h8.sm.ev hn.mid.y (by rw [hlog]; simp) fun w9 ev9 x9 => ?_)
      by_cases hz : (proposeY (encCmd c) n.Y).1.2 = 0
      rotate_left
      · -- the core refuses
        have hsame : (proposeY (encCmd c) n.Y).2 = ⟨n.Y, [], []⟩ := by
          unfold proposeY at hz ⊢
          split
          · rfl
          · split
            · rfl
            · split
              · rfl
              · rename_i q1 q2 q3
                rw [if_neg q1, if_neg q2, if_neg q3] at hz
                exact absurd rfl hz
        rw [hsame] at ev9
        obtain ⟨D', F', A', h9, f9⟩ := h8.evt ev9 rfl x9 (by omega)
        have ob9 := f9.ty.own (e28.own ob2 (by simp)) (by decide)
        refine Bm.pos (by simpa using hz) (retDid ob9 rfl fun w10 he10 => ?_)
        have x10 : ExtT w9 w10 [T_api_Did] := ExtT.of he10 (Tys.one ob9)
        rw [if_pos hz] at hR
        exact hR D' F' A' raw Rs none 0 none 0 w10 (DidAt.nil _ _) (h9.extT x10 (by decide)) (((Fr.of0 (E2.trans e28)).trans f9).fresh he10 (by omega) (by omega))
      · rw [if_neg (by simp [hz])] at hR
        obtain ⟨D', F', A', h9, f9⟩ := h8.evt ev9 (by rw [propose_id]) x9 (by omega)
        have F9 := (Fr.of0 (E2.trans e28)).trans f9
        refine Bm.neg (by simp [hz]) ?_
        have h9d := h9.ext0 (Ext.drew [] w9)
        have oc9 : CmdAt w9.drew cb c := Own.drew (f9.ty.own (oc2.ext0 e28) (by decide))
        refine oc9.l1 (oc9.l1 (oc9.l1 (oc9.l2 (Pn.mk ?_))))
        rw [hy]
        refine ⟨⟨by omega, by omega⟩, Pn.mk (Pn.mk (h9d.nd.stU (by omega) fun w11 o11 he11 => ?_))⟩
        have tp := Tys.one h9d.nd
        have oc11 : Own w11 cb (cmdVs c).toArray T_api_Cmd := ownT he11 tp oc9 (by decide)
        have cl1 : w11.cell? ⟨cb, 1, none⟩ = some (.int .i64 (y : Int)) := by rw [← hy]; exact oc11.cell rfl
        refine ⟨oc11.cell rfl, cl1, cl1, ⟨by omega, by omega⟩, NdAt.stQ o11 (by omega) fun w12 o12 he12 => ?_⟩
        have oc12 : Own w12 cb (cmdVs c).toArray T_api_Cmd := ownT he12 (Tys.one o11) oc11 (by decide)
        refine ⟨by rw [← hy]; exact oc12.cell rfl, ⟨by omega, by omega⟩, NdAt.stI o12 (by omega) fun w13 o13 he13 => ?_⟩
        have Ep : Ext [p] w9.drew w13 := (he11.trans he12).trans he13
        have hst : ({ ({ ({ ({ n with Y := (proposeY (encCmd c) n.Y).2.Y } : NS) with used := updB n.used y true } : NS) with seq := upN n.seq y c.seq } : NS) with idx := upN n.idx y (proposeY (encCmd c) n.Y).1.1 } : NS) = takeCall c n := by
          unfold takeCall
          rw [hy, Int.toNat_natCast]
        have h13 : NReal w13 lo p kp k s l t d e D N n.Y.L D' F' A' (takeCall c n) (proposeY (encCmd c) n.Y).2.S raw Rs := by
          rw [← hst]
          exact h9d.st o13 Ep rfl rfl h.raw h.rl
        have F13 := (F9.trans (Fr.of0 (Ext.drew [] w9))).trans (h9d.frP Ep)
        have z13 := F13.size
        have hpl := propose_len (d := encCmd c) (Y := n.Y)
        refine after_ok (E := []) h13 (call_mid hn hok hr hz) (ML.nil w13 0) (by omega) (fun x hx => by cases hx) (by omega) (by omega) (by rw [hlog]; simp; omega) fun D3 F3 A3 raw3 ob oc rb rc w14 dd h14 f14 => ?_
        have ob14 := f14.ty.own ((h9d.frP Ep).ty.own (Own.drew (f9.ty.own (e28.own ob2 (by simp)) (by decide))) (by decide)) (by decide)
        refine retDid ob14 rfl fun w15 he15 => ?_
        have x15 : ExtT w14 w15 [T_api_Did] := ExtT.of he15 (Tys.one ob14)
        exact hR D3 F3 A3 raw3 _ ob oc rb rc w15 ((dd.extT x15 (by decide) (by decide)).low (by omega)) (h14.extT x15 (by decide)) ((F13.trans f14).fresh he15 (by omega) (by omega))
end
end Go.Proofs.Qxb6500430aGreat
