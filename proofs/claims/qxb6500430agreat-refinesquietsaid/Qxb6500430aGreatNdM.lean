/-
  nodem: the events; New, Mark, Steps, After; the looks.
-/
import Derived.Test.Qxb6500430aGreatNdL
set_option linter.unusedVariables false
set_option linter.unusedSimpArgs false
open Go.Vc
namespace Go.Proofs.Qxb6500430aGreat
open Kv
def EvM (w : World) (lo p kp s q me : Nat) (M : MSt) (ev : NEv) (R : RDid) : Prop :=
  ∀ M' ob oc rb rc w', DidAt w' w.heap.size ob oc rb rc (outG ev.G) ev.R → NMod w' lo p kp s q me M' ev.n → M'.A0 = M.A0 → M'.H.map (·.2) = M.H.map (·.2) ++ ev.S.map gs → Fr MNT lo w w' → R ev.err ob (outG ev.G).length oc rb ev.R.length rc w'
theorem decM_len {raws : ByteArray} {m : MsgV} (hd : decM raws = some m) : m.ents.length ≤ 2 := by
  have : msgB m = true := by
    unfold decM at hd
    split at hd
    · cases hd
    split at hd
    · cases hd
    · rename_i hsz _
      rw [decD_eq (((strB_isB raws).take _)) (by rw [List.length_take, strB_length]; omega)] at hd
      unfold decW at hd
      split at hd
      · cases hd
      split at hd
      · cases hd
      · rename_i E M _
        cases ht : takeS 0 255 M with
        | none => rw [ht] at hd; cases hd
        | some xk =>
          obtain ⟨x, K⟩ := xk
          rw [ht] at hd
          cases K with
          | cons a K => cases hd
          | nil =>
            dsimp only at hd
            split at hd
            · rename_i hmb
              cases hd
              exact hmb
            · cases hd
  exact ((msgB_iff m).1 this).len
section
variable {w0 w w' : World} {lo p s kp q me : Nat} {M : MSt} {n n' : NS} {L : LogS}
theorem nmtick_ok {R : RDid} (h : NMod w lo p kp s q me M n) (hn : NOk n) (hH : M.H = []) (hlo : lo ≤ w.heap.size) (hR : EvM w lo p kp s q me M (tickN n) R) : nodem_Node_Tick.Call (some ⟨p, 0, none⟩) w R := by
  apply nodem_Node_Tick.sound
  unfold nodem_Node_Tick.B0
  refine New.mk fun b2 w1 hb2 hs1 ob1 he1 => Pn.mk ?_
  have h1 := h.ext0 he1
  have z1 := he1.size
  refine h1.nd.ldS (mtick_ok (h1.mr.mv hn.mid.y.L) hn.mid.y (by rw [hH]; simp) fun xb xc EX w2 hEX mx hlx mv2 x2 => ?_)
  obtain ⟨M2, h2, a2, hh2, f2⟩ := h1.evt mv2 x2 (by omega)
  have hsl : (tickY n.Y).S.length ≤ 12 := by
    have := persS_len { n.Y with e := (El.tickF n.Y.e).2 }
    show (persS { n.Y with e := (El.tickF n.Y.e).2 }).length ≤ 12
    omega
  have hent : ∀ x ∈ EX, x.1.ents.length ≤ 1000 := fun x hx => by
    have := (tick_ent hn.mid.y x.1 (by rw [← hEX]; exact List.mem_map.2 ⟨x, hx, rfl⟩)).1
    omega
  have hl2 : M2.H.length ≤ 50 := by
    have := congrArg List.length hh2
    simp [hH] at this
    omega
  have z2 := f2.size
  refine nmafter_ok h2 (tick_mid hn) mx (by omega) hent (by omega) hl2 fun M3 ob oc rb rc w3 dd h3 a3 hh3 f3 => ?_
  have ob3 := f3.ty.own (f2.ty.own ob1 (by decide)) (by decide)
  refine retDid ob3 rfl fun w4 he4 => ?_
  have x4 : ExtT w3 w4 [T_api_Did] := ExtT.of he4 (Tys.one ob3)
  rw [outs_eq hEX] at dd ⊢
  refine hR M3 ob oc rb rc w4 ((dd.extT x4 (by decide) (by decide)).low (by omega)) (h3.extT x4 (by decide)) (by rw [a3, a2]) ?_ ((((Fr.of0 he1).trans f2).trans f3).fresh he4 (by omega) (by omega))
  rw [hh3, hh2]
  show _ = _ ++ ((tickY n.Y).S ++ compS (catchN { n with Y := (tickY n.Y).Y })).map gs
  rw [List.map_append, List.append_assoc]
theorem nmrecv_ok {raws : ByteArray} {R : RDid} (h : NMod w lo p kp s q me M n) (hn : NOk n) (hH : M.H = []) (hlo : lo ≤ w.heap.size) (hR : EvM w lo p kp s q me M (recvN raws n) R) : nodem_Node_Receive.Call (some ⟨p, 0, none⟩) raws w R := by
  apply nodem_Node_Receive.sound
  unfold nodem_Node_Receive.B0
  refine New.mk fun b4 w1 hb4 hs1 ob1 he1 => ?_
  have z1 := he1.size
  have fail : ∀ {wx : World} {m0 : Nat}, recvN raws n = failN n 12 → Ext [] w1 wx → nodem_Node_Receive.B1 (some ⟨p, 0, none⟩) b4 m0 true wx R := fun {wx m0} hf ex => by
    unfold nodem_Node_Receive.B1
    have obx := ex.own ob1 (by simp)
    refine Bm.pos rfl (retDid obx rfl fun w4 he4 => ?_)
    have x4 : ExtT wx w4 [T_api_Did] := ExtT.of he4 (Tys.one obx)
    rw [hf] at hR
    exact hR M none 0 none 0 w4 (DidAt.nil _ _) ((h.ext0 (he1.trans ex)).extT x4 (by decide)) rfl (by simp [failN]) ((Fr.of0 (he1.trans ex)).fresh he4 (by omega) (by omega))
  refine decodeMsg_ok (fun m rb rc w2 hd hea he2 => NewSet.mk rfl rfl fun m0 w4 hm0 hs4 om he4 => Pn.mk ?_) fun w2 hd he2 => NewSet.mk rfl rfl fun m0 w4 hm0 hs4 om he4 => Pn.mk ?_
  rotate_left
  · have e14 := he2.trans he4
    have h4 := h.ext0 (he1.trans e14)
    exact h4.nd.ldS (mview_ok h4.mr hn.mid.y.L fun v w5 hv ov he5 => Bm.pos rfl (fail (by unfold recvN; rw [hd]) ((e14.trans he5).trans (Ext.drew [] w5))))
  have e14 := he2.trans he4
  have h4 := h.ext0 (he1.trans e14)
  refine h4.nd.ldS (mview_ok h4.mr hn.mid.y.L fun v w5 hv ov he5 => Bm.neg rfl ?_)
  have e15 := (e14.trans he5).trans (Ext.drew [] w5)
  have om5 : Own w5.drew m0 (msgC m rb m.ents.length rc).toArray T_api_Msg := Own.drew (he5.own om (by simp))
  have ov5 : Own w5.drew v (viewC n.Y) T_api_SyncView := Own.drew ov
  have hrv : recvN raws n = if m.to ≠ n.Y.e.id ∨ m.fr = m.to then failN n 12 else afterN { n with Y := (stepY m n.Y).Y } (stepY m n.Y).S (stepY m n.Y).G := by unfold recvN; rw [hd]
  refine LdI.mk om5 rfl (Pn.mk (LdI.mk ov5 rfl ?_))
  show Bm (m.to != n.Y.e.id) _ _
  refine Bm.mk (fun hne => fail ?_ e15) fun heq => LdI.mk om5 rfl (LdI.mk om5 rfl ?_)
  · rw [hrv, if_pos (.inl (by simpa using hne))]
  have hto : m.to = n.Y.e.id := by simpa using heq
  by_cases hft : m.fr = m.to
  · rw [show (m.fr == m.to) = true by simp [hft]]
    exact fail (by rw [hrv, if_pos (.inr hft)]) e15
  rw [show (m.fr == m.to) = false by simp [hft]]
  have hok : ¬ (m.to ≠ n.Y.e.id ∨ m.fr = m.to) := fun q => by
    rcases q with q | q
    · exact q hto
    · exact hft q
  rw [if_neg hok] at hrv
  rw [hrv] at hR
  unfold nodem_Node_Receive.B1
  refine Bm.neg rfl (Pn.mk ?_)
  have e16 := e15.trans (Ext.drew [] w5.drew)
  have h6 := h.ext0 (he1.trans e16)
  have z6 := (he1.trans e16).size
  have om6 : Own w5.drew.drew m0 (msgC m rb m.ents.length rc).toArray T_api_Msg := Own.drew om5
  have hml := decM_len hd
  refine h6.nd.ldS (ldMsg om6 (mstep_ok (h6.mr.mv hn.mid.y.L) hn.mid.y (EA.ext0 hea (((he4.trans he5).trans (Ext.drew [] w5)).trans (Ext.drew [] _))) (by omega) (by rw [hH]; simp) fun xb xc EX w7 hEX mx hlx mv7 x7 => ?_))
  obtain ⟨M7, h7, a7, hh7, f7⟩ := h6.evt mv7 x7 (by omega)
  have hent : ∀ x ∈ EX, x.1.ents.length ≤ 1000 := fun x hx => by
    have := (step_ent hn.mid.y x.1 (by rw [← hEX]; exact List.mem_map.2 ⟨x, hx, rfl⟩)).1
    omega
  have hsl := step_len (m := m) hn.mid.y
  have hl7 : M7.H.length ≤ 50 := by
    have := congrArg List.length hh7
    simp [hH] at this
    omega
  have z7 := f7.size
  refine nmafter_ok h7 (step_mid hn) mx (by omega) hent (by omega) hl7 fun M8 ob oc rb' rc' w8 dd h8 a8 hh8 f8 => ?_
  have ob8 := f8.ty.own (f7.ty.own (e16.own ob1 (by simp)) (by decide)) (by decide)
  refine retDid ob8 rfl fun w9 he9 => ?_
  have x9 : ExtT w8 w9 [T_api_Did] := ExtT.of he9 (Tys.one ob8)
  rw [outs_eq hEX] at dd ⊢
  refine hR M8 ob oc rb' rc' w9 ((dd.extT x9 (by decide) (by decide)).low (by omega)) (h8.extT x9 (by decide)) (by rw [a8, a7]) ?_ ((((Fr.of0 (he1.trans e16)).trans f7).trans f8).fresh he9 (by omega) (by omega))
  rw [hh8, hh7]
  show _ = _ ++ ((stepY m n.Y).S ++ compS (catchN { n with Y := (stepY m n.Y).Y })).map gs
  rw [List.map_append, List.append_assoc]
theorem nmcall_ok {c : CmdS} {R : RDid} (h : NMod w lo p kp s q me M n) (hn : NOk n) (hH : M.H = []) (hlo : lo ≤ w.heap.size) (hR : EvM w lo p kp s q me M (callN c n) R) : nodem_Node_Call.Call (some ⟨p, 0, none⟩) c.op c.cl c.seq c.key c.val c.old w R := by
  apply nodem_Node_Call.sound
  unfold nodem_Node_Call.B0
  refine New.mk fun cb w1 hcb hs1 oc1 he1 => New.mk fun b4 w2 hb4 hs2 ob2 he2 => ?_
  have E2 := he1.trans he2
  have oc2 : CmdAt w2 cb c := he2.own oc1 (by simp)
  have z1 := he1.size
  have z2 := E2.size
  have fail : ∀ {wx : World} {er : Int}, callN c n = failN n er → Ext [] w2 wx → Sts [.int .i64 er, .slice none 0 0, .slice none 0 0] ⟨b4, 0, none⟩ 0 wx fun w9 => LdI .i64 ⟨b4, 0, none⟩ w9 fun r_0 => LdL ⟨b4, 1, none⟩ w9 fun r_1_b r_1_l r_1_c => LdL ⟨b4, 2, none⟩ w9 fun r_2_b r_2_l r_2_c => R r_0 r_1_b r_1_l r_1_c r_2_b r_2_l r_2_c w9 := fun {wx er} hf ex => by
    have obx := ex.own ob2 (by simp)
    refine retDid obx rfl fun w4 he4 => ?_
    have x4 : ExtT wx w4 [T_api_Did] := ExtT.of he4 (Tys.one obx)
    rw [hf] at hR
    exact hR M none 0 none 0 w4 (DidAt.nil _ _) ((h.ext0 (E2.trans ex)).extT x4 (by decide)) rfl (by simp [failN]) ((Fr.of0 (E2.trans ex)).fresh he4 (by omega) (by omega))
  refine oc2.all (cmdOK_ok fun w3 he3 => ?_)
  have E3 := E2.trans he3
  unfold callN at fail hR
  cases hok : cmdOk c with
  | false =>
    refine Bm.pos rfl (fail ?_ he3)
    rw [if_pos hok]
  | true =>
    rw [if_neg (by simp [hok])] at hR
    refine Bm.neg rfl (Pn.mk ?_)
    have hp := (cmdOk_true.1 hok).1
    have h3 := h.ext0 E3
    refine h3.nd.ldS (mview_ok h3.mr hn.mid.y.L fun v w5 hv ov he5 => Pn.mk ?_)
    rw [add_mk]
    have e25 := he3.trans he5
    refine LdI.mk ov rfl ?_
    show Bm (n.Y.e.role != 2) _ _
    by_cases hr : n.Y.e.role = 2
    rotate_left
    · refine Bm.pos (by simpa using hr) (fail ?_ e25)
      rw [if_neg (by simp [hok]), if_pos hr]
    rw [if_neg (by simp [hr])] at hR
    obtain ⟨y, hy⟩ : ∃ y : Nat, c.cl = y := ⟨c.cl.toNat, by omega⟩
    have E5 := E2.trans e25
    have h5 := (h.ext0 E5).ext0 (Ext.drew [] w5)
    have e25d := e25.trans (Ext.drew [] w5)
    have oc5 : CmdAt w5.drew cb c := oc2.ext0 e25d
    refine Bm.neg (by simp [hr]) (oc5.l1 (Pn.mk ?_))
    rw [hy]
    refine ⟨⟨by omega, by omega⟩, h5.nd.ldU (by omega) ?_⟩
    cases hus : n.used y with
    | true =>
      refine Bm.pos rfl (fail ?_ e25d)
      rw [if_neg (by simp [hok]), if_neg (by simp [hr]), if_pos (by rw [hy, Int.toNat_natCast]; exact hus)]
    | false =>
      rw [if_neg (by rw [hy, Int.toNat_natCast, hus]; simp)] at hR
      refine Bm.neg rfl (oc5.all (encodeCmd_ok fun w8 he8 => Pn.mk ?_))
      have e28 := e25d.trans he8
      have h8 := h.ext0 (E2.trans e28)
      have z8 := (E2.trans e28).size
      refine h8.nd.ldS (mpropose_ok (dd := encCmd c) (h8.mr.mv hn.mid.y.L) (by rw [hH]; simp) fun w9 mv9 x9 => ?_)
      by_cases hz : (proposeY (encCmd c) n.Y).1.2 = 0
      rotate_left
      · have hsame : (proposeY (encCmd c) n.Y).2 = ⟨n.Y, [], []⟩ := by
          unfold proposeY at hz ⊢
          split
          · rfl
          · split
            · rfl
            · split
              · rfl
              · rename_i q1 q2 q3
                rw [if_neg q1, if_neg q2, if_neg q3] at hz
                exact absurd rfl hz
        rw [hsame] at mv9
        obtain ⟨M9, h9, a9, hh9, f9⟩ := h8.evt mv9 x9 (by omega)
        have ob9 := f9.ty.own (e28.own ob2 (by simp)) (by decide)
        refine Bm.pos (by simpa using hz) (retDid ob9 rfl fun w10 he10 => ?_)
        have x10 : ExtT w9 w10 [T_api_Did] := ExtT.of he10 (Tys.one ob9)
        rw [if_pos hz] at hR
        exact hR M9 none 0 none 0 w10 (DidAt.nil _ _) (h9.extT x10 (by decide)) a9 (by rw [hh9]; rfl) (((Fr.of0 (E2.trans e28)).trans f9).fresh he10 (by omega) (by omega))
      · rw [if_neg (by simp [hz])] at hR
        obtain ⟨M9, h9, a9, hh9, f9⟩ := h8.evt mv9 x9 (by omega)
        have F9 := (Fr.of0 (E2.trans e28)).trans f9
        refine Bm.neg (by simp [hz]) ?_
        have h9d := h9.ext0 (Ext.drew [] w9)
        have oc9 : CmdAt w9.drew cb c := Own.drew (f9.ty.own (oc2.ext0 e28) (by decide))
        refine oc9.l1 (oc9.l1 (oc9.l1 (oc9.l2 (Pn.mk ?_))))
        rw [hy]
        refine ⟨⟨by omega, by omega⟩, Pn.mk (Pn.mk (h9d.nd.stU (by omega) fun w11 o11 he11 => ?_))⟩
        have tp := Tys.one h9d.nd
        have oc11 : Own w11 cb (cmdVs c).toArray T_api_Cmd := ownT he11 tp oc9 (by decide)
        have cl1 : w11.cell? ⟨cb, 1, none⟩ = some (.int .i64 (y : Int)) := by rw [← hy]; exact oc11.cell rfl
        refine ⟨oc11.cell rfl, cl1, cl1, ⟨by omega, by omega⟩, NmAt.stQ o11 (by omega) fun w12 o12 he12 => ?_⟩
        have oc12 : Own w12 cb (cmdVs c).toArray T_api_Cmd := ownT he12 (Tys.one o11) oc11 (by decide)
        refine ⟨by rw [← hy]; exact oc12.cell rfl, ⟨by omega, by omega⟩, NmAt.stI o12 (by omega) fun w13 o13 he13 => ?_⟩
        have Ep : Ext [p] w9.drew w13 := (he11.trans he12).trans he13
        have hst : ({ ({ ({ ({ n with Y := (proposeY (encCmd c) n.Y).2.Y } : NS) with used := updB n.used y true } : NS) with seq := upN n.seq y c.seq } : NS) with idx := upN n.idx y (proposeY (encCmd c) n.Y).1.1 } : NS) = takeCall c n := by
          unfold takeCall
          rw [hy, Int.toNat_natCast]
        have h13 : NMod w13 lo p kp s q me M9 (takeCall c n) := by
          rw [← hst]
          exact h9d.st o13 Ep rfl rfl
        have F13 := (F9.trans (Fr.of0 (Ext.drew [] w9))).trans (h9d.frP Ep)
        have z13 := F13.size
        have hpl := propose_len (d := encCmd c) (Y := n.Y)
        have hl9 : M9.H.length ≤ 50 := by
          have := congrArg List.length hh9
          simp [hH] at this
          omega
        refine nmafter_ok (E := []) h13 (call_mid hn hok hr hz) (ML.nil w13 0) (by omega) (fun x hx => by cases hx) (by omega) hl9 fun M3 ob oc rb rc w14 dd h14 a14 hh14 f14 => ?_
        have ob14 := f14.ty.own ((h9d.frP Ep).ty.own (Own.drew (f9.ty.own (e28.own ob2 (by simp)) (by decide))) (by decide)) (by decide)
        refine retDid ob14 rfl fun w15 he15 => ?_
        have x15 : ExtT w14 w15 [T_api_Did] := ExtT.of he15 (Tys.one ob14)
        refine hR M3 ob oc rb rc w15 ((dd.extT x15 (by decide) (by decide)).low (by omega)) (h14.extT x15 (by decide)) (by rw [a14, a9]) ?_ ((F13.trans f14).fresh he15 (by omega) (by omega))
        rw [hh14, hh9]
        show _ = _ ++ ((proposeY (encCmd c) n.Y).2.S ++ compS (catchN (takeCall c n))).map gs
        rw [List.map_append, List.append_assoc]
/-! ### building, marking, cutting -/
theorem nmopen_ok {i : Int} {R : Option Addr → World → Prop} (h : MRest w s q me M (openY i L)) (hL : LogOk L) (hk : Kv.ModAt w kp [] (fun _ => Kv.zeroS)) (hlo : lo ≤ w.heap.size) (hge : ∀ y ∈ kp :: s :: me :: M.foot q, lo ≤ y)
    (hR : ∀ p w', w.heap.size ≤ p → NMod w' lo p kp s q me M (openN i L) → Fr MNT lo w w' → R (some ⟨p, 0, none⟩) w') : nodem_open.Call (some ⟨s, 0, none⟩) (some ⟨kp, 0, none⟩) w R := by
  apply nodem_open.sound
  unfold nodem_open.B0
  refine New.mk fun p w1 hp hs1 op he1 => ?_
  let n0 : NS := ⟨openY i L, ⟨[], fun _ => Kv.zeroS⟩, 0, fun _ => false, fun _ => 0, fun _ => 0⟩
  have nd : NmAt w1 p s kp n0 := op
  have hn : NMod w1 lo p kp s q me M n0 := ⟨nd, h.ext0 he1, hk.ext0 he1, fun y hy => by
    simp only [List.mem_cons] at hy hge
    rcases hy with z | z | z | z | z
    · omega
    · exact hge y (by simp [z])
    · exact hge y (by simp [z])
    · exact hge y (by simp [z])
    · exact hge y (by simp [z])⟩
  exact mcatch_ok hn (open_inv i hL) fun w2 h2 f2 => hR p w2 (by omega) h2 ((Fr.of0 he1).trans f2)
theorem nmnew_ok {i : Int} {R : Option Addr → World → Prop} (hlo : lo ≤ w.heap.size)
    (hR : ∀ p kp s q me M w', w.heap.size ≤ p → NMod w' lo p kp s q me M (openN i L0) → M.A0 = gs L0 → M.H = [] → (∀ y ∈ p :: kp :: s :: me :: M.foot q, w.heap.size ≤ y) → Ext [] w w' → R (some ⟨p, 0, none⟩) w') : nodem_New.Call i w R := by
  apply nodem_New.sound
  unfold nodem_New.B0
  refine mnew_ok fun s q me M w1 hs hme hMf mr hA0 hH he1 => modNew_ok fun kp w2 hkp hk he2 => ?_
  have z1 := he1.size
  have z2 := he2.size
  have hge : ∀ y ∈ kp :: s :: me :: M.foot q, w.heap.size ≤ y := fun y hy => by
    simp only [List.mem_cons] at hy
    rcases hy with z | z | z | z
    · omega
    · omega
    · omega
    · exact hMf y z
  refine nmopen_ok (lo := w.heap.size) (mr.ext0 he2) L0_ok hk (by omega) hge fun p w3 hp h3 f3 => hR p kp s q me M w3 (by omega) ⟨h3.nd, h3.mr, h3.kv, fun y hy => Nat.le_trans hlo (h3.ge y hy)⟩ hA0 hH h3.ge (Above.base (he1.trans he2) f3.ab)
theorem nmmark_ok {R : World → Prop} (h : NMod w lo p kp s q me M n) (hlo : lo ≤ w.heap.size) (hR : ∀ M' w', NMod w' lo p kp s q me M' n → M'.A0 = gs n.Y.L → M'.H = [] → Fr MNT lo w w' → R w') : nodem_Node_Mark.Call (some ⟨p, 0, none⟩) w R := by
  apply nodem_Node_Mark.sound
  unfold nodem_Node_Mark.B0
  refine Pn.mk (h.nd.ldS (mmark_ok h.mr fun M' w' mr hA0 hH hg he => ?_))
  have x : ExtT w w' [T_rlogm_Log] := ExtT.of he (Tys.one h.mr.md.own)
  refine hR M' w' ⟨x.own h.nd (by decide), mr, ⟨x.own h.kv.1 (by decide), h.kv.2⟩, fun y hy => ?_⟩ hA0 hH (Fr.one h.mr.md.own he (by simp) (h.ge q (by simp [MSt.foot])))
  have old := h.ge
  simp only [List.mem_cons] at hy old
  rcases hy with z | z | z | z | z
  · exact old y (by simp [z])
  · exact old y (by simp [z])
  · exact old y (by simp [z])
  · exact old y (by simp [z])
  · rcases hg y z with u | u
    · exact old y (by simp [u])
    · omega
theorem nmsteps_ok {R : Int → World → Prop} (h : NMod w lo p kp s q me M n) (hR : R (M.H.length : Int) w) : nodem_Node_Steps.Call (some ⟨p, 0, none⟩) w R := by
  apply nodem_Node_Steps.sound
  unfold nodem_Node_Steps.B0
  exact Pn.mk (h.nd.ldS (msteps_ok h.mr hR))
theorem nmAfter_ok {k i : Int} {R : Option Addr → World → Prop} (h : NMod w lo p kp s q me M n) (hl : M.H.length ≤ 1000) (hA : M.at k = gs L) (hk : LogOk L) (hi : (El.newF i).id = (El.newF n.Y.e.id).id)
    (hR : ∀ p' kp' s' q' me' M' w', NMod w' w.heap.size p' kp' s' q' me' M' (openN i L) → M'.A0 = gs L → M'.H = [] → Ext [] w w' → R (some ⟨p', 0, none⟩) w') : nodem_Node_After.Call (some ⟨p, 0, none⟩) k w R := by
  apply nodem_Node_After.sound
  unfold nodem_Node_After.B0
  refine Pn.mk (h.nd.ldS (mafter_ok (i := i) h.mr hl hA hk hi fun s' q' me' M' w1 hs hme hMf mr hA0 hH he1 => modNew_ok fun kp' w2 hkp hk2 he2 => ?_))
  have z1 := he1.size
  have z2 := he2.size
  refine nmopen_ok (lo := w.heap.size) (mr.ext0 he2) hk hk2 (by omega) (fun y hy => ?_) fun p' w3 hp h3 f3 => hR p' kp' s' q' me' M' w3 h3 hA0 hH (Above.base (he1.trans he2) f3.ab)
  simp only [List.mem_cons] at hy
  rcases hy with z | z | z | z
  · omega
  · omega
  · omega
  · exact hMf y z
/-! ### the looks -/
theorem nmview_ok {R : Option Addr → World → Prop} (h : NMod w lo p kp s q me M n) (hk : LogOk n.Y.L) (hR : ∀ v b w', Own w' v (viewC n.Y) T_api_SyncView → Own w' b (viewN v n) T_api_NodeView → Ext [] w w' → R (some ⟨b, 0, none⟩) w') : nodem_Node_View.Call (some ⟨p, 0, none⟩) w R := by
  apply nodem_Node_View.sound
  unfold nodem_Node_View.B0
  refine Pn.mk (h.nd.ldS (mview_ok h.mr hk fun v w1 hv ov he1 => Pn.mk ?_))
  have E1 := he1.trans (Ext.drew [] w1)
  have h1 := h.ext0 E1
  have nd := h1.nd
  refine nd.ldA (Pn.mk ?_)
  simp only [add_mk, Nat.zero_add]
  refine LdB.fn (o := 3) nd (by omega) rfl (LdB.fn (o := 4) nd (by omega) rfl (LdB.fn (o := 5) nd (by omega) rfl (Pn.mk ?_)))
  simp only [add_mk, Nat.zero_add]
  refine LdI.fn (o := 6) nd (by omega) rfl (LdI.fn (o := 7) nd (by omega) rfl (LdI.fn (o := 8) nd (by omega) rfl (Pn.mk ?_)))
  simp only [add_mk, Nat.zero_add]
  refine LdI.fn (o := 9) nd (by omega) rfl (LdI.fn (o := 10) nd (by omega) rfl (LdI.fn (o := 11) nd (by omega) rfl (New.mk fun b w2 hb hs2 ob he2 => ?_)))
  exact hR v b w2 (he2.own (Own.drew ov) (by simp)) ob (E1.trans he2)
theorem nmAt_ok {i : Int} {R : Int → ByteArray → Int → World → Prop} (h : NMod w lo p kp s q me M n) (hk : LogOk n.Y.L) (hi : -9223372036854775808 ≤ i ∧ i ≤ 9223372036854775807) (hR : ∀ w', Ext [] w w' → R (atL n.Y.L i).1.1 (atL n.Y.L i).1.2 (atL n.Y.L i).2 w') : nodem_Node_At.Call (some ⟨p, 0, none⟩) i w R := by
  apply nodem_Node_At.sound
  unfold nodem_Node_At.B0
  refine New.mk fun b4 w1 hb hs1 ob he1 => Pn.mk ?_
  have h1 := h.ext0 he1
  refine h1.nd.ldS (mat_ok h1.mr hk hi fun w2 he2 => ?_)
  have ob2 := he2.own ob (by simp)
  refine Sts.full ob2 rfl rfl fun w3 hs3 o3 he3 => LdI.mk o3 rfl (LdS.mk o3 rfl (hR w3 ((he1.trans he2).trans' he3 (fun y hy hl => by simp at hy; omega))))
theorem nmTermAt_ok {i : Int} {R : Int → Int → World → Prop} (h : NMod w lo p kp s q me M n) (hk : LogOk n.Y.L) (hi : -9223372036854775808 ≤ i ∧ i ≤ 9223372036854775807) (hR : ∀ w', Ext [] w w' → R (termL n.Y.L i).1 (termL n.Y.L i).2 w') : nodem_Node_TermAt.Call (some ⟨p, 0, none⟩) i w R := by
  apply nodem_Node_TermAt.sound
  unfold nodem_Node_TermAt.B0
  exact Pn.mk (h.nd.ldS (mtermAt_ok h.mr hk hi fun w2 he2 => hR w2 he2))
theorem nmLen_ok {R : Int → World → Prop} (h : NMod w lo p kp s q me M n) (hR : R (n.kv.A.length : Int) w) : nodem_Node_Len.Call (some ⟨p, 0, none⟩) w R := by
  apply nodem_Node_Len.sound
  unfold nodem_Node_Len.B0
  exact Pn.mk (h.nd.ldK (modLen_ok h.kv hR))
theorem nmKeyAt_ok {i : Int} {R : ByteArray → World → Prop} (h : NMod w lo p kp s q me M n) (hl : n.kv.A.length ≤ 4) (hR : R (keyA n.kv.A i) w) : nodem_Node_KeyAt.Call (some ⟨p, 0, none⟩) i w R := by
  apply nodem_Node_KeyAt.sound
  unfold nodem_Node_KeyAt.B0
  exact Pn.mk (h.nd.ldK (modKeyAt_ok h.kv hl hR))
theorem nmVal_ok {kk : ByteArray} {R : ByteArray → Bool → World → Prop} (h : NMod w lo p kp s q me M n) (hk : KvOk n.kv.A n.kv.S) (hR : R ((lookA n.kv.A kk).getD Kv.estr) (lookA n.kv.A kk).isSome w) : nodem_Node_Val.Call (some ⟨p, 0, none⟩) kk w R := by
  apply nodem_Node_Val.sound
  unfold nodem_Node_Val.B0
  exact Pn.mk (h.nd.ldK (modVal_ok h.kv hk hR))
theorem nmSess_ok {c : Int} {R : Int → Int → ByteArray → World → Prop} (h : NMod w lo p kp s q me M n) (hR : ∀ w', Ext [] w w' → R (sessV n.kv.S c).1 (sessV n.kv.S c).2.1 (sessV n.kv.S c).2.2 w') : nodem_Node_Sess.Call (some ⟨p, 0, none⟩) c w R := by
  apply nodem_Node_Sess.sound
  unfold nodem_Node_Sess.B0
  refine New.mk fun b4 w1 hb hs1 ob he1 => Pn.mk ?_
  have h1 := h.ext0 he1
  obtain ⟨q1, q2, q3⟩ := sessV_eq n.kv.S c
  refine h1.nd.ldK (modSess_ok h1.kv fun w2 he2 => ?_)
  rw [q1, q2, q3]
  have ob2 := he2.own ob (by simp)
  refine Sts.full ob2 rfl rfl fun w3 hs3 o3 he3 => LdI.mk o3 rfl (LdS.mk o3 rfl (hR w3 ((he1.trans he2).trans' he3 (fun y hy hl => by simp at hy; omega))))
end
end Go.Proofs.Qxb6500430aGreat
