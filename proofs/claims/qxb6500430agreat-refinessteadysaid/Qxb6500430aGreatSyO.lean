/-
  sync: the model's send, sendAll, advance.
-/
import Derived.Test.Qxb6500430aGreatSyN
set_option linter.unusedVariables false
set_option linter.unusedSimpArgs false
open Go.Vc
namespace Go.Proofs.Qxb6500430aGreat
section
variable {w0 w w' : World} {s q e : Nat} {M0 M M' : MSt} {L0 : LogS} {Y : YS} {S T : List LogS}
theorem Mv.loc {k : Nat} {cs : Array Value} (h : Mv w0 s q e M0 L0 w Y S) (ho : Own w k cs T_api_Msg) (he : Ext [k] w w') (hk : w0.heap.size ≤ k) : Mv w0 s q e M0 L0 w' Y S :=
  h.other he (Tys.one ho) (fun q hq => by simp at hq; subst hq; decide) (fun y hy => by simp at hy; omega)
abbrev RM := Int → Int → Int → Int → Int → Int → Int → Bool → Option Addr → Nat → Nat → ByteArray → World → Prop
theorem retMsg {m0 t4 : Nat} {m : MsgV} {b : Option Addr} {l c : Nat} {T T2 : TypeId} {cs : Array Value} {R : RM} (om : Own w m0 (msgC m b l c).toArray T) (ot : Own w t4 cs T2) (hs : cs.size = 10) (hR : ∀ w', Ext [t4] w w' → R m.kind m.fr m.to m.term m.idx m.lt m.cm m.ok b l c m.data w') :
    LdI .i64 ⟨m0, 0, none⟩ w fun x127_0 => LdI .i64 ⟨m0, 1, none⟩ w fun x127_1 => LdI .i64 ⟨m0, 2, none⟩ w fun x127_2 => LdI .i64 ⟨m0, 3, none⟩ w fun x127_3 => LdI .i64 ⟨m0, 4, none⟩ w fun x127_4 => LdI .i64 ⟨m0, 5, none⟩ w fun x127_5 => LdI .i64 ⟨m0, 6, none⟩ w fun x127_6 => LdB ⟨m0, 7, none⟩ w fun x127_7 => LdL ⟨m0, 8, none⟩ w fun x127_8_b x127_8_l x127_8_c => LdS ⟨m0, 9, none⟩ w fun x127_9 =>
    Sts [.int .i64 x127_0, .int .i64 x127_1, .int .i64 x127_2, .int .i64 x127_3, .int .i64 x127_4, .int .i64 x127_5, .int .i64 x127_6, .bool x127_7, .slice x127_8_b x127_8_l x127_8_c, .string x127_9] ⟨t4, 0, none⟩ 0 w fun w7 =>
    LdI .i64 ⟨t4, 0, none⟩ w7 fun r_0 => LdI .i64 ⟨t4, 1, none⟩ w7 fun r_1 => LdI .i64 ⟨t4, 2, none⟩ w7 fun r_2 => LdI .i64 ⟨t4, 3, none⟩ w7 fun r_3 => LdI .i64 ⟨t4, 4, none⟩ w7 fun r_4 => LdI .i64 ⟨t4, 5, none⟩ w7 fun r_5 => LdI .i64 ⟨t4, 6, none⟩ w7 fun r_6 => LdB ⟨t4, 7, none⟩ w7 fun r_7 => LdL ⟨t4, 8, none⟩ w7 fun r_8_b r_8_l r_8_c => LdS ⟨t4, 9, none⟩ w7 fun r_9 => R r_0 r_1 r_2 r_3 r_4 r_5 r_6 r_7 r_8_b r_8_l r_8_c r_9 w7 := by
  refine ldMsg om (Sts.full (vs := msgC m b l c) ot (by rw [hs]; rfl) rfl fun w7 hs7 o7 he7 => ldMsg (T := T2) o7 (hR w7 he7))
theorem msend_ok {p : Nat} {R : RM} (h : Mv w0 s q e M0 L0 w Y S) (hp : p < 3) (hnx : 0 ≤ Y.nx p ∧ Y.nx p ≤ Y.L.last + 1)
    (hR : ∀ b c w', EA w' b (sendF p Y).ents.length c (sendF p Y).ents → (∀ k ∈ rowBlk b, w.heap.size ≤ k) → Mv w0 s q e M0 L0 w' Y S → Ext [] w w' → R (sendF p Y).kind (sendF p Y).fr (sendF p Y).to (sendF p Y).term (sendF p Y).idx (sendF p Y).lt (sendF p Y).cm (sendF p Y).ok b (sendF p Y).ents.length c (sendF p Y).data w') : syncm_Sync_send.Call (some ⟨s, 0, none⟩) (p : Int) w R := by
  apply syncm_Sync_send.sound
  unfold syncm_Sync_send.B0
  have hsz := h.sz
  have hlast : Y.L.base + (Y.L.ents.length : Int) ≤ 72057594037927936 := h.ok.last
  have hbase := h.ok.base
  have hl9 : Y.L.last = Y.L.base + (Y.L.ents.length : Int) := rfl
  have ix : (0 : Int) ≤ (p : Int) ∧ (p : Int) < ((3 : Nat) : Int) := ⟨by omega, by omega⟩
  refine New.mk fun t4 w1 ht4 hs1 ot1 he1 => ?_
  have h1 := h.ext0 he1
  refine h1.eId (h1.eTerm (h1.cBase (h1.cLast (NewSet.mk rfl rfl fun m0 w2 hm0 hs2 om2 he2 => ?_))))
  have E2 : Ext [] w w2 := (he1.trans (Ext.drew _ _)).trans he2
  have ot2 : Own w2 t4 _ T_api_Msg := he2.own (Own.drew ot1) (by simp)
  have h2 := h.ext0 E2
  have zd : w1.drew.heap.size = w1.heap.size := rfl
  have mg : w0.heap.size ≤ m0 := by omega
  have tlt := ot1.lt
  refine Pn.mk ⟨ix, h2.own.ldNx hp ?_⟩
  show Bm (decide (Y.nx p ≤ Y.L.base)) _ _
  by_cases c0 : Y.nx p ≤ Y.L.base
  · refine Bm.pos (decide_eq_true c0) ?_
    have em : sendF p Y = ⟨5, Y.e.id, p, Y.e.term, Y.L.base, Y.L.bterm, 0, false, [], Y.L.snap⟩ := by unfold sendF; rw [if_pos c0]
    rw [em] at hR
    refine h2.cBaseTerm (h2.cSnap (Sts.mk om2 (by simp) rfl fun w3 hs3 om3 he3 => Sts.mk om3 (by rw [size_putArr]; simp) rfl fun w4 hs4 om4 he4 => Sts.mk om4 (by rw [size_putArr, size_putArr]; simp) rfl fun w5 hs5 om5 he5 => Sts.mk om5 (by rw [size_putArr, size_putArr, size_putArr]; simp) rfl fun w6 hs6 om6 he6 => ?_))
    have om : Own w6 m0 (msgC ⟨5, Y.e.id, p, Y.e.term, Y.L.base, Y.L.bterm, 0, false, [], Y.L.snap⟩ none 0 0).toArray T_api_Msg := om6
    have e26 : Ext [m0] w2 w6 := ((he3.trans he4).trans he5).trans he6
    have ot6 := e26.own ot2 (by simp; omega)
    have h6 := h2.loc om2 e26 mg
    refine retMsg om ot6 rfl fun w7 he7 => ?_
    have E7 : Ext [] w w7 := (E2.trans' e26 (fun y hy hl => by simp at hy; omega)).trans' he7 (fun y hy hl => by simp at hy; omega)
    exact hR none 0 w7 (EA.nil _) (fun k hk => by cases hk) (h6.loc ot6 he7 (by omega)) E7
  · refine Bm.neg (decide_eq_false c0) ?_
    have h2d := h2.ext0 (Ext.drew [] w2)
    have om2d : Own w2.drew m0 _ T_api_Msg := om2
    have ot2d : Own w2.drew t4 _ T_api_Msg := ot2
    have hown := h2d.own
    have slt := hown.lt
    have smne : s ≠ m0 := Own.ne_type hown om2d (by decide)
    refine Pn.mk ⟨ix, hown.ldNx hp (Pn.mk (hown.ldC (Sts.mk om2d (by simp) rfl fun w3 hs3 om3 he3 => ?_)))⟩
    have h3 := h2d.loc om2d he3 mg
    have cellC : ∀ {wx : World}, SmAt wx s (smX q e Y) → wx.cell? (Addr.add ⟨s, 0, none⟩ 2) = some (.int .i64 Y.cm) := fun {wx} ho => by
      rw [add_mk]
      exact Own.cell ho (by rw [fnArr_get _ (by omega)]; rfl)
    refine ⟨cellC h3.own, ?_, ?_⟩
    · rw [adk]
      exact Own.cell h3.own (by rw [fnArr_get _ (by omega), smF_nx hp])
    have ew : IntKind.i64.wrap ((smX q e Y).nx p - 1) = Y.nx p - 1 := w64 (by show -9223372036854775808 ≤ Y.nx p - 1; omega) (by show Y.nx p - 1 ≤ 9223372036854775807; omega)
    rw [ew]
    refine Sts.mk om3 (by rw [size_putArr]; simp) rfl fun w4 hs4 om4 he4 => ?_
    have h4 := h3.loc om3 he4 mg
    refine ⟨cellC h4.own, Sts.mk om4 (by rw [size_putArr, size_putArr]; simp) rfl fun w5 hs5 om5 he5 => ?_⟩
    have h5 := h4.loc om4 he5 mg
    have h5d := h5.ext0 (Ext.drew [] w5)
    have om5d : Own w5.drew m0 _ T_api_Msg := om5
    obtain ⟨M5, h5x⟩ := h5d
    refine Pn.mk (h5x.own.ldL (LdI.mk om5d rfl (mTermAt_ok (by omega) h5x.md h5x.A h5x.ok fun w6 he6 => Sts.mk (he6.own om5d (by simp)) (by rw [size_putArr, size_putArr, size_putArr]; simp) rfl fun w7 hs7 om7 he7 => ?_)))
    have h6 : Mv w0 s q e M0 L0 w6 Y S := (h5.ext0 (Ext.drew [] w5)).ext0 he6
    have h7 := h6.loc (he6.own om5d (by simp)) he7 mg
    have om : Own w7 m0 (msgC ⟨3, Y.e.id, p, Y.e.term, Y.nx p - 1, (termL Y.L (Y.nx p - 1)).1, Y.cm, false, [], estr⟩ none 0 0).toArray T_api_Msg := om7
    have e27 : Ext [m0] w2.drew w7 := ((he3.trans he4).trans he5).trans (((Ext.drew _ _).trans he6.nil).trans he7)
    have ot7 := e27.own ot2d (by simp; omega)
    have E7 : Ext [] w w7 := (E2.trans (Ext.drew _ _)).trans' e27 (fun y hy hl => by simp at hy; omega)
    refine Pn.mk ⟨ix, h7.own.ldNx hp ?_⟩
    show syncm_Sync_send.L1 (some ⟨s, 0, none⟩) (p : Int) t4 Y.L.last m0 (Y.nx p) w7 R
    obtain ⟨nn, hnn⟩ : ∃ nn, nn = min 2 (Y.L.last - Y.nx p + 1).toNat := ⟨_, rfl⟩
    have em : sendF p Y = ⟨3, Y.e.id, p, Y.e.term, Y.nx p - 1, (termL Y.L (Y.nx p - 1)).1, Y.cm, false, (List.range nn).map (fun k : Nat => (atL Y.L (Y.nx p + (k : Int))).1), estr⟩ := by
      unfold sendF; rw [if_neg c0, hnn]
    rw [em] at hR
    have hz7 := E7.size
    unfold syncm_Sync_send.L1
    refine ⟨fun mm s' p' t' la' m' i w' => ∃ (j : Nat) (b : Option Addr) (c : Nat), j ≤ nn ∧ mm = nn - j ∧ some ⟨s, 0, none⟩ = s' ∧ (p : Int) = p' ∧ t4 = t' ∧ Y.L.last = la' ∧ m0 = m' ∧ i = Y.nx p + (j : Int) ∧ Mv w0 s q e M0 L0 w' Y S ∧ Own w' m0 (msgC ⟨3, Y.e.id, p, Y.e.term, Y.nx p - 1, (termL Y.L (Y.nx p - 1)).1, Y.cm, false, [], estr⟩ b j c).toArray T_api_Msg ∧ EA w' b j c ((List.range j).map (fun k : Nat => (atL Y.L (Y.nx p + (k : Int))).1)) ∧ (∀ k ∈ rowBlk b, w.heap.size ≤ k) ∧ (∃ cs, Own w' t4 cs T_api_Msg ∧ cs.size = 10) ∧ Ext [] w w', _,
      ⟨0, none, 0, by omega, rfl, rfl, rfl, rfl, rfl, rfl, by omega, h7, om, EA.nil _, (fun k hk => (by cases hk)), ⟨_, ot7, rfl⟩, E7⟩, ?_⟩
    rintro mm s' p' t' la' m' i wa ⟨j, b, c, hj, rfl, rfl, rfl, rfl, rfl, rfl, rfl, ha, oma, hea, hba, ⟨cst, ota, hct⟩, Ea⟩
    unfold syncm_Sync_send.L1b
    have fin : j = nn → ∀ N1, syncm_Sync_send.B1 (some ⟨s, 0, none⟩) (p : Int) t4 Y.L.last m0 (Y.nx p + (j : Int)) false wa N1 R := fun hjn N1 => by
      subst hjn
      unfold syncm_Sync_send.B1
      refine Bm.neg rfl (retMsg oma ota hct fun wb heb => ?_)
      have hl : ((List.range j).map (fun k : Nat => (atL Y.L (Y.nx p + (k : Int))).1)).length = j := by simp
      have := hR b c wb
      simp only [hl] at this
      refine this (Row.ext hea heb (fun k hk hx => ?_)) hba (ha.loc ota heb (by omega)) (Ea.trans' heb (fun y hy hlt => by simp at hy; omega))
      simp at hx
      obtain ⟨cs', ok'⟩ := Row.ty hea hk
      rw [hx] at ok'
      exact Own.ne_type ok' ota (by decide) rfl
    refine Bm.ite (fun hle => Pn.mk ⟨ix, ha.own.ldNx hp ?_⟩) fun hgt => fin (by omega) _
    show syncm_Sync_send.B1 (some ⟨s, 0, none⟩) (p : Int) t4 Y.L.last m0 (Y.nx p + (j : Int)) (decide (Y.nx p + (j : Int) < IntKind.i64.wrap (Y.nx p + 2))) wa _ R
    rw [w64 (x := Y.nx p + 2) (by omega) (by omega)]
    by_cases cj : Y.nx p + (j : Int) < Y.nx p + 2
    rotate_left
    · rw [decide_eq_false cj]
      exact fin (by omega) _
    rw [decide_eq_true cj]
    unfold syncm_Sync_send.B1
    refine Bm.pos rfl (ha.cAt (by omega) fun wb heb => NewSet.mk rfl rfl fun eb wc hec hsc oec hec' => ?_)
    have Ebc := heb.trans hec'
    refine LdL.mk (Ebc.own oma (by simp)) rfl (LdI.mk oec rfl (LdS.mk oec rfl (New.mk fun nb wd hnb hsd ond hed => ?_)))
    have Ebd := Ebc.trans hed
    have had := ha.ext0 Ebd
    have omd := Ebd.own oma (by simp)
    have head : EA wd b j c ((List.range j).map (fun k : Nat => (atL Y.L (Y.nx p + (k : Int))).1)) := Row.ext hea Ebd (fun _ _ z => by cases z)
    refine Vc.Append.mk (e := T_api_Entry) (news := entC (atL Y.L (Y.nx p + (j : Int))).1) head (CellsAt.own ond (fun j v hj => by simpa [entC] using hj)) rfl rfl rfl (by omega) (by omega) fun b' c' we hre hee hbe => ?_
    have hTe := Tys.row head
    have hae := had.other hee hTe (fun q hq => by simp at hq; subst hq; decide) (fun y hy => by have := hba y hy; omega)
    have ome := ownT hee hTe omd (by decide)
    refine Sts.mk ome (by simp [msgC]) rfl fun wf hsf omf hef => ?_
    have z1 := Ea.size
    have z2 := Ebd.size
    have hm0e : ∀ k ∈ rowBlk b', k ≠ m0 := fun k hk e => by
      obtain ⟨cs', ok'⟩ := Row.ty hre hk
      rw [e] at ok'
      exact Own.ne_type ok' ome (by decide) rfl
    refine ⟨nn - (j + 1), by omega, j + 1, b', c', by omega, rfl, rfl, rfl, rfl, rfl, rfl, by rw [w64 (by omega) (by omega)]; omega, hae.loc ome hef mg, omf, ?_, fun k hk => ?_, ⟨cst, ?_, hct⟩, ?_⟩
    · show Row wf b' (j + 1) c' 2 T_api_Entry _
      rw [fl_one, List.flatMap_append]
      refine Row.ext ?_ hef (fun k hk hx => by simp at hx; exact hm0e k hk hx)
      simpa using hre
    · rcases hbe k hk with z | z
      · exact hba k z
      · omega
    · exact hef.own (ownT hee hTe (Ebd.own ota (by simp)) (by decide)) (by simp; omega)
    · exact ((Ea.trans Ebd).trans' hee (fun y hy hlt => by have := hba y hy; omega)).trans' hef (fun y hy hlt => by simp at hy; omega)
/-- A message out of send, laid into a list. -/
theorem pushMsg {m : MsgV} {b mb : Option Addr} {l c mc lo : Nat} {E : List ME} {K : Option Addr → Nat → World → Prop} (h : ML w b l c lo E) (hd : EA w mb m.ents.length mc m.ents) (hg : ∀ k ∈ rowBlk mb, lo ≤ k) (hap : ∀ y ∈ E, ∀ k ∈ rowBlk y.2.1, k ∉ rowBlk mb) (hl : l ≤ 50) (hlo : lo ≤ w.heap.size)
    (hK : ∀ b' c' w', ML w' b' (l + 1) c' lo (E ++ [(m, mb, mc)]) → Ext (rowBlk b) w w' → Tys w (rowBlk b) [T_api_Msg] → K b' c' w') :
    New (.cells #[.int .i64 0, .int .i64 0, .int .i64 0, .int .i64 0, .int .i64 0, .int .i64 0, .int .i64 0, .bool false, .slice none 0 0, .string (ByteArray.mk #[])] T_api_Msg) w fun m0_ w2 =>
      Sts [.int .i64 m.kind, .int .i64 m.fr, .int .i64 m.to, .int .i64 m.term, .int .i64 m.idx, .int .i64 m.lt, .int .i64 m.cm, .bool m.ok, .slice mb m.ents.length mc, .string m.data] ⟨m0_, 0, none⟩ 0 w2 fun w3 =>
      LdI .i64 ⟨m0_, 0, none⟩ w3 fun x23_0 => LdI .i64 ⟨m0_, 1, none⟩ w3 fun x23_1 => LdI .i64 ⟨m0_, 2, none⟩ w3 fun x23_2 => LdI .i64 ⟨m0_, 3, none⟩ w3 fun x23_3 => LdI .i64 ⟨m0_, 4, none⟩ w3 fun x23_4 => LdI .i64 ⟨m0_, 5, none⟩ w3 fun x23_5 => LdI .i64 ⟨m0_, 6, none⟩ w3 fun x23_6 => LdB ⟨m0_, 7, none⟩ w3 fun x23_7 => LdL ⟨m0_, 8, none⟩ w3 fun x23_8_b x23_8_l x23_8_c => LdS ⟨m0_, 9, none⟩ w3 fun x23_9 =>
      New (.cells #[.int .i64 x23_0, .int .i64 x23_1, .int .i64 x23_2, .int .i64 x23_3, .int .i64 x23_4, .int .i64 x23_5, .int .i64 x23_6, .bool x23_7, .slice x23_8_b x23_8_l x23_8_c, .string x23_9] T_api_Msg) w3 fun b24 w4 =>
      Append T_api_Msg (.agg #[.int .i64 0, .int .i64 0, .int .i64 0, .int .i64 0, .int .i64 0, .int .i64 0, .int .i64 0, .bool false, .slice none 0 0, .string (ByteArray.mk #[])]) 10 104 b l c (some ⟨b24, 0, none⟩) 1 w4 K := by
  refine NewSet.mk rfl rfl fun m0 w3 hm0 hs3 om3 he3 => ?_
  have om : Own w3 m0 (msgC m mb m.ents.length mc).toArray T_api_Msg := om3
  refine ldMsg om (New.mk fun nb w4 hnb hs4 on4 he4 => ?_)
  have E := he3.trans he4
  have on : Own w4 nb (meC (m, mb, mc)).toArray T_api_Msg := on4
  have hz := E.size
  refine ML.push (x := (m, mb, mc)) ⟨Row.ext h.row E (fun _ _ z => by cases z), h.bd.ext E (fun _ _ _ _ z => by cases z), h.blk⟩ on (Row.ext hd E (fun _ _ z => by cases z)) hg hap (by omega) (by omega) fun b' c' w5 ml he hT => hK b' c' w5 ml ((E.nil).trans he) fun k hk hlt => ?_
  obtain ⟨cs, ho⟩ := Row.ty h.row hk
  exact ⟨cs, _, ho, by simp⟩
theorem ML.ext0 {b : Option Addr} {l c lo : Nat} {E : List ME} (h : ML w b l c lo E) (he : Ext [] w w') : ML w' b l c lo E := ⟨Row.ext h.row he (fun _ _ z => by cases z), h.bd.ext he (fun _ _ _ _ z => by cases z), h.blk⟩
theorem ML.extT {b : Option Addr} {l c lo : Nat} {E : List ME} {ts : List TypeId} (h : ML w b l c lo E) (he : ExtT w w' ts) (h1 : T_api_Msg ∉ ts) (h2 : T_api_Entry ∉ ts) : ML w' b l c lo E := ⟨he.row h.row h1, h.bd.extT he h2, h.blk⟩
theorem ML.elt {b : Option Addr} {l c lo : Nat} {E : List ME} (h : ML w b l c lo E) {y : ME} (hy : y ∈ E) {k : Nat} (hk : k ∈ rowBlk y.2.1) : k < w.heap.size := Row.lt (h.bd.dat y hy) k hk
theorem msendAll_ok {R : Option Addr → Nat → Nat → World → Prop} (h : Mv w0 s q e M0 L0 w Y S) (hnx : ∀ p : Nat, p < 3 → (p : Int) ≠ Y.e.id → 0 ≤ Y.nx p ∧ Y.nx p ≤ Y.L.last + 1)
    (hR : ∀ b c E w', E.map (·.1) = sendAllF Y → ML w' b E.length c w.heap.size E → Mv w0 s q e M0 L0 w' Y S → Ext [] w w' → R b E.length c w') : syncm_Sync_sendAll.Call (some ⟨s, 0, none⟩) w R := by
  apply syncm_Sync_sendAll.sound
  unfold syncm_Sync_sendAll.B0
  have hsz := h.sz
  refine h.eId ?_
  unfold syncm_Sync_sendAll.L1
  refine ⟨fun m s' ob ol oc i' p w' => ∃ (n : Nat) (E : List ME), n ≤ 3 ∧ m = 3 - n ∧ some ⟨s, 0, none⟩ = s' ∧ Y.e.id = i' ∧ p = (n : Int) ∧ E.map (·.1) = perPeer Y (fun p => sendF p Y) n ∧ ol = E.length ∧ ML w' ob ol oc w.heap.size E ∧ Mv w0 s q e M0 L0 w' Y S ∧ Ext [] w w', _, ⟨0, [], by omega, rfl, rfl, rfl, rfl, rfl, rfl, ML.nil _ _, h, Ext.refl _ _⟩, ?_⟩
  rintro m s' ob ol oc i' p wa ⟨n, E, hn, rfl, rfl, rfl, rfl, hE, rfl, ml, ha, Ea⟩
  unfold syncm_Sync_sendAll.L1b syncm_Sync_sendAll.B1
  refine Bm.ite (fun hlt => ?_) fun hge => ?_
  · have hl : E.length ≤ n := by
      have := perPeer_len Y (fun p => sendF p Y) n
      rw [← hE, List.length_map] at this
      exact this
    by_cases c : (n : Int) = Y.e.id
    · refine Bm.neg (by simpa using c) ⟨3 - (n + 1), by omega, n + 1, E, by omega, rfl, rfl, rfl, by rw [w64 (by omega) (by omega)]; omega, ?_, rfl, ml, ha, Ea⟩
      show _ = perPeer Y _ n ++ _
      rw [if_pos c, List.append_nil]
      exact hE
    · have za := Ea.size
      refine Bm.pos (by simpa using c) (msend_ok ha (by omega) (hnx n (by omega) c) fun mb mc wb heb hgb hb Eb => pushMsg (ml.ext0 Eb) heb (fun k hk => by have := hgb k hk; omega) (fun y hy k hk hx => ?_) (by omega) (by have := Eb.size; omega) fun b' c' wc ml' hec hT => ?_)
      · have h1 := ml.elt hy hk
        have h2 := hgb k hx
        omega
      · refine ⟨3 - (n + 1), by omega, n + 1, E ++ [(sendF n Y, mb, mc)], by omega, rfl, rfl, rfl, by rw [w64 (by omega) (by omega)]; omega, ?_, by simp, ml', hb.other hec hT (fun q hq => by simp at hq; subst hq; decide) (fun y hy => by have := ml.blk y hy; omega), (Ea.trans Eb).trans' hec (fun y hy hlt => by have := ml.blk y hy; omega)⟩
        show _ = perPeer Y _ n ++ _
        rw [if_neg c, List.map_append, hE]
        rfl
  · have : n = 3 := by omega
    subst this
    exact hR ob oc E wa hE ml ha Ea
theorem madvance_ok {R : World → Prop} (h : Mv w0 s q e M0 L0 w Y S) (hk : Book Y) (hR : ∀ w', Mv w0 s q e M0 L0 w' (advF Y) S → ExtT w w' MT → R w') : syncm_Sync_advance.Call (some ⟨s, 0, none⟩) w R := by
  apply syncm_Sync_advance.sound
  unfold syncm_Sync_advance.B0
  have hlast : Y.L.base + (Y.L.ents.length : Int) ≤ 72057594037927936 := h.ok.last
  have hbase := h.ok.base
  have hl9 : Y.L.last = Y.L.base + (Y.L.ents.length : Int) := rfl
  have hid := hk.id
  have hpm := peerMax_le Y hk
  have hcm := hk.cm
  refine h.eId (h.eTerm (h.cLast ?_))
  unfold syncm_Sync_advance.L1
  refine ⟨fun m s' i' tm' n' w' => ∃ k : Nat, k = m ∧ some ⟨s, 0, none⟩ = s' ∧ Y.e.id = i' ∧ Y.e.term = tm' ∧ n' ≤ Y.L.last ∧ -1 ≤ n' ∧ k = (n' - Y.cm).toNat ∧ (∀ j : Nat, k < j → j ≤ (peerMax Y - Y.cm).toNat → (termL Y.L (Y.cm + (j : Int))).1 ≠ Y.e.term) ∧ Mv w0 s q e M0 L0 w' Y S ∧ ExtT w w' MT, _, ⟨_, rfl, rfl, rfl, rfl, by omega, by omega, rfl, fun j h1 h2 => by omega, h.ext0 (Ext.drew [] w), ExtT.nil (Ext.drew [] w) _⟩, ?_⟩
  rintro m s' i' tm' n' w' ⟨k, rfl, rfl, rfl, rfl, hn, hn0, hkk, hno, h', x'⟩
  have advz : ∀ k : Nat, (∀ j : Nat, k < j → j ≤ (peerMax Y - Y.cm).toNat → (termL Y.L (Y.cm + (j : Int))).1 ≠ Y.e.term) → k ≤ (peerMax Y - Y.cm).toNat → advN Y.L Y.e.term Y.cm (peerMax Y - Y.cm).toNat = advN Y.L Y.e.term Y.cm k := by
    intro k hk1 hk2
    obtain ⟨t, ht⟩ : ∃ t, (peerMax Y - Y.cm).toNat = k + t := ⟨(peerMax Y - Y.cm).toNat - k, by omega⟩
    rw [ht] at hk1 ⊢
    clear ht hk2
    induction t with
    | zero => rfl
    | succ t ih =>
      have st : advN Y.L Y.e.term Y.cm (k + t + 1) = if (termL Y.L (Y.cm + (((k + t : Nat) : Int) + 1))).1 = Y.e.term then Y.cm + (((k + t : Nat) : Int) + 1) else advN Y.L Y.e.term Y.cm (k + t) := rfl
      show advN Y.L Y.e.term Y.cm (k + t + 1) = _
      rw [st, if_neg (by have := hk1 (k + t + 1) (by omega) (by omega); rw [show (((k + t + 1 : Nat) : Int)) = ((k + t : Nat) : Int) + 1 by omega] at this; exact this)]
      exact ih (fun j h1 h2 => hk1 j h1 (by omega))
  unfold syncm_Sync_advance.L1b
  refine Pn.mk (h'.own.ldC (Bm.ite (fun hgt => ?_) fun hle => ?_))
  · have hgt' : n' > Y.cm := hgt
    obtain ⟨k1, rfl⟩ : ∃ k1, k = k1 + 1 := ⟨k - 1, by omega⟩
    have en : Y.cm + ((k1 + 1 : Nat) : Int) = n' := by omega
    refine h'.cTermAt (by omega) fun w8 he8 => ?_
    have h8 := h'.ext0 he8
    have x8 := x'.trans (ExtT.nil he8 MT)
    -- counting
    let cnt : Nat → Int := fun p => 1 + (if 0 < p ∧ (0 : Int) ≠ Y.e.id ∧ n' ≤ Y.mt 0 then 1 else 0) + (if 1 < p ∧ (1 : Int) ≠ Y.e.id ∧ n' ≤ Y.mt 1 then 1 else 0) + (if 2 < p ∧ (2 : Int) ≠ Y.e.id ∧ n' ≤ Y.mt 2 then 1 else 0)
    have cntS : ∀ p, p < 3 → cnt (p + 1) = cnt p + (if (p : Int) ≠ Y.e.id ∧ n' ≤ Y.mt p then 1 else 0) := fun p hp => by
      have : p = 0 ∨ p = 1 ∨ p = 2 := by omega
      rcases this with rfl | rfl | rfl <;> simp [cnt]
    have cntB : ∀ p, p ≤ 3 → 1 ≤ cnt p ∧ cnt p ≤ 4 := fun p hp => by
      simp only [cnt]
      refine ⟨?_, ?_⟩ <;> (split <;> split <;> split <;> omega)
    have cnt3 : cnt 3 ≥ 2 ↔ n' ≤ peerMax Y := by
      have : Y.e.id = 0 ∨ Y.e.id = 1 ∨ Y.e.id = 2 := by omega
      unfold peerMax
      rcases this with e1 | e1 | e1
      · rw [if_pos e1]
        simp only [cnt, e1]
        have f0 : ¬ ((0 : Nat) < 3 ∧ (0 : Int) ≠ 0 ∧ n' ≤ Y.mt 0) := fun z => z.2.1 rfl
        rw [if_neg f0]
        by_cases a : n' ≤ Y.mt 1
        · rw [if_pos ⟨by omega, by omega, a⟩]
          split <;> omega
        · rw [if_neg (fun z => a z.2.2)]
          by_cases b : n' ≤ Y.mt 2
          · rw [if_pos ⟨by omega, by omega, b⟩]; omega
          · rw [if_neg (fun z => b z.2.2)]; omega
      · rw [if_neg (by omega), if_pos e1]
        simp only [cnt, e1]
        have f0 : ¬ ((1 : Nat) < 3 ∧ (1 : Int) ≠ 1 ∧ n' ≤ Y.mt 1) := fun z => z.2.1 rfl
        rw [if_neg f0]
        by_cases a : n' ≤ Y.mt 0
        · rw [if_pos ⟨by omega, by omega, a⟩]
          split <;> omega
        · rw [if_neg (fun z => a z.2.2)]
          by_cases b : n' ≤ Y.mt 2
          · rw [if_pos ⟨by omega, by omega, b⟩]; omega
          · rw [if_neg (fun z => b z.2.2)]; omega
      · rw [if_neg (by omega), if_neg (by omega)]
        simp only [cnt, e1]
        have f0 : ¬ ((2 : Nat) < 3 ∧ (2 : Int) ≠ 2 ∧ n' ≤ Y.mt 2) := fun z => z.2.1 rfl
        rw [if_neg f0]
        by_cases a : n' ≤ Y.mt 0
        · rw [if_pos ⟨by omega, by omega, a⟩]
          split <;> omega
        · rw [if_neg (fun z => a z.2.2)]
          by_cases b : n' ≤ Y.mt 1
          · rw [if_pos ⟨by omega, by omega, b⟩]; omega
          · rw [if_neg (fun z => b z.2.2)]; omega
    unfold syncm_Sync_advance.L2
    refine ⟨fun mm s'' i'' tm'' n'' t'' hv p w'' => ∃ pn : Nat, pn ≤ 3 ∧ mm = 3 - pn ∧ some ⟨s, 0, none⟩ = s'' ∧ Y.e.id = i'' ∧ Y.e.term = tm'' ∧ n' = n'' ∧ (termL Y.L n').1 = t'' ∧ hv = cnt pn ∧ p = (pn : Int) ∧ w8 = w'', _, ⟨0, by omega, rfl, rfl, rfl, rfl, rfl, rfl, by simp [cnt], rfl, rfl⟩, ?_⟩
    rintro mm s'' i'' tm'' n'' t'' hv p w'' ⟨pn, hpn, rfl, rfl, rfl, rfl, rfl, rfl, rfl, rfl, rfl⟩
    unfold syncm_Sync_advance.L2b
    have cb := cntB pn hpn
    refine Bm.ite (fun hlt => ?_) fun hge => ?_
    · have cs := cntS pn (by omega)
      have step : ∀ bb : Bool, (bb = true ↔ ((pn : Int) ≠ Y.e.id ∧ n' ≤ Y.mt pn)) → ∀ {N1 N2}, N2 (some ⟨s, 0, none⟩) Y.e.id Y.e.term n' (termL Y.L n').1 (cnt (pn + 1)) (IntKind.i64.wrap ((pn : Int) + 1)) w8 → syncm_Sync_advance.B1 (some ⟨s, 0, none⟩) Y.e.id Y.e.term n' (termL Y.L n').1 (cnt pn) (pn : Int) bb w8 N1 N2 R := fun bb hbb {N1 N2} hN => by
        unfold syncm_Sync_advance.B1 syncm_Sync_advance.B3
        cases bb with
        | true =>
          rw [if_pos (hbb.1 rfl)] at cs
          refine Bm.pos rfl ?_
          rw [w64 (x := cnt pn + 1) (by omega) (by omega), ← cs]
          exact hN
        | false =>
          rw [if_neg (fun z => by have := hbb.2 z; cases this), Int.add_zero] at cs
          refine Bm.neg rfl ?_
          rw [← cs]
          exact hN
      have nxt : ∃ m', m' < 3 - pn ∧ ∃ pn_1 : Nat, pn_1 ≤ 3 ∧ m' = 3 - pn_1 ∧ some (⟨s, 0, none⟩ : Addr) = some ⟨s, 0, none⟩ ∧ Y.e.id = Y.e.id ∧ Y.e.term = Y.e.term ∧ n' = n' ∧ (termL Y.L n').1 = (termL Y.L n').1 ∧ cnt (pn + 1) = cnt pn_1 ∧ IntKind.i64.wrap ((pn : Int) + 1) = (pn_1 : Int) ∧ w8 = w8 := ⟨3 - (pn + 1), by omega, pn + 1, by omega, rfl, rfl, rfl, rfl, rfl, rfl, rfl, by rw [w64 (by omega) (by omega)]; omega, rfl⟩
      by_cases c : (pn : Int) = Y.e.id
      · exact Bm.neg (by simpa using c) (step false (by simp [c]) nxt)
      · refine Bm.pos (by simpa using c) (Pn.mk ⟨⟨by omega, by omega⟩, h8.own.ldMt (by omega) ?_⟩)
        show syncm_Sync_advance.B1 _ _ _ _ _ _ _ (decide (Y.mt pn ≥ n')) _ _ _ _
        exact step _ (by simp [c]) nxt
    · have hp3 : pn = 3 := by omega
      subst hp3
      have no : ∀ bb : Bool, bb = false → ¬ ((termL Y.L n').1 = Y.e.term ∧ n' ≤ peerMax Y) → syncm_Sync_advance.B2 (some ⟨s, 0, none⟩) Y.e.id Y.e.term n' bb w8 (fun s' id0' term' n'_1 w'_1 => ∃ m', m' < k1 + 1 ∧ ∃ k : Nat, k = m' ∧ some ⟨s, 0, none⟩ = s' ∧ Y.e.id = id0' ∧ Y.e.term = term' ∧ n'_1 ≤ Y.L.last ∧ -1 ≤ n'_1 ∧ k = (n'_1 - Y.cm).toNat ∧ (∀ j : Nat, k < j → j ≤ (peerMax Y - Y.cm).toNat → (termL Y.L (Y.cm + (j : Int))).1 ≠ Y.e.term) ∧ Mv w0 s q e M0 L0 w'_1 Y S ∧ ExtT w w'_1 MT) R := fun bb hbb hn2 => by
        subst hbb
        unfold syncm_Sync_advance.B2
        refine Bm.neg rfl ⟨k1, by omega, k1, rfl, rfl, rfl, rfl, ?_, ?_, ?_, fun j h1 h2 => ?_, h8, x8⟩
        · rw [w64 (by omega) (by omega)]; omega
        · rw [w64 (by omega) (by omega)]; omega
        · rw [w64 (by omega) (by omega)]; omega
        · by_cases cj : j = k1 + 1
          · subst cj
            rw [en]
            intro ht
            exact hn2 ⟨ht, by omega⟩
          · exact hno j (by omega) h2
      by_cases ct : (termL Y.L n').1 = Y.e.term
      rotate_left
      · exact Bm.neg (by simpa using ct) (no false rfl (fun z => ct z.1))
      refine Bm.pos (by simpa using ct) ?_
      by_cases cm : n' ≤ peerMax Y
      rotate_left
      · exact no _ (decide_eq_false (fun z => cm (cnt3.1 z))) (fun z => cm z.2)
      rw [decide_eq_true (cnt3.2 cm)]
      unfold syncm_Sync_advance.B2
      refine Bm.pos rfl (Pn.mk (h8.own.stCm fun w9 hs9 o9 he9 => ?_))
      have hadv := advz (k1 + 1) hno (by omega)
      have st1 : advN Y.L Y.e.term Y.cm (k1 + 1) = if (termL Y.L (Y.cm + ((k1 : Int) + 1))).1 = Y.e.term then Y.cm + ((k1 : Int) + 1) else advN Y.L Y.e.term Y.cm k1 := rfl
      rw [st1, show Y.cm + ((k1 : Int) + 1) = n' by omega, if_pos ct] at hadv
      obtain ⟨f1, f2⟩ := h8.st (Y' := advF Y) o9 he9 rfl rfl (by unfold advF; rw [hadv]; rfl)
      exact hR w9 f1 (x8.trans f2)
  · have hle' : ¬ (n' > Y.cm) := hle
    have k0 : k = 0 := by omega
    subst k0
    have hadv := advz 0 hno (by omega)
    have ex : advF Y = Y := by
      unfold advF
      rw [hadv]
      rfl
    rw [ex] at hR
    exact hR w' h' x'
end
end Go.Proofs.Qxb6500430aGreat
