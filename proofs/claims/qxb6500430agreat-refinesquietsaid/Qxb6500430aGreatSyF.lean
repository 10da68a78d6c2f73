/-
  sync: send, sendAll.
-/
import Derived.Test.Qxb6500430aGreatSyE
set_option linter.unusedVariables false
set_option linter.unusedSimpArgs false
open Go.Vc
namespace Go.Proofs.Qxb6500430aGreat
section
variable {w0 w w' : World} {s l t d e : Nat} {D0 : DiskS} {F0 : List Nat} {N : Int} {L0 : LogS} {X : SyR} {L : LogS} {es : El.ES} {Y : YS} {B : List ME} {S T : List LogS}
theorem Ev.loc {k : Nat} {cs : Array Value} (h : Ev w0 s l t d e D0 F0 N L0 w Y B S) (ho : Own w k cs T_api_Msg) (he : Ext [k] w w') (hk : w0.heap.size ≤ k) : Ev w0 s l t d e D0 F0 N L0 w' Y B S :=
  h.other he (Tys.one ho) (fun q hq => by simp at hq; subst hq; decide) (fun y hy => by simp at hy; omega)
theorem ldMsg {m0 : Nat} {m : MsgV} {b : Option Addr} {ll c : Nat} {T : TypeId} {Q : Int → Int → Int → Int → Int → Int → Int → Bool → Option Addr → Nat → Nat → ByteArray → Prop} (h : Own w m0 (msgC m b ll c).toArray T) (hQ : Q m.kind m.fr m.to m.term m.idx m.lt m.cm m.ok b ll c m.data) :
    LdI .i64 ⟨m0, 0, none⟩ w fun x0 => LdI .i64 ⟨m0, 1, none⟩ w fun x1 => LdI .i64 ⟨m0, 2, none⟩ w fun x2 => LdI .i64 ⟨m0, 3, none⟩ w fun x3 => LdI .i64 ⟨m0, 4, none⟩ w fun x4 => LdI .i64 ⟨m0, 5, none⟩ w fun x5 => LdI .i64 ⟨m0, 6, none⟩ w fun x6 => LdB ⟨m0, 7, none⟩ w fun x7 => LdL ⟨m0, 8, none⟩ w fun x8 x9 x10 => LdS ⟨m0, 9, none⟩ w fun x11 => Q x0 x1 x2 x3 x4 x5 x6 x7 x8 x9 x10 x11 :=
  LdI.mk h rfl (LdI.mk h rfl (LdI.mk h rfl (LdI.mk h rfl (LdI.mk h rfl (LdI.mk h rfl (LdI.mk h rfl (LdB.mk h rfl (LdL.mk h rfl (LdS.mk h rfl hQ)))))))))
theorem fl_one {α : Type} {f : Nat → α} {n : Nat} : (List.range (n + 1)).map f = (List.range n).map f ++ [f n] := by rw [List.range_succ, List.map_append]; rfl
theorem send_ok {p : Nat} {R : World → Prop} (h : Ev w0 s l t d e D0 F0 N L0 w Y B S) (hB : B.length < 3) (hp : p < 3) (hnx : 0 ≤ Y.nx p ∧ Y.nx p ≤ Y.L.last + 1)
    (hR : ∀ b c w', Ev w0 s l t d e D0 F0 N L0 w' Y (B ++ [(sendF p Y, b, c)]) S → ExtT w w' CT → R w') : sync_Sync_send.Call (some ⟨s, 0, none⟩) (p : Int) w R := by
  apply sync_Sync_send.sound
  unfold sync_Sync_send.B0
  obtain ⟨bx, v⟩ := h.vw
  have hsz := h.sz
  have hlast : Y.L.base + (Y.L.ents.length : Int) ≤ 72057594037927936 := v.ok.last
  have hbase := v.ok.base
  have hl9 : Y.L.last = Y.L.base + (Y.L.ents.length : Int) := rfl
  refine v.eId (v.eTerm (v.cBase (Pn.mk ⟨⟨by omega, by omega⟩, v.own.ldNx hp (NewSet.mk rfl rfl fun m0 w2 hm0 hs2 om2 he2 => ?_)⟩)))
  have h2 := h.ext0 he2
  have x2 : ExtT w w2 CT := ExtT.nil he2 _
  have mg : w0.heap.size ≤ m0 := by omega
  show Bm (decide (Y.nx p ≤ Y.L.base)) _ _
  by_cases c0 : Y.nx p ≤ Y.L.base
  · refine Bm.pos (decide_eq_true c0) ?_
    have em : sendF p Y = ⟨5, Y.e.id, p, Y.e.term, Y.L.base, Y.L.bterm, 0, false, [], Y.L.snap⟩ := by unfold sendF; rw [if_pos c0]
    refine Sts.mk om2 (by simp) rfl fun w3 hs3 om3 he3 => ?_
    have h3 := h2.loc om2 he3 mg
    have x3 := extFresh x2 he3 (by omega)
    refine Sts.mk om3 (by rw [size_putArr]; simp) rfl fun w4 hs4 om4 he4 => ?_
    have h4 := h3.loc om3 he4 mg
    have x4 := extFresh x3 he4 (by omega)
    obtain ⟨b4, v4⟩ := h4.vw
    refine v4.cBaseTerm (Sts.mk om4 (by rw [size_putArr, size_putArr]; simp) rfl fun w5 hs5 om5 he5 => ?_)
    have h5 := h4.loc om4 he5 mg
    have x5 := extFresh x4 he5 (by omega)
    obtain ⟨b5, v5⟩ := h5.vw
    refine v5.cSnap (Sts.mk om5 (by rw [size_putArr, size_putArr, size_putArr]; simp) rfl fun w6 hs6 om6 he6 => ?_)
    have h6 := h5.loc om5 he6 mg
    have x6 := extFresh x5 he6 (by omega)
    have om : Own w6 m0 (msgC ⟨5, Y.e.id, p, Y.e.term, Y.L.base, Y.L.bterm, 0, false, [], Y.L.snap⟩ none 0 0).toArray T_api_Msg := om6
    refine ldMsg om ?_
    refine post_ok (m := ⟨5, Y.e.id, p, Y.e.term, Y.L.base, Y.L.bterm, 0, false, [], Y.L.snap⟩) h6 hB rfl (EA.nil _) (fun k hk => by cases hk) (fun x hx k hk hz => by cases hz) fun w7 h7 x7 => hR none 0 w7 (by rw [em]; exact h7) (x6.trans x7)
  · refine Bm.neg (decide_eq_false c0) ?_
    refine Sts.mk om2 (by simp) rfl fun w3 hs3 om3 he3 => ?_
    have h3 := h2.loc om2 he3 mg
    have x3 := extFresh x2 he3 (by omega)
    refine Sts.mk om3 (by rw [size_putArr]; simp) rfl fun w4 hs4 om4 he4 => ?_
    have h4 := h3.loc om3 he4 mg
    have x4 := extFresh x3 he4 (by omega)
    obtain ⟨b4, v4⟩ := h4.vw
    refine Pn.mk (v4.own.ldI (o := 2) (by omega) rfl (Sts.mk om4 (by rw [size_putArr, size_putArr]; simp) rfl fun w5 hs5 om5 he5 => ?_))
    have h5 := h4.loc om4 he5 mg
    have x5 := extFresh x4 he5 (by omega)
    obtain ⟨b5, v5⟩ := h5.vw
    have ew : IntKind.i64.wrap (Y.nx p - 1) = Y.nx p - 1 := w64 (by omega) (by omega)
    have ew' : IntKind.i64.wrap ((syX l e Y bx B.length).nx p - 1) = Y.nx p - 1 := ew
    rw [ew'] at om5 ⊢
    refine v5.cTermAt (by omega) fun w6 he6 => Sts.mk (he6.own om5 (by simp)) (by rw [size_putArr, size_putArr, size_putArr]; simp) rfl fun w7 hs7 om7 he7 => ?_
    have h6 := h5.ext0 he6
    have h7 := h6.loc (he6.own om5 (by simp)) he7 mg
    have x7 := extFresh (x5.trans (ExtT.nil he6 _)) he7 (by omega)
    obtain ⟨b7, v7⟩ := h7.vw
    have om : Own w7 m0 (msgC ⟨3, Y.e.id, p, Y.e.term, Y.nx p - 1, (termL Y.L (Y.nx p - 1)).1, Y.cm, false, [], estr⟩ none 0 0).toArray T_api_Msg := om7
    refine Pn.mk (v7.own.ldI (o := 9) (by omega) rfl ?_)
    have en : IntKind.i64.wrap (IntKind.i64.wrap ((syX l e Y b7 B.length).last - (syX l e Y bx B.length).nx p) + 1) = Y.L.last - Y.nx p + 1 := by
      show IntKind.i64.wrap (IntKind.i64.wrap (Y.L.last - Y.nx p) + 1) = _
      rw [w64 (x := Y.L.last - Y.nx p) (by omega) (by omega), w64 (by omega) (by omega)]
    show Bm (decide (IntKind.i64.wrap (IntKind.i64.wrap ((syX l e Y b7 B.length).last - (syX l e Y bx B.length).nx p) + 1) > 2)) (sync_Sync_send.B1 (some ⟨s, 0, none⟩) (Y.nx p) m0 2 w7 R) (sync_Sync_send.B1 (some ⟨s, 0, none⟩) (Y.nx p) m0 (IntKind.i64.wrap (IntKind.i64.wrap ((syX l e Y b7 B.length).last - (syX l e Y bx B.length).nx p) + 1)) w7 R)
    rw [en]
    have main : ∀ nn : Nat, nn = min 2 (Y.L.last - Y.nx p + 1).toNat → sync_Sync_send.B1 (some ⟨s, 0, none⟩) (Y.nx p) m0 (nn : Int) w7 R := by
      intro nn hnn
      unfold sync_Sync_send.B1
      have em : sendF p Y = ⟨3, Y.e.id, p, Y.e.term, Y.nx p - 1, (termL Y.L (Y.nx p - 1)).1, Y.cm, false, (List.range nn).map (fun k : Nat => (atL Y.L (Y.nx p + (k : Int))).1), estr⟩ := by
        unfold sendF; rw [if_neg c0, hnn]
      refine Bm.ite (fun hpos => ?_) fun hz => ?_
      · refine Make.mk (by omega) (by omega) (by omega) (by omega) fun k w8 hk hs8 o8 he8 => ?_
        rw [Int.toNat_natCast] at o8
        have h8 := h7.ext0 he8
        have om8 := he8.own om (by simp)
        have hz7 := x7.size
        refine Sts.mk om8 (by simp [msgC]) rfl fun w9 hs9 om9 he9 => ?_
        have h9 := h8.loc om8 he9 mg
        have x9 := extFresh (x7.trans (ExtT.nil he8 _)) he9 (by omega)
        have hm0k : m0 ≠ k := by have := om.lt; omega
        have hf9 : Half w9 k nn 2 T_api_Entry [] 0 := (Half.made o8).ext he9 (by simp; omega)
        rw [Int.toNat_natCast] at om9
        have ml : ∀ (E : List EntV), E.length = nn → ∀ {wx : World}, Own wx m0 (putArr (msgC ⟨3, Y.e.id, p, Y.e.term, Y.nx p - 1, (termL Y.L (Y.nx p - 1)).1, Y.cm, false, [], estr⟩ none 0 0).toArray 8 [.slice (some ⟨k, 0, none⟩) nn nn]) T_api_Msg → Own wx m0 (msgC ⟨3, Y.e.id, p, Y.e.term, Y.nx p - 1, (termL Y.L (Y.nx p - 1)).1, Y.cm, false, E, estr⟩ (some ⟨k, 0, none⟩) nn nn).toArray T_api_Msg := fun E hE {wx} ho => ho
        unfold sync_Sync_send.L1
        refine ⟨fun mm s' f' m' n' j w' => ∃ q : Nat, q ≤ nn ∧ mm = nn - q ∧ some ⟨s, 0, none⟩ = s' ∧ Y.nx p = f' ∧ m0 = m' ∧ (nn : Int) = n' ∧ j = (q : Int) ∧ Ev w0 s l t d e D0 F0 N L0 w' Y B S ∧ Own w' m0 (putArr (msgC ⟨3, Y.e.id, p, Y.e.term, Y.nx p - 1, (termL Y.L (Y.nx p - 1)).1, Y.cm, false, [], estr⟩ none 0 0).toArray 8 [.slice (some ⟨k, 0, none⟩) nn nn]) T_api_Msg ∧ Half w' k nn 2 T_api_Entry (((List.range q).map (fun k : Nat => (atL Y.L (Y.nx p + (k : Int))).1)).flatMap entC) q ∧ ExtT w w' CT ∧ w9.heap.size ≤ w'.heap.size, _,
          ⟨0, by omega, rfl, rfl, rfl, rfl, rfl, rfl, h9, om9, hf9, x9, Nat.le_refl _⟩, ?_⟩
        rintro mm s' f' m' n' j wa ⟨q, hq, rfl, rfl, rfl, rfl, rfl, rfl, ha, oma, hfa, xa, za⟩
        unfold sync_Sync_send.L1b
        refine Bm.ite (fun hlt => ?_) fun hge => ?_
        · obtain ⟨ba, va⟩ := ha.vw
          have eq : IntKind.i64.wrap (Y.nx p + (q : Int)) = Y.nx p + (q : Int) := w64 (by omega) (by omega)
          rw [eq]
          refine va.cAt (by omega) fun wb heb => NewSet.mk rfl rfl fun eb wc hec hsc oec hec' => ?_
          have hc := (ha.ext0 heb).ext0 hec'
          have omc := (heb.trans hec').own oma (by simp)
          refine LdL.mk omc rfl (LdI.mk oec rfl (LdS.mk oec rfl (Pn.mk ⟨⟨by omega, by omega⟩, ?_⟩)))
          rw [Int.toNat_natCast, add_mk, Nat.zero_add]
          have hfc := (hfa.ext heb (by simp)).ext hec' (by simp)
          have kd : ∀ x ∈ B, k ∉ rowBlk x.2.1 := fun x hx hk' => by
            have := (h7.bd.dat x hx).lt k hk'
            omega
          refine hfc.put (rc := entC (atL Y.L (Y.nx p + (q : Int))).1) rfl (by omega) rfl fun wd hsd hfd hed => ?_
          obtain ⟨cs, ock⟩ := hfc.ty
          refine ⟨nn - (q + 1), by omega, q + 1, by omega, rfl, rfl, rfl, rfl, rfl, by rw [w64 (by omega) (by omega)]; omega, hc.entry ock hed (by omega) kd, hed.own omc (by simp; omega), ?_, extFresh (xa.trans (ExtT.nil (heb.trans hec') _)) hed (by omega), ?_⟩
          · rw [fl_one, List.flatMap_append]
            simpa using hfd
          · have := heb.size
            have := hec'.size
            omega
        · have hqn : q = nn := by omega
          subst hqn
          have omf := ml ((List.range q).map (fun k : Nat => (atL Y.L (Y.nx p + (k : Int))).1)) (by simp) oma
          refine ldMsg omf ?_
          refine post_ok (m := ⟨3, Y.e.id, p, Y.e.term, Y.nx p - 1, (termL Y.L (Y.nx p - 1)).1, Y.cm, false, (List.range q).map (fun k : Nat => (atL Y.L (Y.nx p + (k : Int))).1), estr⟩) ha hB (by simp) ?_ (fun y hy => by simp [rowBlk] at hy; omega) (fun x hx y hy hyk => ?_) fun wz hz xz => hR _ _ wz (by rw [em]; exact hz) (xa.trans xz)
          · have e1 : ((List.range q).map (fun k : Nat => (atL Y.L (Y.nx p + (k : Int))).1)).length = q := by simp
            show EA wa (some ⟨k, 0, none⟩) ((List.range q).map (fun k : Nat => (atL Y.L (Y.nx p + (k : Int))).1)).length q _
            rw [e1]
            exact hfa.row (by rw [flat_length entC_len, e1])
          · have := (h7.bd.dat x hx).lt y hy
            simp [rowBlk] at hyk
            omega
      · have h0 : nn = 0 := by omega
        subst h0
        refine ldMsg om ?_
        refine post_ok (m := ⟨3, Y.e.id, p, Y.e.term, Y.nx p - 1, (termL Y.L (Y.nx p - 1)).1, Y.cm, false, [], estr⟩) h7 hB rfl (EA.nil _) (fun k hk => by cases hk) (fun x hx k hk hz => by cases hz) fun w8 h8 x8 => hR none 0 w8 (by rw [em]; exact h8) (x7.trans x8)
    refine Bm.ite (fun hgt => ?_) fun hle => ?_
    · exact main 2 (by omega)
    · have := main (Y.L.last - Y.nx p + 1).toNat (by omega)
      rw [show (((Y.L.last - Y.nx p + 1).toNat : Nat) : Int) = Y.L.last - Y.nx p + 1 by omega] at this
      exact this
theorem perPeer_len (Y : YS) (f : Nat → MsgV) : ∀ n, (perPeer Y f n).length ≤ n
  | 0 => by simp [perPeer]
  | n + 1 => by
    have := perPeer_len Y f n
    unfold perPeer
    rw [List.length_append]
    split <;> simp <;> omega
/-- A message to each peer. -/
theorem sendAll_ok {R : World → Prop} (h : Ev w0 s l t d e D0 F0 N L0 w Y [] S) (hnx : ∀ p : Nat, p < 3 → (p : Int) ≠ Y.e.id → 0 ≤ Y.nx p ∧ Y.nx p ≤ Y.L.last + 1)
    (hR : ∀ E w', E.map (·.1) = sendAllF Y → Ev w0 s l t d e D0 F0 N L0 w' Y E S → ExtT w w' CT → R w') : sync_Sync_sendAll.Call (some ⟨s, 0, none⟩) w R := by
  apply sync_Sync_sendAll.sound
  unfold sync_Sync_sendAll.B0
  obtain ⟨bx, v⟩ := h.vw
  refine v.eId ?_
  unfold sync_Sync_sendAll.L1
  refine ⟨fun m s' i' p w' => ∃ (n : Nat) (E : List ME), n ≤ 3 ∧ m = 3 - n ∧ some ⟨s, 0, none⟩ = s' ∧ Y.e.id = i' ∧ p = (n : Int) ∧ E.map (·.1) = perPeer Y (fun p => sendF p Y) n ∧ Ev w0 s l t d e D0 F0 N L0 w' Y E S ∧ ExtT w w' CT, _, ⟨0, [], by omega, rfl, rfl, rfl, rfl, rfl, h, ExtT.refl _ _⟩, ?_⟩
  rintro m s' i' p w' ⟨n, E, hn, rfl, rfl, rfl, rfl, hE, h', x'⟩
  unfold sync_Sync_sendAll.L1b sync_Sync_sendAll.B1
  refine Bm.ite (fun hlt => ?_) fun hge => ?_
  · have hl : E.length < 3 := by
      have := perPeer_len Y (fun p => sendF p Y) n
      rw [← hE, List.length_map] at this
      omega
    by_cases c : (n : Int) = Y.e.id
    · refine Bm.neg (by simpa using c) ⟨3 - (n + 1), by omega, n + 1, E, by omega, rfl, rfl, rfl, by rw [w64 (by omega) (by omega)]; omega, ?_, h', x'⟩
      show _ = perPeer Y _ n ++ _
      rw [if_pos c, List.append_nil]
      exact hE
    · refine Bm.pos (by simpa using c) (send_ok h' hl (by omega) (hnx n (by omega) c) fun b cc w2 h2 x2 => ⟨3 - (n + 1), by omega, n + 1, E ++ [(sendF n Y, b, cc)], by omega, rfl, rfl, rfl, by rw [w64 (by omega) (by omega)]; omega, ?_, h2, x'.trans x2⟩)
      show _ = perPeer Y _ n ++ _
      rw [if_neg c, List.map_append, hE]
      rfl
  · have : n = 3 := by omega
    subst this
    exact hR E w' hE h' x'
end
end Go.Proofs.Qxb6500430aGreat
