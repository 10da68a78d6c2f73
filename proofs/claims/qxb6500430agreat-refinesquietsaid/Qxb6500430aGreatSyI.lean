/-
  sync: MsgOK; repair, accept.
-/
import Derived.Test.Qxb6500430aGreatSyH
set_option linter.unusedVariables false
set_option linter.unusedSimpArgs false
open Go.Vc
namespace Go.Proofs.Qxb6500430aGreat
structure MB (m : MsgV) : Prop where
  kind : 1 ≤ m.kind ∧ m.kind ≤ 5
  fr : 0 ≤ m.fr ∧ m.fr < 3
  to : 0 ≤ m.to ∧ m.to < 3
  term : 0 ≤ m.term ∧ m.term ≤ 72057594037927936
  idx : 0 ≤ m.idx ∧ m.idx ≤ 72057594037927936
  lt : 0 ≤ m.lt ∧ m.lt ≤ 72057594037927936
  cm : 0 ≤ m.cm ∧ m.cm ≤ 72057594037927936
  len : m.ents.length ≤ 2
  data : m.data.size ≤ 128
  ent : ∀ x ∈ m.ents, 0 ≤ x.1 ∧ x.1 ≤ 72057594037927936 ∧ x.2.size ≤ 24
theorem msgB_iff (m : MsgV) : msgB m = true ↔ MB m := by
  unfold msgB
  simp only [Bool.and_eq_true, decide_eq_true_eq, List.all_eq_true]
  constructor
  · rintro ⟨⟨⟨⟨h1, h2⟩, h3⟩, h4⟩, h5⟩
    exact ⟨⟨h1.1, h1.2.1⟩, ⟨h1.2.2.1, h1.2.2.2.1⟩, h1.2.2.2.2, ⟨h2.1, h2.2.1⟩, h2.2.2, ⟨h3.1, h3.2.1⟩, h3.2.2, h4.1, h4.2, h5⟩
  · intro h
    exact ⟨⟨⟨⟨⟨h.kind.1, h.kind.2, h.fr.1, h.fr.2, h.to.1, h.to.2⟩, ⟨h.term.1, h.term.2, h.idx.1, h.idx.2⟩⟩, ⟨h.lt.1, h.lt.2, h.cm.1, h.cm.2⟩⟩, h.len, h.data⟩, h.ent⟩
section
variable {w0 w w' : World} {s l t d e : Nat} {D0 : DiskS} {F0 : List Nat} {N : Int} {L0 : LogS} {X : SyR} {L : LogS} {es : El.ES} {Y : YS} {B : List ME} {S T : List LogS} {m : MsgV} {b : Option Addr} {ll c : Nat}
theorem EA.ext0 {E : List EntV} (h : EA w b ll c E) (he : Ext [] w w') : EA w' b ll c E := Row.ext h he (fun _ _ q => by cases q)
theorem EA.ldD {n : Nat} {E : List EntV} {x : EntV} {Q : ByteArray → Prop} (h : EA w b ll c E) (hx : E[n]? = some x) (hQ : Q x.2) :
    Pn b fun a => (0 ≤ (n : Int) ∧ (n : Int) < (ll : Int)) ∧ LdS ((Addr.add a ((n : Int).toNat * 2)).add 1) w Q := by
  have hl := EA.len h
  have hlt := (List.getElem?_eq_some_iff.1 hx).1
  obtain ⟨k, rfl, cs, ho, hc⟩ := Row.at h (i := n) (by omega) (by omega)
  refine Pn.mk ⟨⟨by omega, by omega⟩, ?_⟩
  simp only [Int.toNat_natCast, add_mk, Nat.zero_add]
  exact LdS.mk ho (by rw [hc 1 (by omega), flat_get entC_len hx (by omega)]; rfl) hQ
theorem msgOK_ok {R : Bool → World → Prop} (hE : EA w b ll c m.ents) (hll : ll ≤ 1000) (hR : ∀ w', Ext [] w w' → R (msgB m) w') : api_MsgOK.Call m.kind m.fr m.to m.term m.idx m.lt m.cm m.ok b ll c m.data w R := by
  apply api_MsgOK.sound
  unfold api_MsgOK.B0
  have hl := EA.len hE
  refine New.mk fun m0 w1 e1 s1 o1 he1 => ?_
  have om : Own w1 m0 (msgC m b ll c).toArray T_api_Msg := o1
  have hE1 := hE.ext0 he1
  have no : ¬ MB m → R false w1 := fun hn => by
    have : msgB m = false := by
      cases hb : msgB m with
      | false => rfl
      | true => exact absurd ((msgB_iff m).1 hb) hn
    have h9 := hR w1 he1
    rw [this] at h9
    exact h9
  have b1 : ¬ MB m → api_MsgOK.B1 m0 true w1 R := fun hn => by unfold api_MsgOK.B1; exact Bm.pos rfl (no hn)
  have b2 : ¬ MB m → api_MsgOK.B2 m0 true w1 R := fun hn => by unfold api_MsgOK.B2; exact Bm.pos rfl (no hn)
  have b3 : ¬ MB m → api_MsgOK.B3 m0 true w1 R := fun hn => by unfold api_MsgOK.B3; exact Bm.pos rfl (no hn)
  have b4 : ¬ MB m → api_MsgOK.B4 m0 true w1 R := fun hn => by unfold api_MsgOK.B4; exact Bm.pos rfl (no hn)
  refine LdI.mk om rfl (Bm.ite (fun q => b1 fun h => by have := h.kind; omega) fun a1 => LdI.mk om rfl (Bm.ite (fun q => b1 fun h => by have := h.kind; omega) fun a2 => LdI.mk om rfl (Bm.ite (fun q => b1 fun h => by have := h.fr; omega) fun a3 => LdI.mk om rfl (Bm.ite (fun q => b1 fun h => by have := h.fr; omega) fun a4 => LdI.mk om rfl (Bm.ite (fun q => b1 fun h => by have := h.to; omega) fun a5 => LdI.mk om rfl ?_)))))
  by_cases a6 : m.to ≥ 3
  · rw [decide_eq_true a6]; exact b1 fun h => by have := h.to; omega
  rw [decide_eq_false a6]
  unfold api_MsgOK.B1
  refine Bm.neg rfl (LdI.mk om rfl (Bm.ite (fun q => b2 fun h => by have := h.term; omega) fun a7 => LdI.mk om rfl (Bm.ite (fun q => b2 fun h => by have := h.term; omega) fun a8 => LdI.mk om rfl (Bm.ite (fun q => b2 fun h => by have := h.idx; omega) fun a9 => LdI.mk om rfl ?_))))
  by_cases a10 : m.idx > 72057594037927936
  · rw [decide_eq_true a10]; exact b2 fun h => by have := h.idx; omega
  rw [decide_eq_false a10]
  unfold api_MsgOK.B2
  refine Bm.neg rfl (LdI.mk om rfl (Bm.ite (fun q => b3 fun h => by have := h.lt; omega) fun a11 => LdI.mk om rfl (Bm.ite (fun q => b3 fun h => by have := h.lt; omega) fun a12 => LdI.mk om rfl (Bm.ite (fun q => b3 fun h => by have := h.cm; omega) fun a13 => LdI.mk om rfl ?_))))
  by_cases a14 : m.cm > 72057594037927936
  · rw [decide_eq_true a14]; exact b3 fun h => by have := h.cm; omega
  rw [decide_eq_false a14]
  unfold api_MsgOK.B3
  refine Bm.neg rfl (LdL.mk om rfl (Bm.ite (fun q => b4 fun h => by have := h.len; omega) fun a15 => LdS.mk om rfl ?_))
  by_cases a16 : ((m.data.size : Nat) : Int) > 128
  · rw [decide_eq_true a16]; exact b4 fun h => by have := h.data; omega
  rw [decide_eq_false a16]
  unfold api_MsgOK.B4
  refine Bm.neg rfl ?_
  unfold api_MsgOK.L1
  refine ⟨fun mm m' i w' => ∃ n : Nat, n ≤ ll ∧ mm = ll - n ∧ m0 = m' ∧ i = (n : Int) ∧ w1 = w' ∧ ∀ x ∈ m.ents.take n, 0 ≤ x.1 ∧ x.1 ≤ 72057594037927936 ∧ x.2.size ≤ 24, _, ⟨0, by omega, rfl, rfl, rfl, rfl, fun x hx => by simp at hx⟩, ?_⟩
  rintro mm m' i w' ⟨n, hn, rfl, rfl, rfl, rfl, ha⟩
  unfold api_MsgOK.L1b
  refine LdL.mk om rfl (Bm.ite (fun hlt => ?_) fun hge => ?_)
  · obtain ⟨x, hx⟩ := get_lt' (L := m.ents) (n := n) (by omega)
    have hxm := List.mem_of_getElem? hx
    refine LdL.mk om rfl (hE1.ldT hx (Bm.ite (fun q => ?_) fun c1 => LdL.mk om rfl (hE1.ldT hx (Bm.ite (fun q => ?_) fun c2 => LdL.mk om rfl (hE1.ldD hx ?_)))))
    · unfold api_MsgOK.B5
      exact Bm.pos rfl (no fun h => by have := h.ent x hxm; omega)
    · unfold api_MsgOK.B5
      exact Bm.pos rfl (no fun h => by have := h.ent x hxm; omega)
    · unfold api_MsgOK.B5
      refine Bm.ite (fun q => no fun h => by have := h.ent x hxm; omega) fun c3 => ⟨ll - (n + 1), by omega, n + 1, by omega, rfl, rfl, by rw [w64 (by omega) (by omega)]; omega, rfl, fun y hy => ?_⟩
      rw [take_succ' hx] at hy
      rcases List.mem_append.1 hy with z | z
      · exact ha y z
      · simp at z
        subst z
        omega
  · have hmb : MB m := ⟨by omega, by omega, by omega, by omega, by omega, by omega, by omega, by omega, by omega, fun x hx => ha x (by rw [List.take_of_length_le (by omega)]; exact hx)⟩
    have h9 := hR w1 he1
    rw [(msgB_iff m).2 hmb] at h9
    exact h9
theorem trunc_len {i : Int} {L : LogS} (hk : LogOk L) : (truncS i L).2.length ≤ 7 := len_trunc hk
theorem repair_ok {i : Int} {k : Nat} {E : List EntV} {R : Int → World → Prop} (h : Ev w0 s l t d e D0 F0 N L0 w Y B S) (hE : EA w b ll c E) (hll : ll ≤ 2) (hk : k ≤ ll) (hi : 1 ≤ i ∧ i ≤ 72057594037927990) (hlog : D0.log.length + 20 * S.length ≤ 300)
    (hR : ∀ w', Ev w0 s l t d e D0 F0 N L0 w' (setL Y (repairF i (E.drop k) Y).2) B (S ++ (repairF i (E.drop k) Y).2) → ExtT w w' CT → R (repairF i (E.drop k) Y).1 w') : sync_Sync_repair.Call (some ⟨s, 0, none⟩) i b ll c (k : Int) w R := by
  apply sync_Sync_repair.sound
  unfold sync_Sync_repair.B0
  have hh := h
  obtain ⟨bx, h, hb⟩ := h
  unfold repairF at hR
  refine Pn.mk (h.own.ldI (o := 9) (by omega) rfl ?_)
  show Bm (decide (i ≤ Y.L.last)) _ _
  by_cases c1 : i ≤ Y.L.last
  · rw [if_pos c1] at hR
    refine Bm.pos (decide_eq_true c1) (Pn.mk (h.own.ldI (o := 2) (by omega) rfl ?_))
    show Bm (decide (i ≤ Y.cm)) _ _
    by_cases c2 : i ≤ Y.cm
    · rw [if_pos c2] at hR
      refine Bm.pos (decide_eq_true c2) ?_
      rw [w64 (by omega) (by omega)]
      exact hR w (by rw [List.append_nil]; exact hh) (ExtT.refl _ _)
    · rw [if_neg c2] at hR
      refine Bm.neg (decide_eq_false c2) (Pn.mk (h.own.ldL ?_))
      rw [show (syX l e Y bx B.length).l = l from rfl]
      obtain ⟨D, F, A, r, p, q, g, z⟩ := h.cor
      refine realTrunc_ok r p (by rw [h.fin]; exact finL_mem _ _) (by omega) fun w1 d1 => ?_
      obtain ⟨h1, x1⟩ := h.did r q g z p d1
      refine refresh_ok h1 fun w2 h2 x2 => ?_
      unfold sync_Sync_repair.B1
      have h2' : Ev w0 s l t d e D0 F0 N L0 w2 (setL Y (truncS i Y.L).2) B (S ++ (truncS i Y.L).2) := ⟨bx, h2, hb⟩
      have hE2 : EA w2 b ll c E := (x1.trans x2).row hE (by decide)
      have tl := trunc_len (i := i) h.vw.ok
      refine repairL_ok h2' hE2 hll hk (by omega) (by rw [List.length_append]; omega) fun w3 h3 x3 => ?_
      have := hR w3 (by
        rw [setL_app, List.append_assoc] at h3
        exact h3) ((x1.trans x2).trans x3)
      exact this
  · rw [if_neg c1] at hR
    refine Bm.neg (decide_eq_false c1) ?_
    unfold sync_Sync_repair.B1
    exact repairL_ok hh hE hll hk (by omega) (by omega) hR
theorem agree_le (L : LogS) : ∀ (E : List EntV) (p : Int), agreeN L p E ≤ E.length
  | [], p => by simp [agreeN]
  | x :: E, p => by
    rw [agreeN_cons]
    have := agree_le L E (p + 1)
    split <;> simp <;> omega
theorem accept_ok {R : Bool → Int → World → Prop} (h : Ev w0 s l t d e D0 F0 N L0 w Y B S) (hE : EA w b ll c m.ents) (hm : MB m) (hlog : D0.log.length + 20 * S.length ≤ 300)
    (hR : ∀ w', Ev w0 s l t d e D0 F0 N L0 w' (acceptF m Y).2.1 B (S ++ (acceptF m Y).2.2) → ExtT w w' CT → R (acceptF m Y).1.1 (acceptF m Y).1.2 w') : sync_Sync_accept.Call (some ⟨s, 0, none⟩) m.kind m.fr m.to m.term m.idx m.lt m.cm m.ok b ll c m.data w R := by
  apply sync_Sync_accept.sound
  unfold sync_Sync_accept.B0
  have hl := EA.len hE
  have hlen := hm.len
  have hidx := hm.idx
  refine New.mk fun m0 w1 e1 s1 o1 he1 => ?_
  have om : Own w1 m0 (msgC m b ll c).toArray T_api_Msg := o1
  have h1 := h.ext0 he1
  have hE1 := hE.ext0 he1
  have x1 : ExtT w w1 CT := ExtT.nil he1 _
  obtain ⟨bx, v⟩ := h1.vw
  unfold acceptF at hR
  refine LdI.mk om rfl (v.cBase (Bm.ite (fun c1 => ?_) fun c1 => Pn.mk (v.own.ldI (o := 9) (by omega) rfl ?_)))
  · rw [if_pos c1] at hR
    exact hR w1 (by rw [List.append_nil]; exact h1) x1
  rw [if_neg c1] at hR
  show Bm (decide (m.idx > Y.L.last)) _ _
  by_cases c2 : m.idx > Y.L.last
  · rw [if_pos c2] at hR
    have vd := v.ext0 (Ext.drew [] w1)
    exact Bm.pos (decide_eq_true c2) (Pn.mk (vd.own.ldI (o := 9) (by omega) rfl (hR _ (by rw [List.append_nil]; exact h1.ext0 (Ext.drew [] w1)) (x1.trans (ExtT.nil (Ext.drew [] w1) _)))))
  rw [if_neg c2] at hR
  refine Bm.neg (decide_eq_false c2) (v.cTermAt (by omega) fun w2 he2 => LdI.mk (he2.own om (by simp)) rfl ?_)
  have h2 := h1.ext0 he2
  have om2 := he2.own om (by simp)
  have hE2 := hE1.ext0 he2
  have x2 := x1.trans (ExtT.nil he2 CT)
  by_cases c3 : (termL Y.L m.idx).1 = m.lt
  rotate_left
  · rw [if_pos c3] at hR
    refine Bm.pos (by simpa using c3) ?_
    by_cases c4 : m.idx = 0
    · rw [if_pos c4] at hR
      exact Bm.pos (by simpa using c4) (hR w2 (by rw [List.append_nil]; exact h2) x2)
    · rw [if_neg c4] at hR
      refine Bm.neg (by simpa using c4) ?_
      rw [w64 (by omega) (by omega)]
      exact hR w2 (by rw [List.append_nil]; exact h2) x2
  rw [if_neg (by simpa using c3)] at hR
  refine Bm.neg (by simpa using c3) (LdL.mk om2 rfl (agree_ok h2 hE2 (by omega) hidx fun w3 he3 => LdL.mk (he3.own om2 (by simp)) rfl ?_))
  have h3 := h2.ext0 he3
  have om3 := he3.own om2 (by simp)
  have hE3 := hE2.ext0 he3
  have x3 := x2.trans (ExtT.nil he3 CT)
  have hag := agree_le Y.L m.ents m.idx
  -- the end: Commit
  have fin : ∀ (r : Int × List LogS) (w4 : World), (if agreeN Y.L m.idx m.ents < m.ents.length then repairF (m.idx + (agreeN Y.L m.idx m.ents : Int) + 1) (m.ents.drop (agreeN Y.L m.idx m.ents)) Y else (m.idx + (agreeN Y.L m.idx m.ents : Int), [])) = r → Ev w0 s l t d e D0 F0 N L0 w4 (setL Y r.2) B (S ++ r.2) → ExtT w3 w4 CT → sync_Sync_accept.B1 (some ⟨s, 0, none⟩) m0 r.1 w4 R := fun r w4 hr h4 x4 => by
    unfold sync_Sync_accept.B1
    simp only [hr] at hR
    have om4 := x4.own om3 (by decide)
    obtain ⟨bx4, h4x, hb4⟩ := h4
    have b2 : ∀ cc : Int, cc = min m.cm r.1 → sync_Sync_accept.B2 (some ⟨s, 0, none⟩) r.1 cc w4 R := fun cc hcc => by
      unfold sync_Sync_accept.B2
      refine Pn.mk (h4x.own.ldI (o := 2) (by omega) rfl ?_)
      show Bm (decide (cc > Y.cm)) _ _
      by_cases c5 : cc > Y.cm
      · refine Bm.pos (decide_eq_true c5) (Pn.mk (h4x.own.stCm fun w5 hs5 o5 he5 => ?_))
        obtain ⟨f1, f2⟩ := Ev.st (Y' := { setL Y r.2 with cm := max Y.cm (min m.cm r.1) }) h4x hb4 o5 he5 rfl rfl (by rw [← hcc, show max Y.cm cc = cc by omega]; rfl)
        exact hR w5 f1 ((x3.trans x4).trans f2)
      · refine Bm.neg (decide_eq_false c5) (hR w4 ⟨bx4, ?_, hb4⟩ (x3.trans x4))
        rw [← hcc, show max Y.cm cc = Y.cm by omega]
        exact h4x
    refine LdI.mk om4 rfl (Bm.ite (fun q => b2 _ (by omega)) fun q => b2 _ (by omega))
  refine Bm.ite (fun c4 => LdL.mk om3 rfl ?_) fun c4 => ?_
  · have ew : IntKind.i64.wrap (IntKind.i64.wrap (m.idx + (agreeN Y.L m.idx m.ents : Int)) + 1) = m.idx + (agreeN Y.L m.idx m.ents : Int) + 1 := by
      rw [w64 (x := m.idx + (agreeN Y.L m.idx m.ents : Int)) (by omega) (by omega), w64 (by omega) (by omega)]
    rw [ew]
    refine repair_ok h3 hE3 (by omega) (by omega) (by omega) hlog fun w4 h4 x4 => fin _ w4 (if_pos (by omega)) h4 x4
  · rw [w64 (by omega) (by omega)]
    exact fin (m.idx + (agreeN Y.L m.idx m.ents : Int), []) w3 (if_neg (by omega)) (by rw [List.append_nil]; exact h3) (ExtT.refl _ _)
end
end Go.Proofs.Qxb6500430aGreat
