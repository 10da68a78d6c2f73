/-
  synclaw: Apart, CopyMsg; what the messages hold.
-/
import Derived.Test.Qxb6500433aGreatSyT
set_option linter.unusedVariables false
set_option linter.unusedSimpArgs false
open Go.Vc
namespace Go.Proofs.Qxb6500433aGreat
/-! ### the messages' entries -/
def EntOk (g : MsgV) : Prop := g.ents.length ≤ 2 ∧ ∀ x ∈ g.ents, 0 ≤ x.1
theorem EntOk.nil {g : MsgV} (h : g.ents = []) : EntOk g := ⟨by rw [h]; simp, fun x hx => by rw [h] at hx; cases hx⟩
theorem at_term {L : LogS} (h : LogOk L) (i : Int) : 0 ≤ (atL L i).1.1 := by
  unfold atL
  split
  · exact Int.le_refl 0
  · rename_i c1
    split
    · exact Int.le_refl 0
    · rename_i c2
      unfold LogS.last at c2
      exact (h.ent _ (List.mem_of_getElem? (getD_some' (show (i - L.base - 1).toNat < L.ents.length by omega)))).1
theorem send_ent {p : Nat} {Y : YS} (h : LogOk Y.L) : EntOk (sendF p Y) := by
  unfold sendF
  split
  · exact EntOk.nil rfl
  · refine ⟨?_, fun x hx => ?_⟩
    · show ((List.range (min 2 (Y.L.last - Y.nx p + 1).toNat)).map _).length ≤ 2
      simp
      omega
    · have hx' : x ∈ (List.range (min 2 (Y.L.last - Y.nx p + 1).toNat)).map (fun k : Nat => (atL Y.L (Y.nx p + (k : Int))).1) := hx
      obtain ⟨k, _, rfl⟩ := List.mem_map.1 hx'
      exact at_term h _
theorem perPeer_ent {Y : YS} {f : Nat → MsgV} (hf : ∀ p, EntOk (f p)) : ∀ n, ∀ g ∈ perPeer Y f n, EntOk g
  | 0 => fun g hg => by cases hg
  | n + 1 => fun g hg => by
    unfold perPeer at hg
    rcases List.mem_append.1 hg with z | z
    · exact perPeer_ent hf n g z
    · split at z
      · cases z
      · simp at z; subst z; exact hf n
theorem sendAll_ent {Y : YS} (h : LogOk Y.L) : ∀ g ∈ sendAllF Y, EntOk g := perPeer_ent (fun p => send_ent h) 3
theorem tick_ent {Y : YS} (h : YsOk Y) : ∀ g ∈ (tickY Y).G, EntOk g := fun g hg => by
  have hL := (tick_inv h).1.L
  unfold tickY at hg hL
  rcases List.mem_append.1 hg with z | z
  · split at z
    · exact sendAll_ent hL g z
    · cases z
  · split at z
    · exact perPeer_ent (fun p => EntOk.nil rfl) 3 g z
    · cases z
theorem one_ent {k p : Int} {ok : Bool} {i : Int} {Y : YS} : ∀ g ∈ [replyF k p ok i Y], EntOk g := fun g hg => by
  simp at hg
  subst hg
  exact EntOk.nil rfl
theorem ite_ent {P : Prop} [Decidable P] {a : MsgV} (h : EntOk a) : ∀ g ∈ (if P then [a] else []), EntOk g := fun g hg => by
  split at hg
  · simp at hg; subst hg; exact h
  · cases hg
theorem step_ent {m : MsgV} {Y : YS} (h : YsOk Y) : ∀ g ∈ (stepY m Y).G, EntOk g := fun g hg => by
  have hinv := (step_inv (m := m) h).1.L
  unfold stepY at hg hinv
  split at hg
  · cases hg
  rename_i c0
  rw [if_neg c0] at hinv
  split at hg
  · exact one_ent g hg
  rename_i c1
  rw [if_neg c1] at hinv
  split at hg
  · rename_i c2
    rw [if_pos c2] at hinv
    unfold voteGotY at hg hinv
    simp only [] at hg hinv
    split at hg
    · rename_i c3
      rw [if_pos c3] at hinv
      exact sendAll_ent hinv g hg
    · cases hg
  rename_i c2
  rw [if_neg c2] at hinv
  split at hg
  · unfold entsY at hg
    simp only [] at hg
    split at hg
    · exact one_ent g hg
    · exact one_ent g hg
  rename_i c3
  rw [if_neg c3] at hinv
  split at hg
  · unfold snapY at hg
    simp only [] at hg
    split at hg
    · split at hg
      · exact one_ent g hg
      · split at hg
        · exact one_ent g hg
        · exact one_ent g hg
    · exact one_ent g hg
  · rename_i c4
    rw [if_neg c4] at hinv
    unfold ackY at hg hinv
    split at hg
    · cases hg
    rename_i c5
    rw [if_neg c5] at hinv
    split at hg
    · cases hg
    rename_i c6
    rw [if_neg c6] at hinv
    split at hg
    · rename_i c7
      rw [if_pos c7] at hinv
      unfold ackedF at hg hinv
      split at hg
      · cases hg
      · rename_i c8
        rw [if_neg c8] at hinv
        exact ite_ent (send_ent hinv) g hg
    · rename_i c7
      rw [if_neg c7] at hinv
      unfold refusedF at hg hinv
      split at hg
      · rename_i c8
        rw [if_pos c8] at hinv
        simp at hg; subst hg; exact send_ent hinv
      · cases hg
theorem repair_len {i : Int} {es : List EntV} {Y : YS} (h : LogOk Y.L) : (repairF i es Y).2.length ≤ 7 + es.length := by
  unfold repairF
  split
  · split
    · simp
    · simp only [List.length_append]
      have h1 := trunc_len (i := i) h
      have h2 := apps_len es (finL Y.L (truncS i Y.L).2)
      omega
  · have h2 := apps_len es Y.L
    simp only []
    omega
theorem accept_len {m : MsgV} {Y : YS} (h : LogOk Y.L) (hm : MB m) : (acceptF m Y).2.2.length ≤ 9 := by
  unfold acceptF
  split
  · simp
  split
  · simp
  split
  · simp
  simp only []
  split
  · have h1 := repair_len (i := m.idx + (agreeN Y.L m.idx m.ents : Int) + 1) (es := m.ents.drop (agreeN Y.L m.idx m.ents)) h
    have h2 := hm.len
    rw [List.length_drop] at h1
    omega
  · simp
theorem step_len {m : MsgV} {Y : YS} (h : YsOk Y) : (stepY m Y).S.length ≤ 12 := by
  unfold stepY
  split
  · simp
  rename_i c0
  have hm : MB m := (msgB_iff m).1 (by simp only [not_or] at c0; simpa using c0.1)
  split
  · have := persS_len { Y with e := (El.askF Y.e m.fr m.term (decide (Y.lastT < m.lt) || (decide (m.lt = Y.lastT) && decide (Y.L.last ≤ m.idx)))).2 }
    unfold voteAskY
    simp only []
    omega
  split
  · unfold voteGotY
    simp only []
    have := persS_len { Y with e := (El.gotF Y.e m.fr m.term m.ok).2 }
    split
    · simp only [List.length_append]
      have := len_append (persF { Y with e := (El.gotF Y.e m.fr m.term m.ok).2 }).e.term estr (persF { Y with e := (El.gotF Y.e m.fr m.term m.ok).2 }).L
      omega
    · simp only []
      omega
  split
  · unfold entsY
    simp only []
    have h1 := persS_len { Y with e := (El.heardF Y.e m.fr m.term).2 }
    obtain ⟨k1, k2, k3⟩ := heard_keep (s := Y.e) (f := m.fr) (t := m.term)
    obtain ⟨p1, p2⟩ := pers_ok h (El.heardF_wf h.e) k1 k2
    split
    · simp only [List.length_append]
      have := accept_len p1.L hm
      omega
    · simp only []
      omega
  split
  · unfold snapY
    simp only []
    have h1 := persS_len { Y with e := (El.heardF Y.e m.fr m.term).2 }
    obtain ⟨k1, k2, k3⟩ := heard_keep (s := Y.e) (f := m.fr) (t := m.term)
    obtain ⟨p1, p2⟩ := pers_ok h (El.heardF_wf h.e) k1 k2
    split
    · split
      · simp only []; omega
      · split
        · simp only [List.length_append]
          have := len_install (idx := m.idx) (tm := m.lt) (sn := m.data) p1.L
          omega
        · simp only []; omega
    · simp only []; omega
  · unfold ackY
    split
    · have := persS_len { Y with e := El.seeF Y.e m.term }
      simp only []; omega
    · split
      · simp
      · split <;> simp
/-! ### Apart -/
section
variable {w w' : World}
theorem marked_ok {b : Option Addr} {l c i : Nat} {E : List ME} {R : Bool → World → Prop} (h : Row w b l c 10 T_api_Msg (E.flatMap meC)) (hl : l ≤ 100) (hd : ∀ (j : Nat) x, j ≠ i → E[j]? = some x → EA w x.2.1 x.1.ents.length x.2.2 x.1.ents ∧ EntOk x.1) (hR : R false w) (hii : ∀ x, E[i]? = some x → x.1.ents.length ≤ 1000) : synclaw_Marked.Call b l c (i : Int) w R := by
  apply synclaw_Marked.sound
  unfold synclaw_Marked.B0 synclaw_Marked.L1
  have h1 := h.1
  have h2 := flat_length meC_len E
  have hlen : E.length = l := by omega
  refine ⟨fun m b' l' c' i' j w' => ∃ n : Nat, n ≤ l ∧ m = l - n ∧ b = b' ∧ l = l' ∧ c = c' ∧ (i : Int) = i' ∧ j = (n : Int) ∧ w = w', _, ⟨0, by omega, rfl, rfl, rfl, rfl, rfl, rfl, rfl⟩, ?_⟩
  rintro m b' l' c' i' j w1 ⟨n, hn, rfl, rfl, rfl, rfl, rfl, rfl, rfl⟩
  unfold synclaw_Marked.L1b
  refine Bm.ite (fun hlt => ?_) fun hge => hR
  by_cases ci : n = i
  · exact Bm.neg (by simp [ci]) ⟨l - (n + 1), by omega, n + 1, by omega, rfl, rfl, rfl, rfl, rfl, by rw [w64 (by omega) (by omega)]; omega, rfl⟩
  refine Bm.pos (by simp; omega) ?_
  obtain ⟨x, hx⟩ := get_lt' (L := E) (n := n) (by omega)
  obtain ⟨hE, hok⟩ := hd n x ci hx
  have hx2 := hok.1
  unfold synclaw_Marked.L2
  refine ⟨fun m b' l' c' i' j k w' => ∃ p : Nat, p ≤ x.1.ents.length ∧ m = x.1.ents.length - p ∧ b = b' ∧ l = l' ∧ c = c' ∧ (i : Int) = i' ∧ (n : Int) = j ∧ k = (p : Int) ∧ w = w', _, ⟨0, by omega, rfl, rfl, rfl, rfl, rfl, rfl, rfl, rfl⟩, ?_⟩
  rintro m b' l' c' i' j k w1 ⟨p, hp, rfl, rfl, rfl, rfl, rfl, rfl, rfl, rfl⟩
  unfold synclaw_Marked.L2b
  refine rowEnts h hx (Bm.ite (fun hlt2 => rowEnts h hx ?_) fun hge2 => ⟨l - (n + 1), by omega, n + 1, by omega, rfl, rfl, rfl, rfl, rfl, by rw [w64 (by omega) (by omega)]; omega, rfl⟩)
  obtain ⟨y, hy⟩ := get_lt' (L := x.1.ents) (n := p) (by omega)
  have hy0 := hok.2 y (List.mem_of_getElem? hy)
  exact hE.ldT hy (Bm.neg (by simp; omega) ⟨x.1.ents.length - (p + 1), by omega, p + 1, by omega, rfl, rfl, rfl, rfl, rfl, rfl, by rw [w64 (by omega) (by omega)]; omega, rfl⟩)
def EB (E : List ME) : List Nat := E.flatMap fun x => rowBlk x.2.1
theorem mem_EB {E : List ME} {k : Nat} : k ∈ EB E ↔ ∃ x ∈ E, k ∈ rowBlk x.2.1 := by unfold EB; exact List.mem_flatMap
/-- One entry laid anew. -/
theorem EA.put {b : Option Addr} {l c n : Nat} {E : List EntV} {x : EntV} {K : World → Prop} (h : EA w b l c E) (hn : n < l)
    (hK : ∀ k w', b = some ⟨k, 0, none⟩ → w'.heap.size = w.heap.size → EA w' b l c (E.set n x) → Ext [k] w w' → K w') : Pn b fun a => (0 ≤ (n : Int) ∧ (n : Int) < (l : Int)) ∧ Sts [.int .i64 x.1, .string x.2] (Addr.add a ((n : Int).toNat * 2)) 0 w K := by
  have hl := EA.len h
  obtain ⟨k, rfl, cs, ho, hc⟩ := Row.at h (i := n) (by omega) (by omega)
  refine Pn.mk ⟨⟨by omega, by omega⟩, ?_⟩
  rw [Int.toNat_natCast, add_mk, Nat.zero_add]
  refine Row.put (news := entC x) h (by show n * 2 + 2 ≤ l * 2; omega) rfl fun w' hs hr he => hK k w' rfl hs ?_ he
  have := flat_set entC_len (L := E) (i := n) (a' := x) (by omega)
  rw [show n * 2 + (entC x).length = n * 2 + 2 from rfl, this] at hr
  exact hr
theorem apart_ok {b : Option Addr} {l c lo : Nat} {E : List ME} {R : Bool → World → Prop} (h : ML w b l c lo E) (hl : l ≤ 100) (hok : ∀ x ∈ E, EntOk x.1) (hR : ∀ w', ML w' b l c lo E → Ext (EB E) w w' → R true w') : synclaw_Apart.Call b l c w R := by
  apply synclaw_Apart.sound
  unfold synclaw_Apart.B0 synclaw_Apart.L1
  have hlen := h.len
  refine ⟨fun m b' l' c' i w' => ∃ n : Nat, n ≤ l ∧ m = l - n ∧ b = b' ∧ l = l' ∧ c = c' ∧ i = (n : Int) ∧ ML w' b l c lo E ∧ Ext (EB E) w w', _, ⟨0, by omega, rfl, rfl, rfl, rfl, rfl, h, Ext.refl _ _⟩, ?_⟩
  rintro m b' l' c' i w1 ⟨n, hn, rfl, rfl, rfl, rfl, rfl, h1, e1⟩
  unfold synclaw_Apart.L1b
  refine Bm.ite (fun hlt => ?_) fun hge => hR w1 h1 e1
  obtain ⟨x, hx⟩ := get_lt' (L := E) (n := n) (by omega)
  have hxm := List.mem_of_getElem? hx
  have hxo := hok x hxm
  have hxl := hxo.1
  unfold synclaw_Apart.L2
  refine ⟨fun m b' l' c' i k w' => ∃ p : Nat, p ≤ x.1.ents.length ∧ m = x.1.ents.length - p ∧ b = b' ∧ l = l' ∧ c = c' ∧ (n : Int) = i ∧ k = (p : Int) ∧ ML w' b l c lo E ∧ Ext (EB E) w w', _, ⟨0, by omega, rfl, rfl, rfl, rfl, rfl, rfl, h1, e1⟩, ?_⟩
  rintro m b' l' c' i k w2 ⟨p, hp, rfl, rfl, rfl, rfl, rfl, rfl, h2, e2⟩
  unfold synclaw_Apart.L2b
  refine rowEnts h2.row hx (Bm.ite (fun hlt2 => rowEnts h2.row hx ?_) fun hge2 => ⟨l - (n + 1), by omega, n + 1, by omega, rfl, rfl, rfl, rfl, by rw [w64 (by omega) (by omega)]; omega, h2, e2⟩)
  obtain ⟨y, hy⟩ := get_lt' (L := x.1.ents) (n := p) (by omega)
  have d2 := h2.bd.dat x hxm
  refine EA.ld d2 hy (NewSet.mk rfl rfl fun kp w3 hkp hs3 okp he3 => ?_)
  have h3 := h2.ext0 he3
  have d3 := h3.bd.dat x hxm
  refine rowEnts h3.row hx (EA.put (x := (-7, ByteArray.mk #[120])) d3 (by omega) fun kx w4 hkx hs4 d4 he4 => ?_)
  have hkxB : kx ∈ EB E := mem_EB.2 ⟨x, hxm, by rw [hkx]; simp [rowBlk]⟩
  have kt : ∃ cs, Own w3 kx cs T_api_Entry := Row.ty d3 (by rw [hkx]; simp [rowBlk])
  obtain ⟨kcs, kown⟩ := kt
  have row4 : Row w4 b l c 10 T_api_Msg (E.flatMap meC) := rowT h3.row he4 (Tys.one kown) (by decide)
  have oth : ∀ {wy : World}, Ext [kx] w3 wy → ∀ (j : Nat) z, j ≠ n → E[j]? = some z → EA wy z.2.1 z.1.ents.length z.2.2 z.1.ents := fun {wy} hey j z hj hz => by
    refine Row.ext (h3.bd.dat z (List.mem_of_getElem? hz)) hey (fun kk hkk hin => ?_)
    simp at hin
    subst hin
    have hkx' : kk ∈ rowBlk x.2.1 := by rw [hkx]; simp [rowBlk]
    have ap := h3.bd.apart
    obtain ⟨hjl, hjz⟩ := List.getElem?_eq_some_iff.1 hz
    obtain ⟨hnl, hnx⟩ := List.getElem?_eq_some_iff.1 hx
    rcases Nat.lt_or_ge j n with q | q
    · have := List.pairwise_iff_getElem.1 ap j n hjl hnl q
      rw [hjz, hnx] at this
      exact this kk hkk hkx'
    · have := List.pairwise_iff_getElem.1 ap n j hnl hjl (by omega)
      rw [hjz, hnx] at this
      exact this kk hkx' hkk
  refine marked_ok (i := n) row4 hl (fun j z hj hz => ⟨oth he4 j z hj hz, hok z (List.mem_of_getElem? hz)⟩) ?_ (fun z hz => by rw [hx] at hz; cases hz; omega)
  have row4d : Row w4.drew b l c 10 T_api_Msg (E.flatMap meC) := Row.ext row4 (Ext.drew [] w4) (fun _ _ z => by cases z)
  have d4d : EA w4.drew x.2.1 x.1.ents.length x.2.2 (x.1.ents.set p (-7, ByteArray.mk #[120])) := Row.ext d4 (Ext.drew [] w4) (fun _ _ z => by cases z)
  have hkne : kp ≠ kx := by
    have := Row.lt d2 kx (by rw [hkx]; simp [rowBlk])
    omega
  have okp4 : Own w4.drew kp #[.int .i64 y.1, .string y.2] T_api_Entry := he4.own okp (by simpa using hkne)
  refine rowEnts row4d hx (LdI.mk okp4 rfl (LdS.mk okp4 rfl (EA.put (x := y) d4d (by omega) fun kx' w5 hkx' hs5 d5 he5 => Bm.neg rfl ?_)))
  have ekk : kx' = kx := by rw [hkx] at hkx'; simpa using hkx'.symm
  subst ekk
  have same : (x.1.ents.set p (-7, ByteArray.mk #[120])).set p y = x.1.ents := by
    rw [List.set_set]
    obtain ⟨q1, q2⟩ := List.getElem?_eq_some_iff.1 hy
    rw [← q2]
    exact List.set_getElem_self q1
  rw [same] at d5
  have e35 : Ext [kx'] w3 w5 := (he4.trans (Ext.drew _ _)).trans he5
  refine ⟨x.1.ents.length - (p + 1), by omega, p + 1, by omega, rfl, rfl, rfl, rfl, rfl, by rw [w64 (by omega) (by omega)]; omega, ⟨rowT h3.row e35 (Tys.one kown) (by decide), ⟨fun z hz => ?_, h3.bd.apart, h3.bd.ge⟩, h3.blk⟩, (e2.trans he3.nil).trans (e35.mono fun y hy _ => by simp at hy; rw [hy]; exact hkxB)⟩
  obtain ⟨j, hj⟩ := List.getElem?_of_mem hz
  by_cases cj : j = n
  · subst cj
    rw [hx] at hj
    cases hj
    exact d5
  · exact oth e35 j z cj hj
theorem copyMsg_ok {m : MsgV} {b : Option Addr} {l c : Nat} {R : RM} (hE : EA w b l c m.ents) (hl : l ≤ 1000) (hR : ∀ k w', w.heap.size ≤ k → EA w' (some ⟨k, 0, none⟩) l l m.ents → Ext [] w w' → R m.kind m.fr m.to m.term m.idx m.lt m.cm m.ok (some ⟨k, 0, none⟩) l l m.data w') : synclaw_CopyMsg.Call m.kind m.fr m.to m.term m.idx m.lt m.cm m.ok b l c m.data w R := by
  apply synclaw_CopyMsg.sound
  unfold synclaw_CopyMsg.B0
  have hlen := EA.len hE
  refine New.mk fun m0 w1 e1 s1 o1 he1 => New.mk fun b2 w2 e2 s2 o2 he2 => ?_
  have om : Own w2 m0 (msgC m b l c).toArray T_api_Msg := he2.own o1 (by simp)
  refine ldMsg om (NewSet.mk rfl rfl fun cc w4 hcc hs4 oc he4 => ?_)
  have om4 := he4.own om (by simp)
  have o24 := he4.own o2 (by simp)
  have oc4 : Own w4 cc (msgC m b l c).toArray T_api_Msg := oc
  refine LdL.mk om4 rfl (Make.mk (by omega) (by omega) (by omega) (by omega) fun k w5 hk hs5 o5 he5 => ?_)
  rw [Int.toNat_natCast] at o5
  have E5 : Ext [] w w5 := ((he1.trans he2).trans he4).trans he5
  have oc5 := he5.own oc4 (by simp)
  have z1 := he1.size
  have z2 := he2.size
  have z4 := he4.size
  refine Sts.mk oc5 (by simp [msgC]) rfl fun w6 hs6 oc6 he6 => ?_
  rw [Int.toNat_natCast] at oc6
  have om6 := he6.own (he5.own om4 (by simp)) (by simp; have := om.lt; omega)
  have clt := oc4.lt
  have o56 := he6.own o5 (by simp; omega)
  have oc6' : Own w6 cc (msgC m (some ⟨k, 0, none⟩) l l).toArray T_api_Msg := oc6
  refine LdL.mk oc6' rfl (LdL.mk om6 rfl ?_)
  have hE6 : EA w6 b l c m.ents := Row.ext (EA.ext0 hE E5) he6 (fun y hy hx => by
    simp at hx
    have := Row.lt hE y hy
    omega)
  have hmk : (madeCells (Value.agg #[.int .i64 0, .string (ByteArray.mk #[])]).cells (l * 2)).size = l * 2 := by simp [madeCells]
  have hcell : CellsAt w6 b (m.ents.flatMap entC) := by
    rcases hE6.2.2 with ⟨hb, hz⟩ | ⟨kk, cs, hb, ho, hsz, ht⟩
    · subst hb
      have : m.ents = [] := List.eq_nil_of_length_eq_zero (by have := hE6.2.1; omega)
      rw [this]
      exact (rfl : ([] : List Value) = [])
    · subst hb
      refine CellsAt.own ho (fun j v hj => ?_)
      rw [← ht, List.getElem?_take] at hj
      split at hj
      · simpa using hj
      · cases hj
  have fl := flat_length entC_len m.ents
  refine Copy.mk (news := m.ents.flatMap entC) o56 hcell (by rw [fl, hlen]; simp) (by rw [fl, hlen, hmk]; exact Nat.le_refl _) ?_ fun w7 hs7 o7 he7 => ?_
  · rw [List.all_eq_true]
    intro v hv
    obtain ⟨en, _, hv2⟩ := List.mem_flatMap.1 hv
    simp [entC] at hv2
    rcases hv2 with rfl | rfl <;> rfl
  rw [putArr_full _ _ (by rw [fl, hlen, hmk])] at o7
  have kne : cc ≠ k := by omega
  have oc7 := he7.own oc6' (by simpa using kne)
  have b2lt := o2.lt
  have o27 := he7.own (he6.own (he5.own o24 (by simp)) (by simp; omega)) (by simp; omega)
  have ea7 : EA w7 (some ⟨k, 0, none⟩) l l m.ents := ⟨by rw [fl, hlen], Nat.le_refl _, .inr ⟨k, _, rfl, o7, by simp [fl, hlen], by rw [List.take_of_length_le]; simp [fl, hlen]⟩⟩
  refine retMsg oc7 o27 rfl fun w8 he8 => hR k w8 (by omega) (Row.ext ea7 he8 (fun y hy hx => by simp [rowBlk] at hy hx; omega)) ?_
  exact ((E5.trans' he6 (fun y hy hlt => by simp at hy; omega)).trans' he7 (fun y hy hlt => by simp at hy; omega)).trans' he8 (fun y hy hlt => by simp at hy; omega)
end
end Go.Proofs.Qxb6500433aGreat
