/-
  nodem: after.
-/
import Derived.Test.Qxb6500430aGreatNdK
set_option linter.unusedVariables false
set_option linter.unusedSimpArgs false
open Go.Vc
namespace Go.Proofs.Qxb6500430aGreat
open Kv
theorem Fr.up {ts : List TypeId} {lo : Nat} {w w1 w2 : World} (h : Fr ts lo w w1) (ha : Above w.heap.size w1 w2) (hlo : lo ≤ w.heap.size) : Fr ts lo w w2 := by
  obtain ⟨Z, hz, hT⟩ := h.ty
  obtain ⟨Z', hz', hg⟩ := ha
  exact ⟨⟨Z, hz.trans' hz' (fun y hy hl => by have := hg y hy; omega), hT⟩, h.ab.trans (Above.of hz' fun y hy => by have := hg y hy; omega)⟩
section
variable {w0 w w' : World} {lo p s kp q me : Nat} {M : MSt} {n n' : NS}
/-- The state amid 'after'. -/
structure MSx (wb w : World) (lo p kp s q me : Nat) (M : MSt) (n : NS) (dd t4 v : Nat) (Yv : YS) (mb : Option Addr) (ml mc lo2 : Nat) (E : List ME) (rb : Option Addr) (rc : Nat) (Rs : List Rep) : Prop where
  nm : NMod w lo p kp s q me M n
  ac : DAcc w wb.heap.size dd t4 rb rc Rs
  ov : Own w v (viewC Yv) T_api_SyncView
  ml : ML w mb ml mc lo2 E
  fr : Fr MNT lo wb w
section
variable {wb : World} {dd t4 v : Nat} {Yv : YS} {mb : Option Addr} {ml mc lo2 : Nat} {E : List ME} {rb : Option Addr} {rc : Nat} {Rs : List Rep}
theorem MSx.ext0 (h : MSx wb w lo p kp s q me M n dd t4 v Yv mb ml mc lo2 E rb rc Rs) (he : Ext [] w w') : MSx wb w' lo p kp s q me M n dd t4 v Yv mb ml mc lo2 E rb rc Rs := ⟨h.nm.ext0 he, h.ac.ext0 he, he.own h.ov (by simp), h.ml.ext0 he, h.fr.trans (Fr.of0 he)⟩
theorem MSx.stP (h : MSx wb w lo p kp s q me M n dd t4 v Yv mb ml mc lo2 E rb rc Rs) (ho : NmAt w' p s kp n') (he : Ext [p] w w') (hY : n'.Y = n.Y) (hk : n'.kv = n.kv) : MSx wb w' lo p kp s q me M n' dd t4 v Yv mb ml mc lo2 E rb rc Rs := by
  have x : ExtT w w' [T_nodem_Node] := ExtT.of he (Tys.one h.nm.nd)
  exact ⟨h.nm.st ho he hY hk, h.ac.extT x (by decide) (by decide), x.own h.ov (by decide), h.ml.extT x (by decide) (by decide), h.fr.trans (h.nm.frP he)⟩
theorem MSx.stK {kv' : KvS} (h : MSx wb w lo p kp s q me M n dd t4 v Yv mb ml mc lo2 E rb rc Rs) (ho : Kv.ModAt w' kp kv'.A kv'.S) (he : Ext [kp] w w') : MSx wb w' lo p kp s q me M { n with kv := kv' } dd t4 v Yv mb ml mc lo2 E rb rc Rs := by
  have x : ExtT w w' [T_kvm_KV] := ExtT.of he (Tys.one h.nm.kv.1)
  exact ⟨h.nm.kvs ho he, h.ac.extT x (by decide) (by decide), x.own h.ov (by decide), h.ml.extT x (by decide) (by decide), h.fr.trans (h.nm.frK he)⟩
/-- A fresh block of a foreign type changed. -/
theorem MSx.loc {k : Nat} {cs : Array Value} {T : TypeId} (h : MSx wb w lo p kp s q me M n dd t4 v Yv mb ml mc lo2 E rb rc Rs) (ho : Own w k cs T) (he : Ext [k] w w') (hT : T ∉ [T_api_Did, T_api_Reply, T_api_SyncView, T_api_Msg, T_api_Entry] ++ MNT) (hk : wb.heap.size ≤ k) (hlo : lo ≤ wb.heap.size) : MSx wb w' lo p kp s q me M n dd t4 v Yv mb ml mc lo2 E rb rc Rs := by
  have x : ExtT w w' [T] := ExtT.of he (Tys.one ho)
  have no : ∀ {U : TypeId}, U ∈ [T_api_Did, T_api_Reply, T_api_SyncView, T_api_Msg, T_api_Entry] ++ MNT → U ∉ [T] := fun {U} hU hx => hT (by simp only [List.mem_singleton] at hx; rw [← hx]; exact hU)
  exact ⟨h.nm.extT x (fun u hu hc => by simp only [List.mem_singleton] at hu; rw [hu] at hc; exact hT (List.mem_append.2 (.inr hc))), h.ac.extT x (no (by simp)) (no (by simp)), x.own h.ov (no (by simp)), h.ml.extT x (no (by simp)) (no (by simp)), h.fr.up (Above.of he fun y hy => by simp at hy; omega) hlo⟩
/-- An answer more; the row is cleared. -/
theorem MSx.ans {nb : Nat} {r : Rep} {K : World → Prop} (h : MSx wb w lo p kp s q me M n dd t4 v Yv mb ml mc lo2 E rb rc Rs) (hn : Own w nb (repC r).toArray T_api_Reply) (hnb : ∀ y ∈ rowBlk rb, y ≠ nb) (hl : Rs.length ≤ 100) (hlo : lo ≤ wb.heap.size)
    (hK : ∀ rb' rc' w', MSx wb w' lo p kp s q me M n dd t4 v Yv mb ml mc lo2 E rb' rc' (Rs ++ [r]) → ExtT w w' [T_api_Did, T_api_Reply] → K w') :
    Append T_api_Reply (.agg #[.int .i64 0, .int .i64 0, .int .i64 0, .string (ByteArray.mk #[])]) 4 40 rb Rs.length rc (some ⟨nb, 0, none⟩) 1 w fun b c w2 => Sts [.slice b (Rs.length + 1) c] ⟨dd, 2, none⟩ 0 w2 K := by
  have hz := h.fr.size
  exact DAcc.add h.ac hn hnb hl hz fun rb' rc' w' ac _ f => hK rb' rc' w' ⟨h.nm.extT f.ty (by decide), ac, f.ty.own h.ov (by decide), h.ml.extT f.ty (by decide) (by decide), h.fr.up f.ab hlo⟩ f.ty
theorem MSx.clear {c : Nat} {K : World → Prop} (h : MSx wb w lo p kp s q me M n dd t4 v Yv mb ml mc lo2 E rb rc Rs) (hc : c < 3) (hK : ∀ w', MSx wb w' lo p kp s q me M (clearN c n) dd t4 v Yv mb ml mc lo2 E rb rc Rs → ExtT w w' [T_nodem_Node] → K w') (K1 K2 : World → Prop) (h1 : ∀ w', ExtT w w' [T_nodem_Node] → Sts [.int .i64 0] (Addr.add (Addr.add ⟨p, 0, none⟩ 6) ((c : Int).toNat * 1)) 0 w' K2 → K1 w') (h2 : ∀ w', ExtT w w' [T_nodem_Node] → Sts [.int .i64 0] (Addr.add (Addr.add ⟨p, 0, none⟩ 9) ((c : Int).toNat * 1)) 0 w' K → K2 w') : Sts [.bool false] (Addr.add (Addr.add ⟨p, 0, none⟩ 3) ((c : Int).toNat * 1)) 0 w K1 := by
  have tp := Tys.one h.nm.nd
  refine h.nm.nd.stU hc fun w4 o4 he4 => h1 w4 (ExtT.of he4 tp) (NmAt.stQ o4 hc fun w5 o5 he5 => ?_)
  have x5 : ExtT w w5 [T_nodem_Node] := (ExtT.of he4 tp).trans (ExtT.of he5 (Tys.one o4))
  refine h2 w5 x5 (NmAt.stI o5 hc fun w6 o6 he6 => ?_)
  exact hK w6 (h.stP o6 ((he4.trans he5).trans he6) rfl rfl) (x5.trans (ExtT.of he6 (Tys.one o5)))
end
theorem nmafter_ok {mb : Option Addr} {ml mc lo2 : Nat} {E : List ME} {R : RDid} (h : NMod w lo p kp s q me M n) (hm : NMid n) (hE : ML w mb ml mc lo2 E) (hml : ml ≤ 100) (hen : ∀ x ∈ E, x.1.ents.length ≤ 1000) (hlo : lo ≤ w.heap.size) (hH : M.H.length ≤ 50)
    (hR : ∀ M' ob oc rb rc w', DidAt w' w.heap.size ob oc rb rc (outsOf E) (afterN n [] []).R → NMod w' lo p kp s q me M' (afterN n [] []).n → M'.A0 = M.A0 → M'.H.map (·.2) = M.H.map (·.2) ++ (compS (catchN n)).map gs → Fr MNT lo w w' → R 0 ob (outsOf E).length oc rb (afterN n [] []).R.length rc w') : nodem_Node_after.Call (some ⟨p, 0, none⟩) mb ml mc w R := by
  apply nodem_Node_after.sound
  unfold nodem_Node_after.B0
  refine New.mk fun t4 w1 ht4 hs1 ot1 he1 => New.mk fun dd w2 hdd hs2 od2 he2 => ?_
  have E2 := he1.trans he2
  have z1 := he1.size
  have htd : t4 ≠ dd := by omega
  refine mcatch_ok (h.ext0 E2) hm.y fun w3 h3 f3 => Pn.mk ?_
  have F3 : Fr MNT lo w w3 := (Fr.of0 E2).trans f3
  have ot3 := f3.ty.own (he2.own ot1 (by simp)) (by decide)
  have od3 := f3.ty.own od2 (by decide)
  have y1 := (catchN_Y n).1
  obtain ⟨m1, bb1⟩ := catchN_mid hm
  have uu1 := uc_catch n
  have hul := uc_le n
  refine h3.nd.ldS (mview_ok h3.mr m1.y.L fun v w4 hv ov he4 => Pn.mk ?_)
  have E4 := he4.trans (Ext.drew [] w4)
  have ov4 : Own w4.drew v (viewC (catchN n).Y) T_api_SyncView := Own.drew ov
  have hE4 : ML w4.drew mb ml mc lo2 E := (hE.extT F3.ty (by decide) (by decide)).ext0 E4
  have s4 : MSx w w4.drew lo p kp s q me M (catchN n) dd t4 v (catchN n).Y mb ml mc lo2 E none 0 [] :=
    ⟨h3.ext0 E4, ⟨E4.own od3 (by simp), E4.own ot3 (by simp), Row.nil _ _ _, fun y hy => (by cases hy), htd, by omega⟩, ov4, hE4, F3.trans (Fr.of0 E4)⟩
  obtain ⟨m2, bb2, c2⟩ := compN_mid m1 bb1
  have r2 := compN_rest (catchN n)
  have uu2 := uc_comp (catchN n)
  have hcm := m2.y.hi
  have hl2 := m2.y.L.last
  have hlast2 : (compN (catchN n)).Y.L.last = (compN (catchN n)).Y.L.base + ((compN (catchN n)).Y.L.ents.length : Int) := rfl
  have hap0 := m2.ap
  -- behind the compacting
  have b2 : ∀ {wx : World} {M' : MSt}, MSx w wx lo p kp s q me M' (compN (catchN n)) dd t4 v (catchN n).Y mb ml mc lo2 E none 0 [] → M'.A0 = M.A0 → M'.H.map (·.2) = M.H.map (·.2) ++ (compS (catchN n)).map gs → nodem_Node_after.B2 (some ⟨p, 0, none⟩) mb ml mc t4 dd (some ⟨v, 0, none⟩) wx R := fun {wx M'} sx hA0 hHm => by
    -- the messages
    have l3 : ∀ {wy : World} {mm : NS} {rb : Option Addr} {rc : Nat} {Rs : List Rep}, MSx w wy lo p kp s q me M' mm dd t4 v (catchN n).Y mb ml mc lo2 E rb rc Rs → mm = (afterN n [] []).n → Rs = (afterN n [] []).R → nodem_Node_after.L3 mb ml mc t4 dd 0 wy R := fun {wy mm rb rc Rs} sy hmm hRs => by
      have hlen := hE.len
      unfold nodem_Node_after.L3
      refine ⟨fun m mb' ml' mc' t4' dd' i w' => ∃ (j : Nat) (ob : Option Addr) (oc : Nat), j ≤ ml ∧ m = ml - j ∧ mb = mb' ∧ ml = ml' ∧ mc = mc' ∧ t4 = t4' ∧ dd = dd' ∧ i = (j : Int) ∧ Own w' dd #[.int .i64 0, .slice ob j oc, .slice rb Rs.length rc] T_api_Did ∧ Own w' t4 #[.int .i64 0, .slice none 0 0, .slice none 0 0] T_api_Did ∧ Row w' ob j oc 2 T_api_Out ((outsOf (E.take j)).flatMap outC) ∧ (∀ y ∈ rowBlk ob, w.heap.size ≤ y) ∧ Row w' rb Rs.length rc 4 T_api_Reply (Rs.flatMap repC) ∧ NMod w' lo p kp s q me M' mm ∧ ML w' mb ml mc lo2 E ∧ Fr MNT lo w w', _,
        ⟨0, none, 0, by omega, rfl, rfl, rfl, rfl, rfl, rfl, rfl, sy.ac.od, sy.ac.ot, Row.nil _ _ _, fun y hy => (by cases hy), sy.ac.row, sy.nm, sy.ml, sy.fr⟩, ?_⟩
      rintro m mb' ml' mc' t4' dd' i wa ⟨j, ob, oc, hj, rfl, rfl, rfl, rfl, rfl, rfl, rfl, oda, ota, roa, hob, rra, nma, mla, fa⟩
      unfold nodem_Node_after.L3b
      have za := fa.size
      by_cases hlt : (j : Int) < (ml : Int)
      · refine Bm.pos (decide_eq_true hlt) ?_
        obtain ⟨x, hx⟩ := get_lt' (L := E) (n := j) (by omega)
        have hxm := List.mem_of_getElem? hx
        refine rowMsgN mla.row hx (encodeMsg_ok (m := x.1) (mla.bd.dat x hxm) (hen x hxm) fun wb eb => ?_)
        have Ed := eb.trans (Ext.drew [] wb)
        have odb := Ed.own oda (by simp)
        refine LdL.mk odb rfl (rowToN (Row.ext mla.row Ed (fun _ _ z => by cases z)) hx (New.mk fun nb w2' hnb hs2' on he2' => ?_))
        have E2' := Ed.trans he2'
        have od2' := E2'.own oda (by simp)
        refine ⟨od2'.cell rfl, ?_⟩
        have ro2 := Row.ext roa E2' (fun _ _ z => by cases z)
        refine Vc.Append.mk (e := T_api_Out) (news := outC (x.1.to, encM x.1)) ro2 (CellsAt.own on (fun j v hj => by simpa [outC] using hj)) rfl rfl rfl (by omega) (by omega) fun ob' oc' w3' hr he3' hb3 => ?_
        have t3 := Tys.row ro2
        have od3' := ownT he3' t3 od2' (by decide)
        refine Sts.mk od3' (by simp) rfl fun w4' _ o4' he4' => ?_
        have t4'' := Tys.one od3'
        have X : ExtT w2' w4' [T_api_Out, T_api_Did] := ((ExtT.of he3' t3).mono (by simp)).trans ((ExtT.of he4' t4'').mono (by simp))
        have hz2 := E2'.size
        have hddg := sy.ac.dl
        refine ⟨ml - (j + 1), by omega, j + 1, ob', oc', by omega, rfl, rfl, rfl, rfl, rfl, rfl, by rw [w64 (by omega) (by omega)]; omega, o4', ?_, ?_, fun y hy => ?_, X.row (Row.ext rra E2' (fun _ _ z => by cases z)) (by decide), (nma.ext0 E2').extT X (by decide), (mla.ext0 E2').extT X (by decide) (by decide), ?_⟩
        · have ot3' := ownT he3' t3 (E2'.own ota (by simp)) (by decide)
          exact he4'.own ot3' (by simpa using htd)
        · rw [take_succ' hx]
          have q' : outsOf (E.take j ++ [x]) = outsOf (E.take j) ++ [(x.1.to, encM x.1)] := by simp [outsOf]
          rw [q', List.flatMap_append]
          exact rowT (by simpa using hr) he4' t4'' (by decide)
        · rcases hb3 y hy with z | z
          · exact hob y z
          · omega
        · exact (((fa.trans (Fr.of0 E2')).up (Above.of he3' hob) hlo)).up (Above.of he4' fun y hy => by simp at hy; omega) hlo
      · refine Bm.neg (decide_eq_false hlt) (LdI.mk oda rfl (LdL.mk oda rfl (LdL.mk oda rfl (retDid ota rfl fun wz ez => ?_))))
        have hjl : j = ml := by omega
        subst hjl
        have tz := Tys.one ota
        have xz : ExtT wa wz [T_api_Did] := ExtT.of ez tz
        have htk : E.take j = E := List.take_of_length_le (by omega)
        rw [htk] at roa
        have hol : (outsOf E).length = j := by simp [outsOf]; omega
        subst hmm
        subst hRs
        have key := hR M' ob oc rb rc wz ⟨by rw [hol]; exact xz.row roa (by decide), xz.row rra (by decide), hob, sy.ac.ge⟩ (nma.extT xz (by decide)) hA0 hHm (fa.up (Above.of ez fun y hy => by simp at hy; omega) hlo)
        rw [hol] at key
        exact key
    -- giving up
    have l2 : ∀ {wy : World} {rb : Option Addr} {rc : Nat} {n5 : NS} {R5 : List Rep}, MSx w wy lo p kp s q me M' n5 dd t4 v (catchN n).Y mb ml mc lo2 E rb rc R5 → (n5, R5) = afterR n → nodem_Node_after.L2 (some ⟨p, 0, none⟩) mb ml mc t4 dd (some ⟨v, 0, none⟩) 0 wy R := fun {wy rb rc n5 R5} sy h5 => by
      have hn5 : n5 = (afterR n).1 := by rw [← h5]
      have hR5 : R5 = (afterR n).2 := by rw [← h5]
      have hu5 : R5.length + uc n5 = uc n := by
        rw [hn5, hR5]
        have := uc_run ((catchN n).Y.cm - (catchN n).ap).toNat (compN (catchN n))
        unfold afterR
        omega
      let role := (catchN n).Y.e.role
      unfold nodem_Node_after.L2
      refine ⟨fun m p' mb' ml' mc' t4' dd' v' c' w' => ∃ (j : Nat) (rb' : Option Addr) (rc' : Nat), j ≤ 3 ∧ m = 3 - j ∧ some ⟨p, 0, none⟩ = p' ∧ mb = mb' ∧ ml = ml' ∧ mc = mc' ∧ t4 = t4' ∧ dd = dd' ∧ some ⟨v, 0, none⟩ = v' ∧ c' = (j : Int) ∧ MSx w w' lo p kp s q me M' (giveN role j n5).1 dd t4 v (catchN n).Y mb ml mc lo2 E rb' rc' (R5 ++ (giveN role j n5).2), _,
        ⟨0, rb, rc, by omega, rfl, rfl, rfl, rfl, rfl, rfl, rfl, rfl, rfl, by simpa [giveN] using sy⟩, ?_⟩
      rintro m p' mb' ml' mc' t4' dd' v' c' wa ⟨j, rba, rca, hj, rfl, rfl, rfl, rfl, rfl, rfl, rfl, rfl, rfl, sa⟩
      unfold nodem_Node_after.L2b
      by_cases hlt : (j : Int) < 3
      rotate_left
      · refine Bm.neg (decide_eq_false hlt) ?_
        have : j = 3 := by omega
        subst this
        refine l3 sa ?_ ?_
        · rw [hn5]
          rfl
        · rw [hn5, hR5]
          rfl
      have ix : (0 : Int) ≤ (j : Int) ∧ (j : Int) < ((3 : Nat) : Int) := ⟨by omega, by omega⟩
      refine Bm.pos (decide_eq_true hlt) (Pn.mk ⟨ix, ?_⟩)
      have sd := sa.ext0 (Ext.drew [] wa)
      have mu := uc_give (role := role) j n5 (by omega)
      have hsucc : giveN role (j + 1) n5 = ((give1 role j (giveN role j n5).1).1, (giveN role j n5).2 ++ (give1 role j (giveN role j n5).1).2) := rfl
      generalize hm' : (giveN role j n5).1 = m' at sa sd mu hsucc
      generalize hq' : (giveN role j n5).2 = q' at sa sd mu hsucc
      have next : ∀ {wz : World} {mz : NS} {rz : Option Addr} {cz : Nat} {qz : List Rep}, MSx w wz lo p kp s q me M' mz dd t4 v (catchN n).Y mb ml mc lo2 E rz cz (R5 ++ qz) → giveN role (j + 1) n5 = (mz, qz) → nodem_Node_after.B7 (some ⟨p, 0, none⟩) mb ml mc t4 dd (some ⟨v, 0, none⟩) (j : Int) wz (fun n' msgs_b' msgs_l' msgs_c' t4' d' v' c' w' => ∃ m', m' < 3 - j ∧ ∃ (j : Nat) (rb' : Option Addr) (rc' : Nat), j ≤ 3 ∧ m' = 3 - j ∧ some ⟨p, 0, none⟩ = n' ∧ mb = msgs_b' ∧ ml = msgs_l' ∧ mc = msgs_c' ∧ t4 = t4' ∧ dd = d' ∧ some ⟨v, 0, none⟩ = v' ∧ c' = (j : Int) ∧ MSx w w' lo p kp s q me M' (giveN role j n5).1 dd t4 v (catchN n).Y mb ml mc lo2 E rb' rc' (R5 ++ (giveN role j n5).2)) R := fun {wz mz rz cz qz} sz e => by
        unfold nodem_Node_after.B7
        exact ⟨3 - (j + 1), by omega, j + 1, rz, cz, by omega, rfl, rfl, rfl, rfl, rfl, rfl, rfl, rfl, by rw [w64 (by omega) (by omega)]; omega, by rw [e]; exact sz⟩
      have b5 : ∀ tt : Bool, (tt = true → m'.used j = true ∧ (role ≠ 2 ∨ m'.idx j ≤ m'.ap)) → (tt = false → ¬ (m'.used j = true ∧ (role ≠ 2 ∨ m'.idx j ≤ m'.ap))) → nodem_Node_after.B5 (some ⟨p, 0, none⟩) mb ml mc t4 dd (some ⟨v, 0, none⟩) (j : Int) tt wa.drew (fun n' msgs_b' msgs_l' msgs_c' t4' d' v' c' w' => ∃ m', m' < 3 - j ∧ ∃ (j : Nat) (rb' : Option Addr) (rc' : Nat), j ≤ 3 ∧ m' = 3 - j ∧ some ⟨p, 0, none⟩ = n' ∧ mb = msgs_b' ∧ ml = msgs_l' ∧ mc = msgs_c' ∧ t4 = t4' ∧ dd = d' ∧ some ⟨v, 0, none⟩ = v' ∧ c' = (j : Int) ∧ MSx w w' lo p kp s q me M' (giveN role j n5).1 dd t4 v (catchN n).Y mb ml mc lo2 E rb' rc' (R5 ++ (giveN role j n5).2)) R := fun tt g1 g2 => by
        unfold nodem_Node_after.B5
        refine Bm.mk (fun ht => ?_) fun hf => ?_
        · have hc := g1 ht
          have sdd := sd.ext0 (Ext.drew [] wa.drew)
          have hup := uc_clear (n := m') (c := j) (by omega) hc.1
          refine LdL.mk sdd.ac.od rfl (Pn.mk ⟨ix, sdd.nm.nd.ldQ (by omega) (New.mk fun nb w1' hnb hs1' on he1' => ⟨(he1'.own sdd.ac.od (by simp)).cell rfl, ?_⟩)⟩)
          have s1 := sdd.ext0 he1'
          have hrl : (R5 ++ q').length ≤ 100 := by rw [List.length_append]; omega
          refine s1.ans (r := ((j : Int), m'.seq j, 13, estr)) on (fun y hy => by have := sdd.ac.row.lt y hy; omega) hrl hlo fun rb2 rc2 w3' s3 _ => Pn.mk ⟨ix, Pn.mk (Pn.mk ?_)⟩
          have s3d := s3.ext0 (Ext.drew [] w3')
          refine s3d.clear (by omega) (fun w6 s6 _ => next (qz := q' ++ [((j : Int), m'.seq j, 13, estr)]) (by rw [← List.append_assoc]; exact s6) ?_) _ _ (fun w4 _ hs => ⟨ix, hs⟩) fun w5 _ hs => ⟨ix, hs⟩
          rw [hsucc]
          unfold give1
          rw [if_pos hc]
        · refine next (qz := q') sd ?_
          rw [hsucc]
          unfold give1
          rw [if_neg (g2 hf), List.append_nil]
      refine sd.nm.nd.ldU (by omega) ?_
      cases hus : m'.used j with
      | false => exact Bm.neg rfl (b5 false (fun q => by cases q) fun _ q => by rw [hus] at q; cases q.1)
      | true =>
        refine Bm.pos rfl (Pn.mk ?_)
        rw [add_mk]
        refine LdI.mk sd.ov rfl ?_
        show Bm (role != 2) _ _
        refine Bm.mk (fun hr => b5 true (fun _ => ⟨hus, .inl (by simpa using hr)⟩) fun q => by cases q) fun hr => Pn.mk ⟨ix, sd.nm.nd.ldI (by omega) (Pn.mk (sd.nm.nd.ldA (b5 _ (fun q => ⟨hus, .inr (by simpa using q)⟩) fun q hc => ?_)))⟩
        have hr' : role = 2 := by simpa using hr
        rcases hc.2 with z | z
        · exact z hr'
        · simp at q
          omega
    -- applying
    unfold nodem_Node_after.B2 nodem_Node_after.L1
    obtain ⟨K, hK⟩ : ∃ K : Nat, (catchN n).Y.cm - (catchN n).ap = K := ⟨((catchN n).Y.cm - (catchN n).ap).toNat, by have := m1.ap; omega⟩
    have hAR : afterR n = runN K (compN (catchN n)) := by unfold afterR; rw [hK, Int.toNat_natCast]
    generalize hn2 : compN (catchN n) = n2 at *
    refine ⟨fun m p' mb' ml' mc' t4' dd' v' w' => ∃ (j : Nat) (rb' : Option Addr) (rc' : Nat), j ≤ K ∧ m = K - j ∧ some ⟨p, 0, none⟩ = p' ∧ mb = mb' ∧ ml = ml' ∧ mc = mc' ∧ t4 = t4' ∧ dd = dd' ∧ some ⟨v, 0, none⟩ = v' ∧ MSx w w' lo p kp s q me M' (runN j n2).1 dd t4 v (catchN n).Y mb ml mc lo2 E rb' rc' (runN j n2).2, _,
      ⟨0, none, 0, by omega, rfl, rfl, rfl, rfl, rfl, rfl, rfl, rfl, by simpa [runN] using sx⟩, ?_⟩
    rintro m p' mb' ml' mc' t4' dd' v' wa ⟨j, rba, rca, hj, rfl, rfl, rfl, rfl, rfl, rfl, rfl, rfl, sa⟩
    unfold nodem_Node_after.L1b
    have ma := runN_Y j n2
    have mk := runN_kok j n2 m2.k
    have mu := uc_run j n2
    have msucc := runN_succ j n2
    generalize hm' : (runN j n2).1 = m' at sa ma mk mu msucc
    generalize hq' : (runN j n2).2 = q' at sa mu msucc
    have sd := sa.ext0 (Ext.drew [] wa)
    refine Pn.mk (sd.nm.nd.ldA (Pn.mk ?_))
    rw [add_mk]
    refine LdI.mk sd.ov rfl ?_
    show Bm (decide (m'.ap < (catchN n).Y.cm)) _ _
    have hap2 : m'.ap = n2.ap + (j : Int) := ma.2
    have hap3 : n2.ap = (catchN n).ap := r2.2.1
    have hYm : YsOk m'.Y := by rw [ma.1]; exact m2.y
    by_cases hlt : m'.ap < (catchN n).Y.cm
    rotate_left
    · refine Bm.neg (decide_eq_false hlt) ?_
      have hjK : j = K := by omega
      subst hjK
      refine l2 sd ?_
      rw [hAR, ← hm', ← hq']
    have next : ∀ {wz : World} {mz : NS} {rz : Option Addr} {cz : Nat} {qz : List Rep}, MSx w wz lo p kp s q me M' mz dd t4 v (catchN n).Y mb ml mc lo2 E rz cz qz → runN (j + 1) n2 = (mz, qz) → ∃ m', m' < K - j ∧ ∃ (j : Nat) (rb' : Option Addr) (rc' : Nat), j ≤ K ∧ m' = K - j ∧ some (⟨p, 0, none⟩ : Addr) = some ⟨p, 0, none⟩ ∧ mb = mb ∧ ml = ml ∧ mc = mc ∧ t4 = t4 ∧ dd = dd ∧ some (⟨v, 0, none⟩ : Addr) = some ⟨v, 0, none⟩ ∧ MSx w wz lo p kp s q me M' (runN j n2).1 dd t4 v (catchN n).Y mb ml mc lo2 E rb' rc' (runN j n2).2 := fun {wz mz rz cz qz} sz e => ⟨K - (j + 1), by omega, j + 1, rz, cz, by omega, rfl, rfl, rfl, rfl, rfl, rfl, rfl, rfl, by rw [e]; exact sz⟩
    refine Bm.pos (decide_eq_true hlt) (Pn.mk (sd.nm.nd.ldA (Pn.mk ?_)))
    rw [w64 (x := m'.ap + 1) (by omega) (by omega)]
    refine sd.nm.nd.stA fun w1' o1' he1' => Pn.mk ?_
    let mm1 : NS := { m' with ap := m'.ap + 1 }
    have s1 : MSx w w1' lo p kp s q me M' mm1 dd t4 v (catchN n).Y mb ml mc lo2 E rba rca q' := sd.stP o1' he1' rfl rfl
    have s1d := s1.ext0 (Ext.drew [] w1')
    refine s1d.nm.nd.ldS (Pn.mk (s1d.nm.nd.ldA ?_))
    have hsz := atL_size hYm.L (m'.ap + 1)
    have hd48 : (datN m').size ≤ 281474976710656 := by show (atL m'.Y.L (m'.ap + 1)).1.2.size ≤ _; omega
    have hbd : -9223372036854775808 ≤ m'.ap + 1 ∧ m'.ap + 1 ≤ 9223372036854775807 := by omega
    have b3 : ∀ {wz : World} {eb : Nat} {te : Int}, MSx w wz lo p kp s q me M' mm1 dd t4 v (catchN n).Y mb ml mc lo2 E rba rca q' → Own wz eb #[.int .i64 te, .string (datN m')] T_api_Entry → w.heap.size ≤ eb → nodem_Node_after.B3 (some ⟨p, 0, none⟩) mb ml mc t4 dd (some ⟨v, 0, none⟩) eb wz (fun n' msgs_b' msgs_l' msgs_c' t4' d' v' w' => ∃ m', m' < K - j ∧ ∃ (j : Nat) (rb' : Option Addr) (rc' : Nat), j ≤ K ∧ m' = K - j ∧ some ⟨p, 0, none⟩ = n' ∧ mb = msgs_b' ∧ ml = msgs_l' ∧ mc = msgs_c' ∧ t4 = t4' ∧ dd = d' ∧ some ⟨v, 0, none⟩ = v' ∧ MSx w w' lo p kp s q me M' (runN j n2).1 dd t4 v (catchN n).Y mb ml mc lo2 E rb' rc' (runN j n2).2) R := fun {wz eb te} sz oz hebz => by
      unfold nodem_Node_after.B3
      refine LdS.mk oz rfl ?_
      rw [str_e]
      by_cases hde : datN m' = estr
      · rw [decide_eq_true hde]
        refine Bm.pos rfl (next sz ?_)
        rw [msucc]
        unfold run1
        rw [if_pos hde, List.append_nil]
      · rw [decide_eq_false hde]
        refine Bm.neg rfl (Pn.mk ?_)
        have szd := sz.ext0 (Ext.drew [] wz)
        have ozd : Own wz.drew eb #[.int .i64 te, .string (datN m')] T_api_Entry := Own.drew oz
        let mm2 : NS := { mm1 with kv := (applyA (datN m') m'.kv).2 }
        have hrun : run1 m' = ansN mm2 (datN m') (applyA (datN m') m'.kv).1 := by unfold run1; rw [if_neg hde]
        have hu2 : q'.length + uc mm2 ≤ 3 := by
          have : uc mm2 = uc m' := rfl
          rw [this]
          omega
        have b4 : ∀ {wy : World} {ab : Nat}, MSx w wy lo p kp s q me M' mm2 dd t4 v (catchN n).Y mb ml mc lo2 E rba rca q' → Own wy eb #[.int .i64 te, .string (datN m')] T_api_Entry → Own wy ab #[.int .i64 (applyA (datN m') m'.kv).1.1, .string (applyA (datN m') m'.kv).1.2] T_api_Ans → nodem_Node_after.B4 (some ⟨p, 0, none⟩) mb ml mc t4 dd (some ⟨v, 0, none⟩) eb ab wy (fun n' msgs_b' msgs_l' msgs_c' t4' d' v' w' => ∃ m', m' < K - j ∧ ∃ (j : Nat) (rb' : Option Addr) (rc' : Nat), j ≤ K ∧ m' = K - j ∧ some ⟨p, 0, none⟩ = n' ∧ mb = msgs_b' ∧ ml = msgs_l' ∧ mc = msgs_c' ∧ t4 = t4' ∧ dd = d' ∧ some ⟨v, 0, none⟩ = v' ∧ MSx w w' lo p kp s q me M' (runN j n2).1 dd t4 v (catchN n).Y mb ml mc lo2 E rb' rc' (runN j n2).2) R := fun {wy ab} sy oy oab => by
          unfold nodem_Node_after.B4
          have no : ∀ {wv : World} {cb : Nat}, Ext [] wy wv → (ansN mm2 (datN m') (applyA (datN m') m'.kv).1) = (mm2, []) → nodem_Node_after.B6 (some ⟨p, 0, none⟩) mb ml mc t4 dd (some ⟨v, 0, none⟩) ab cb false wv (fun n' msgs_b' msgs_l' msgs_c' t4' d' v' w' => ∃ m', m' < K - j ∧ ∃ (j : Nat) (rb' : Option Addr) (rc' : Nat), j ≤ K ∧ m' = K - j ∧ some ⟨p, 0, none⟩ = n' ∧ mb = msgs_b' ∧ ml = msgs_l' ∧ mc = msgs_c' ∧ t4 = t4' ∧ dd = d' ∧ some ⟨v, 0, none⟩ = v' ∧ MSx w w' lo p kp s q me M' (runN j n2).1 dd t4 v (catchN n).Y mb ml mc lo2 E rb' rc' (runN j n2).2) R := fun {wv cb} ev hno => by
            unfold nodem_Node_after.B6
            refine Bm.neg rfl (next (sy.ext0 ev) ?_)
            rw [msucc, hrun, hno, List.append_nil]
          refine LdS.mk oy rfl (decodeCmd_ok hd48 fun w2' he2' => ⟨fun hnn => ?_, fun c hc => ?_⟩)
          · refine NewSet.mk rfl rfl fun cb w4' hcb hs4' ocb he4' => Bm.neg rfl (no ((he2'.trans he4').trans (Ext.drew [] w4')) ?_)
            unfold ansN
            rw [hnn]
          · have hp := (decCmd_ok hc).1
            obtain ⟨y, hy⟩ : ∃ y : Nat, c.cl = y := ⟨c.cl.toNat, by omega⟩
            refine NewSet.mk rfl rfl fun cb w4' hcb hs4' ocb he4' => Bm.pos rfl ?_
            have Ed := (he2'.trans he4').trans (Ext.drew [] w4')
            have s4' := sy.ext0 Ed
            have ocd : Own w4'.drew cb #[.int .i64 c.op, .int .i64 c.cl, .int .i64 c.seq, .string c.key, .string c.val, .string c.old] T_api_Cmd := Own.drew ocb
            have oad := Ed.own oab (by simp)
            have hans : ansN mm2 (datN m') (applyA (datN m') m'.kv).1 = if mm2.used y = true ∧ mm2.seq y = c.seq then (clearN y mm2, [((y : Int), c.seq, (applyA (datN m') m'.kv).1)]) else (mm2, []) := by
              unfold ansN
              rw [hc]
              dsimp only
              rw [hy, Int.toNat_natCast]
            have ix : (0 : Int) ≤ (y : Int) ∧ (y : Int) < ((3 : Nat) : Int) := ⟨by omega, by omega⟩
            refine LdI.mk ocd rfl (Pn.mk ?_)
            rw [hy]
            refine ⟨ix, s4'.nm.nd.ldU (by omega) ?_⟩
            cases hus : mm2.used y with
            | false => exact Bm.neg rfl (no Ed (by rw [hans, if_neg (fun q => by rw [hus] at q; cases q.1)]))
            | true =>
              refine Bm.pos rfl (LdI.mk ocd rfl (Pn.mk ?_))
              rw [hy]
              refine ⟨ix, s4'.nm.nd.ldQ (by omega) (LdI.mk ocd rfl ?_)⟩
              by_cases hsq : mm2.seq y = c.seq
              rotate_left
              · rw [show (mm2.seq y == c.seq) = false by simpa using hsq]
                exact no Ed (by rw [hans, if_neg (fun q => hsq q.2)])
              rw [show (mm2.seq y == c.seq) = true by simpa using hsq]
              rw [if_pos ⟨hus, hsq⟩] at hans
              unfold nodem_Node_after.B6
              have hup := uc_clear (n := mm2) (c := y) (by omega) hus
              refine Bm.pos rfl (LdL.mk s4'.ac.od rfl (LdI.mk ocd rfl (LdI.mk ocd rfl (LdI.mk oad rfl (LdS.mk oad rfl (New.mk fun nb w5' hnb hs5' on he5' => ?_))))))
              rw [hy] at on
              have s5 := s4'.ext0 he5'
              refine s5.ans (r := ((y : Int), c.seq, (applyA (datN m') m'.kv).1)) on (fun z hz => by have := s4'.ac.row.lt z hz; omega) (by omega) hlo fun rb2 rc2 w7 s7 x7 => ?_
              have s7d := s7.ext0 (Ext.drew [] w7)
              have oc7 : Own w7.drew cb #[.int .i64 c.op, .int .i64 c.cl, .int .i64 c.seq, .string c.key, .string c.val, .string c.old] T_api_Cmd := Own.drew (x7.own (he5'.own ocd (by simp)) (by decide))
              refine LdI.mk oc7 rfl (LdI.mk oc7 rfl (LdI.mk oc7 rfl (Pn.mk ?_)))
              rw [hy]
              refine ⟨ix, Pn.mk (Pn.mk ?_)⟩
              have cl : ∀ w8, ExtT w7.drew w8 [T_nodem_Node] → w8.cell? ⟨cb, 1, none⟩ = some (.int .i64 (y : Int)) := fun w8 x8 => by rw [← hy]; exact (x8.own oc7 (by decide)).cell rfl
              refine s7d.clear (by omega) (fun w10 s10 _ => next s10 ?_) _ _ (fun w8 x8 hs => ⟨cl w8 x8, cl w8 x8, ix, hs⟩) fun w9 x9 hs => ⟨cl w9 x9, ix, hs⟩
              rw [msucc, hrun, hans]
        refine szd.nm.nd.ldK (LdS.mk ozd rfl ⟨?_, ?_⟩)
        · refine modApply_ok (s := m'.kv) szd.nm.kv mk hd48 fun w2' k2 he2' => NewSet.mk rfl rfl fun ab w4' hab hs4' oab he4' => ?_
          exact b4 ((szd.stK k2 he2').ext0 he4') (he4'.own (ownT he2' (Tys.one szd.nm.kv.1) ozd (by decide)) (by simp)) oab
        · refine New.mk fun ab w4' hab hs4' oab he4' => ?_
          have s4' := szd.ext0 he4'
          have ox4 := he4'.own ozd (by simp)
          refine ⟨ox4.cell rfl, ?_, ?_⟩
          · rw [add_mk]
            exact Own.cell s4'.nm.nd (by rw [fnArr_get _ (by omega)]; rfl)
          · refine modApply_ok (s := m'.kv) s4'.nm.kv mk hd48 fun w5' k5 he5' => ?_
            have t5 := Tys.one s4'.nm.kv.1
            have oab5 := ownT he5' t5 oab (by decide)
            have s5 := s4'.stK k5 he5'
            refine Sts.full oab5 rfl rfl fun w6' hs6' oab6 he6' => ?_
            have t6 := Tys.one oab5
            have hzz := szd.fr.size
            exact b4 (s5.loc oab5 he6' (by decide) (by omega) hlo) (ownT he6' t6 (ownT he5' t5 ox4 (by decide)) (by decide)) oab6
    have hz1 := s1d.fr.size
    refine ⟨?_, ?_⟩
    · refine mat_ok s1d.nm.mr hYm.L hbd fun w2' he2' => NewSet.mk rfl rfl fun eb w4' heb hs4' oe he4' => ?_
      have := he2'.size
      exact b3 ((s1d.ext0 he2').ext0 he4') oe (by omega)
    · refine New.mk fun eb w5' heb hs5' oe he5' => ?_
      have s5 := s1d.ext0 he5'
      refine ⟨?_, Own.cell s5.nm.nd (by rw [fnArr_get _ (by omega)]; rfl), ?_⟩
      · rw [add_mk]
        exact Own.cell s5.nm.nd (by rw [fnArr_get _ (by omega)]; rfl)
      · refine mat_ok s5.nm.mr hYm.L hbd fun w6' he6' => ?_
        have oe6 := he6'.own oe (by simp)
        have s6 := s5.ext0 he6'
        refine Sts.full oe6 rfl rfl fun w7' hs7' oe7 he7' => ?_
        have x7 : ExtT w6' w7' [T_api_Entry] := ExtT.of he7' (Tys.one oe6)
        have mk7 : MSx w w7' lo p kp s q me M' mm1 dd t4 v (catchN n).Y mb ml mc lo2 E rba rca q' := by
          refine ⟨s6.nm.extT x7 (by decide), s6.ac.extT x7 (by decide) (by decide), x7.own s6.ov (by decide), ?_, s6.fr.up (Above.of he7' fun y hy => by simp at hy; omega) hlo⟩
          -- the messages' entries are older
          refine ⟨x7.row s6.ml.row (by decide), s6.ml.bd.ext he7' (fun x hx k hk hin => ?_), s6.ml.blk⟩
          simp at hin
          have hlt0 := Row.lt (hE.bd.dat x hx) k hk
          omega
        exact b3 mk7 oe7 (by omega)
  -- the test
  have b1 : ∀ tt : Bool, tt = compB (catchN n) → nodem_Node_after.B1 (some ⟨p, 0, none⟩) mb ml mc t4 dd (some ⟨v, 0, none⟩) tt w4.drew R := fun tt htt => by
    unfold nodem_Node_after.B1
    cases hcb : compB (catchN n) with
    | false =>
      rw [hcb] at htt
      have hcn : compN (catchN n) = catchN n := by unfold compN; rw [hcb]; rfl
      have hcs : compS (catchN n) = [] := by unfold compS; rw [hcb]; rfl
      exact Bm.neg htt (b2 (by rw [hcn]; exact s4) rfl (by rw [hcs]; simp))
    | true =>
      rw [hcb] at htt
      refine Bm.pos htt (Pn.mk (s4.nm.nd.ldK (modSnapshot_ok s4.nm.kv m1.k fun w5 he5 => Pn.mk ?_)))
      have E5 := he5.trans (Ext.drew [] w5)
      have s5 := s4.ext0 E5
      refine s5.nm.nd.ldS (Pn.mk (s5.nm.nd.ldA ?_))
      have hz5 := s5.fr.size
      refine mcompact_ok (s5.nm.mr.mv m1.y.L) hH fun w6 mv6 x6 => ?_
      obtain ⟨M', nm6, a0, hh, f6⟩ := s5.nm.evt mv6 x6 (by omega)
      have hcn : compN (catchN n) = { catchN n with Y := (compE (catchN n)).Y } := by unfold compN; rw [hcb]; rfl
      have hcs : compS (catchN n) = (compE (catchN n)).S := by unfold compS; rw [hcb]; rfl
      refine b2 ⟨by rw [hcn]; exact nm6, s5.ac.extT x6 (by decide) (by decide), x6.own s5.ov (by decide), s5.ml.extT x6 (by decide) (by decide), s5.fr.trans f6⟩ a0 ?_
      rw [hcs]
      exact hh
  have hlb := m1.y.L.base
  have hle := m1.y.L.last
  have hhi := m1.y.hi
  have hap1 := m1.ap
  have hlast : (catchN n).Y.L.last = (catchN n).Y.L.base + ((catchN n).Y.L.ents.length : Int) := rfl
  refine s4.nm.nd.ldA (Pn.mk ?_)
  rw [add_mk]
  refine LdI.mk ov4 rfl ?_
  show Bm (decide ((catchN n).ap > (catchN n).Y.L.base)) _ _
  refine Bm.ite (fun hgt => Pn.mk (s4.nm.nd.ldA (Pn.mk ?_))) fun hle' => b1 false (by unfold compB; exact (decide_eq_false (by omega)).symm)
  rw [add_mk]
  refine LdI.mk ov4 rfl ?_
  show Bm (decide (IntKind.i64.wrap ((catchN n).ap - (catchN n).Y.L.base) ≥ 4)) _ _
  rw [w64 (x := (catchN n).ap - (catchN n).Y.L.base) (by omega) (by omega)]
  refine Bm.ite (fun h4 => b1 true (by unfold compB; exact (decide_eq_true (by omega)).symm)) fun h4 => Pn.mk ?_
  rw [add_mk]
  refine LdI.mk ov4 rfl (Pn.mk ?_)
  rw [add_mk]
  refine LdI.mk ov4 rfl ?_
  show nodem_Node_after.B1 (some ⟨p, 0, none⟩) mb ml mc t4 dd (some ⟨v, 0, none⟩) (decide (IntKind.i64.wrap ((catchN n).Y.L.last - (catchN n).Y.L.base) ≥ 6)) w4.drew R
  rw [w64 (x := (catchN n).Y.L.last - (catchN n).Y.L.base) (by omega) (by omega)]
  refine b1 _ ?_
  unfold compB
  by_cases h6 : (catchN n).Y.L.last - (catchN n).Y.L.base ≥ 6
  · rw [decide_eq_true h6, decide_eq_true (by omega)]
  · rw [decide_eq_false h6, decide_eq_false (by omega)]
end
end Go.Proofs.Qxb6500430aGreat
