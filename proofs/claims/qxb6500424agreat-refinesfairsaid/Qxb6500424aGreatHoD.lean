/-
  host: the one road out: send, emit.
-/
import Derived.Test.Qxb6500424aGreatHoC
set_option linter.unusedVariables false
set_option linter.unusedSimpArgs false
open Go.Vc
namespace Go.Proofs.Qxb6500424aGreat
theorem bumpN_zero (L : Fm.LinkS) : bumpN L 0 = L := by unfold bumpN; simp
theorem bumpN_succ (L : Fm.LinkS) (n : Nat) : (bumpN L n).bump 0 = bumpN L (n + 1) := by
  unfold bumpN Fm.LinkS.bump
  rw [if_pos rfl]
  simp only [Fm.LinkS.mk.injEq, true_and, and_true]
  push_cast
  omega
theorem bumpN_wf {L : Fm.LinkS} {n : Int} (h : L.Wf n) (k : Nat) : (bumpN L k).Wf (n + k) := by
  refine ⟨h.addr, ?_, ?_, ?_, ?_⟩
  · have := h.out; show 0 ≤ L.out + k ∧ L.out + k ≤ n + k; omega
  · have := h.inn; show 0 ≤ L.inn ∧ L.inn ≤ n + k; omega
  · have := h.bad; show 0 ≤ L.bad ∧ L.bad ≤ n + k; omega
  · have := h.other; show 0 ≤ L.other ∧ L.other ≤ n + k; omega
theorem pktF_len {src dst id : Int} {D : List Int} (hD : D.length ≤ 40) (i : Nat) (hi : i < Ip.cntF D.length) : (Ip.pktF 6 src dst id D i).length ≤ 24 := by
  have hc := Ip.cntF_le hD
  unfold Ip.pktF
  split
  · rw [Ip.pkt_length]; simp; omega
  · rw [Ip.pkt_length]; simp; omega
theorem HsOk.send {n : Int} {h : HS} (k : HsOk n h) (o : OutS) : HsOk (n + 4) (sendH h o).1 := by
  unfold sendH
  split
  · exact k.mono (by omega)
  split
  · have := k.lost
    have k' := k.mono (m := n + 4) (by omega)
    exact ⟨k'.addr, k'.La, k'.L, k'.nx, k'.cr, k'.sk, k'.cs, k'.clk, by show 0 ≤ h.lost + 1 ∧ h.lost + 1 ≤ n + 4; omega, k'.dr, k'.nsd⟩
  · rename_i he hc
    have k' := k.mono (m := n + 4) (by omega)
    have hcr := k.cr
    refine ⟨k'.addr, k'.La, ?_, by show 0 ≤ (h.nx + 1) % 256 ∧ (h.nx + 1) % 256 < 256; omega, by show 0 ≤ h.cr - 1 ∧ h.cr - 1 ≤ 24; omega, k'.sk, k'.cs, k'.clk, k'.lost, k'.dr, k'.nsd⟩
    have e0 : encErr h.addr o.1 o.2.1 o.2.2.length = 0 := by simpa using he
    have hl : (sgB h.addr o).length ≤ 40 := by
      unfold sgB
      rw [encSeg_len]
      unfold encErr at e0
      split at e0
      · cases e0
      split at e0
      · cases e0
      split at e0
      · cases e0
      split at e0
      · cases e0
      split at e0
      · cases e0
      omega
    have hc3 := (Ip.cntF_le hl).2.1
    exact (bumpN_wf k.L _).mono (by omega)
section
variable {w w' w0 : World} {B : HB} {h : HS} {n : Int}
theorem hostLdI {o : Nat} {v : Int} {K : Int → Prop} (k : HostAt w B h) (ho : o < 18) (hv : hostF B h o = .int .i64 v) (hk : K v) : LdI .i64 (Addr.add ⟨B.hp, 0, none⟩ o) w K := by
  rw [add_mk, Nat.zero_add]; exact LdI.fn k.own ho hv hk
theorem hostLdP {o : Nat} {v : Option Addr} {K : Option Addr → Prop} (k : HostAt w B h) (ho : o < 18) (hv : hostF B h o = .pointer v) (hk : K v) : LdP (Addr.add ⟨B.hp, 0, none⟩ o) w K := by
  rw [add_mk, Nat.zero_add]; exact LdP.fn k.own ho hv hk
theorem extVia {X Y : List Nat} {w1 : World} (h : Ext X w0 w) (h' : Ext Y w w1) (hs : ∀ y ∈ Y, y ∈ X ∨ w0.heap.size ≤ y) : Ext X w0 w1 := h.trans' h' (fun y hy hl => by rcases hs y hy with q | q; exact q; omega)
theorem send_ok {o : OutS} {ob sb : Option Addr} {ol oc sl sc : Nat} {F : List (List Int × Nat)} {R : Option Addr → Nat → Nat → World → Prop}
    (hE : Ext B.all w0 w) (hh : HostAt w B h) (ok : HsOk n h) (hn : n ≤ 576460752303423488) (hF : FrL w ob ol oc w0.heap.size F) (hol : ol ≤ 1000) (hD : Rd w sb o.2.2) (hsl : o.2.2.length = sl) (hgt : ∀ e ∈ F, e.2 < w.heap.size)
    (hR : ∀ b' l' c' F' w', FrL w' b' l' c' w0.heap.size F' → F'.map (·.1) = F.map (·.1) ++ (sendH h o).2 → HostAt w' B (sendH h o).1 → Ext B.all w0 w' → Ext (B.all ++ rowBlk ob) w w' → l' ≤ ol + 3 → R b' l' c' w') :
    host_Host_send.Call (some ⟨B.hp, 0, none⟩) ob ol oc o.1 o.2.1.sp o.2.1.dp o.2.1.sq o.2.1.ak o.2.1.fl o.2.1.wn sb sl sc w R := by
  apply host_Host_send.sound
  unfold host_Host_send.B0
  have hz0 := hE.size
  refine New.mk fun s_ w1 es hs1 os he1 => Pn.mk ?_
  have E1 : Ext [] w w1.drew := he1.trans (Ext.drew _ _)
  have k1 := hh.ext0 E1
  refine LdI.fn (o := 0) k1.own (by omega) rfl ?_
  refine LdI.mk os.drew rfl (LdI.mk os.drew rfl (LdI.mk os.drew rfl (LdI.mk os.drew rfl (LdI.mk os.drew rfl (LdI.mk os.drew rfl (LdL.mk os.drew rfl ?_))))))
  have F1 := hF.ext0 E1
  have z1 := E1.size
  refine realEncode_ok (h := o.2.1) (hD.ext0 E1) hsl (fun he w2 he2 => ?_) (fun ek e0 k w2 hk hf2 he2 => ?_)
  · have e1 : sendH h o = (h, []) := by unfold sendH; rw [if_pos (by rw [hsl]; exact he)]
    rw [e1] at hR
    refine Bm.pos (by simpa using he) (hR ob ol oc F w2 (F1.ext0 he2) (by simp) (k1.ext0 he2) (hE.trans' (E1.trans he2) (fun x hx => by cases hx)) (E1.trans he2).nil (by omega))
  refine Bm.neg rfl (Pn.mk ?_)
  have E2 : Ext [] w w2 := E1.trans he2
  have k2 := k1.ext0 he2
  have z2 := he2.size
  refine hostLdP (o := 12) k2 (by omega) rfl ?_
  obtain ⟨S, hip, hrel, ea, en, ec⟩ := k2.P.ex
  have hipl := Own.lt hip
  have hlen : (encSeg h.addr o.1 o.2.1 o.2.2).length = 8 + sl := by rw [encSeg_len, hsl]
  have hsl12 : sl ≤ 12 := by have := ek.n; omega
  have hdst := ek.dst
  have haddr := ok.addr
  refine Ip.realOutput_ok hip (by rw [ea]; omega) (by rw [en]; exact ok.nx) (by rw [ec]; exact ok.cr) hf2.rd0 hlen (Nat.le_refl _) (by omega) (fun k' o' q => by
    simp only [Option.some.injEq, Addr.mk.injEq] at q
    obtain ⟨rfl, _⟩ := q
    exact Own.ne_type hf2.1 hip (by decide)) (fun he => ?_) (fun e3 pb K w3 hpb hpk hip3 he3 => ?_)
  · -- the pace is spent
    have e12 : Ip.outErr o.1 6 (8 + sl) S.credit = 12 ∧ S.credit ≤ 0 := by
      unfold Ip.outErr at he ⊢
      rw [if_neg (by omega), if_neg (by omega), if_neg (by omega)] at he ⊢
      by_cases q : S.credit ≤ 0
      · rw [if_pos q]; exact ⟨rfl, q⟩
      · rw [if_neg q] at he; exact absurd rfl he
    have e1 : sendH h o = ({ h with lost := h.lost + 1 }, []) := by
      unfold sendH
      rw [if_neg (by rw [hsl, e0]; simp), if_pos (by rw [← ec]; exact e12.2)]
    rw [e1] at hR
    rw [e12.1]
    refine Bm.pos rfl (Pn.mk (hostLdI (o := 2) k2 (by omega) rfl (Pn.mk ?_)))
    have hlo := ok.lost
    rw [add_mk, Nat.zero_add, w64 (by omega) (by omega)]
    refine k2.st (h' := { h with lost := h.lost + 1 }) (by omega) rfl (fun j hj => ?_) rfl rfl rfl rfl rfl rfl fun w4 hs4 k4 he4 => ?_
    · by_cases q : j = 2
      · subst q; rfl
      · rw [if_neg q]
        unfold hostF
        simp only [if_neg q]
    · exact hR ob ol oc F w4 ((F1.ext0 he2).keepT he4 (Tys.one k2.own) (by decide) (by decide)) (by simp) k4 (extVia (hE.trans' E2 (fun x hx => by cases hx)) he4 (fun y hy => by simp at hy; subst hy; left; simp [HB.all])) ((E2.nil (T := B.all ++ rowBlk ob)).trans (he4.mono (fun y hy _ => by simp at hy; subst hy; simp [HB.all]))) (by omega)
  -- the packets become frames
  have hcr : ¬ h.cr ≤ 0 := by
    intro q
    unfold Ip.outErr at e3
    rw [if_neg (by omega), if_neg (by omega), if_neg (by omega), if_pos (by rw [ec]; exact q)] at e3
    cases e3
  have e1 : sendH h o = ({ h with nx := (h.nx + 1) % 256, cr := h.cr - 1, L := bumpN h.L (Ip.cntF (8 + sl)) }, frm h.addr o.1 h.nx (encSeg h.addr o.1 o.2.1 o.2.2)) := by
    unfold sendH
    rw [if_neg (by rw [hsl, e0]; simp), if_neg hcr]
    unfold sgB
    rw [hlen]
  rw [e1] at hR
  have hD40 : (encSeg h.addr o.1 o.2.1 o.2.2).length ≤ 40 := by omega
  rw [ea, en] at hpk
  generalize hcnt : Ip.cntF (8 + sl) = cnt at hR hpk
  have hcnt' : Ip.cntF (encSeg h.addr o.1 o.2.1 o.2.2).length = cnt := by rw [hlen]; exact hcnt
  have hc3 : cnt ≤ 3 := by rw [← hcnt']; exact (Ip.cntF_le hD40).2.1
  refine Bm.neg rfl ?_
  have k3 : HostAt w3 B { h with nx := (h.nx + 1) % 256, cr := h.cr - 1, A := h.A } := by
    refine k2.setP ⟨_, hip3, ⟨hrel.perm, hrel.sorted, hrel.kne, hrel.swf, hrel.rwf⟩, ea, ?_, ?_⟩ he3
    · show (S.next + 1) % 256 = _; rw [en]
    · show S.credit - 1 = _; rw [ec]
  have z3 := he3.size
  have F3 : FrL w3 ob ol oc w0.heap.size F := (F1.ext0 he2).keepT he3 (Tys.one hip) (by decide) (by decide)
  have E3 : Ext B.all w0 w3 := extVia (hE.trans' E2 (fun x hx => by cases hx)) he3 (fun y hy => by simp at hy; subst hy; left; simp [HB.all])
  have X3 : Ext (B.all ++ rowBlk ob) w w3 := (E2.nil (T := B.all ++ rowBlk ob)).trans (he3.mono (fun y hy _ => by simp at hy; subst hy; simp [HB.all]))
  have hobl : pb ∉ rowBlk ob := fun q => by have := hF.row.lt pb q; omega
  unfold host_Host_send.L1
  refine ⟨fun m h0' b' l' c' dst' pkb pkl pkc i w' => some ⟨B.hp, 0, none⟩ = h0' ∧ o.1 = dst' ∧ some ⟨pb, 0, none⟩ = pkb ∧ cnt = pkl ∧ cnt = pkc ∧ ∃ (j : Nat) (F' : List (List Int × Nat)), i = (j : Int) ∧ j ≤ cnt ∧ m = cnt - j ∧ l' = ol + j ∧ FrL w' b' l' c' w0.heap.size F' ∧
    F'.map (·.1) = F.map (·.1) ++ (List.range j).map (fun i => Fm.encFrame o.1 h.addr 1 (Ip.pktF 6 h.addr o.1 h.nx (encSeg h.addr o.1 o.2.1 o.2.2) i)) ∧ HostAt w' B { h with nx := (h.nx + 1) % 256, cr := h.cr - 1, L := bumpN h.L j } ∧
    (Own w' pb (fnArr cnt fun j => if j < cnt then Ip.sv (K j) (Ip.pktF 6 h.addr o.1 h.nx (encSeg h.addr o.1 o.2.1 o.2.2) j).length else .slice none 0 0) 81 ∧ ∀ j, j < cnt → Bf w' (K j) (Ip.pktF 6 h.addr o.1 h.nx (encSeg h.addr o.1 o.2.1 o.2.2) j)) ∧ pb ∉ rowBlk b' ∧ Ext B.all w0 w' ∧ Ext (B.all ++ rowBlk ob) w w' ∧ (∀ e ∈ F', e.2 < w'.heap.size) ∧ (∀ y ∈ rowBlk b', y ∈ rowBlk ob ∨ w.heap.size ≤ y), cnt,
    ⟨rfl, rfl, rfl, rfl, rfl, 0, F, rfl, by omega, by omega, rfl, F3, by simp, by rw [bumpN_zero]; exact k3, ⟨hpk.1, fun j hj => (hpk.2.1 j hj).1⟩, hobl, E3, X3, fun e he => (by have := hgt e he; omega), fun y hy => .inl hy⟩, ?_⟩
  rintro m h0' b' l' c' dst' pkb pkl pkc i w' ⟨rfl, rfl, rfl, rfl, rfl, j, F', rfl, hj, rfl, rfl, hF', hmap, kj, ⟨hpo, hpd⟩, hne, hE', hX', hgt', hbk⟩
  unfold host_Host_send.L1b
  refine Bm.ite (fun hlt => Pn.mk ?_) (fun hge => ?_)
  · have hlt' : j < cnt := by omega
    have kd := kj.drew
    refine hostLdP (o := 11) kd (by omega) rfl (Pn.mk ⟨⟨by omega, by omega⟩, ?_⟩)
    have hP := hpd j hlt'
    rw [add_mk, Nat.mul_one, Nat.zero_add, Int.toNat_natCast]
    refine LdL.mk hpo.drew (by rw [fnArr_get _ hlt', if_pos hlt']; rfl) ?_
    have hpl := pktF_len (src := h.addr) (dst := o.1) (id := h.nx) hD40 j (by rw [hcnt']; exact hlt')
    have hwfj := bumpN_wf ok.L j
    refine Fm.realEncode_ok (n := n + j) kd.L hwfj (by omega) (hP.ext0 (Ext.drew _ _)).rd0 rfl (by omega) (fun k' o' q => by
      simp only [Option.some.injEq, Addr.mk.injEq] at q
      obtain ⟨rfl, _⟩ := q
      exact Own.ne_type hP.1.drew kd.L (by decide)) (fun he => ?_) (fun he fk w4 hfk hf4 hr4 he4 => ?_)
    · exfalso
      apply he
      unfold Fm.encErr
      rw [if_neg (by omega), if_neg (by omega), if_neg (by omega)]
    · have E4 : Ext [B.lk] w' w4 := (Ext.drew _ _).trans he4
      rw [bumpN_succ] at hr4
      have k4 : HostAt w4 B { h with nx := (h.nx + 1) % 256, cr := h.cr - 1, L := bumpN h.L (j + 1) } := kj.setL hr4 E4
      have F4 : FrL w4 b' (ol + j) c' w0.heap.size F' := hF'.keepT E4 (Tys.one kj.L) (by decide) (by decide)
      have hLa : (bumpN h.L j).addr = h.addr := ok.La
      rw [hLa] at hf4
      have z4 := E4.size
      have zE := hE'.size
      have hfl : (Fm.encFrame o.1 h.addr 1 (Ip.pktF 6 h.addr o.1 h.nx (encSeg h.addr o.1 o.2.1 o.2.2) j)).length = (Ip.pktF 6 h.addr o.1 h.nx (encSeg h.addr o.1 o.2.1 o.2.2) j).length + 6 := Fm.encFrame_length _ _ _ _
      refine Bm.pos rfl ?_
      rw [← hfl]
      refine F4.push hf4 (by have : w'.heap.size ≤ fk := hfk; omega) (by omega) (fun e he => by have := hgt' e he; have : w'.heap.size ≤ fk := hfk; omega) (by omega) fun b5 c5 w5 hF5 he5 hb5 => ?_
      unfold host_Host_send.B1
      rw [w64 (by omega) (by omega)]
      have hpo4 := E4.own hpo (by simp; exact Own.ne_type hpo kj.L (by decide))
      have z5 := he5.size
      refine ⟨cnt - (j + 1), by omega, rfl, rfl, rfl, rfl, rfl, j + 1, F' ++ [_], by push_cast; rfl, by omega, rfl, by omega, hF5, ?_, ?_, ⟨he5.own hpo4 hne, fun i hi => ?_⟩, ?_, ?_, ?_, ?_, fun y hy => ?_⟩
      · rw [List.map_append, hmap, List.range_succ, List.map_append, ← List.append_assoc]
        rfl
      · exact k4.keep he5 (k4.notin (Tys.row F4.row) (by decide))
      · have hb4 := (hpd i hi).ext E4 (by simp; exact Own.ne_type (hpd i hi).1 kj.L (by decide))
        refine hb4.ext he5 (fun q => ?_)
        obtain ⟨cs, ho⟩ := F4.row.ty q
        exact Own.ne_type hb4.1 ho (by decide) rfl
      · intro q
        rcases hb5 pb q with z | z
        · exact hne z
        · have := hpo4.lt; omega
      · refine extVia (extVia hE' E4 (fun y hy => by simp at hy; subst hy; left; simp [HB.all])) he5 (fun y hy => .inr (hF'.blk y hy))
      · refine (hX'.trans' E4 (fun y hy _ => by simp at hy; subst hy; simp [HB.all])).trans' he5 (fun y hy hl => ?_)
        rcases hbk y hy with q | q
        · exact List.mem_append.2 (.inr q)
        · omega
      · intro e he
        rcases List.mem_append.1 he with q | q
        · have := hgt' e q; omega
        · rw [List.mem_singleton.1 q]
          have := hf4.lt
          show fk < w5.heap.size
          omega
      · rcases hb5 y hy with q | q
        · exact hbk y q
        · have := hX'.size
          exact .inr (by omega)
  · have ej : j = cnt := by omega
    subst ej
    refine hR b' (ol + j) c' F' w' hF' ?_ kj hE' hX' (by omega)
    rw [hmap]
    unfold frm
    rw [hcnt']
end
end Go.Proofs.Qxb6500424aGreat
