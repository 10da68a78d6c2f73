/-
  host: from a step of the hosts to what the law's look wants.
-/
import Derived.Test.Qxb6500424aGreatHrE
import Derived.Test.Qxb6500424aGreatHrC
import Derived.Test.Qxb6500424aGreatHoL
set_option linter.unusedVariables false
set_option linter.unusedSimpArgs false
namespace Go.Proofs.Qxb6500424aGreat
section
variable {T : Int} {t : Nat → TC} {G G' : List GE} {X X' : Nat → CS} {Lg : List LE} {N : List PE} {del : Nat → Int} {i j c : Nat} {g y : GE} {p : Nat}
theorem Ends.prlt (h : Ends T G) (hg : G[i]? = some g) (hp : g.pr = some j) : j < G.length := by
  cases q : g.cl with
  | true =>
    obtain ⟨y, hy, _⟩ := h.est i g hg q j hp
    exact (List.getElem?_eq_some_iff.1 hy).1
  | false =>
    obtain ⟨p, x, hx, kd⟩ := h.kid i g hg q
    have := kd.pr
    rw [hp] at this
    cases this
    exact (List.getElem?_eq_some_iff.1 hx).1
theorem look_same (hE : Ends T G') (hn : NetI G' X' del N) (hl : N.length = G'.length) : LookI G' X' del N :=
  ⟨hn, .inl hl, fun i g j hi hg hp => by rw [hl]; exact hE.prlt hg hp⟩
theorem look_born (hs : Sys T t (G ++ [y]) X' Lg) (hE0 : Ends T G) (hn : NetI (G ++ [y]) X' del N) (hl : N.length = G.length) (hb : Born T c G y p (X' G.length)) (hd : del c ≠ 0) : LookI (G ++ [y]) X' del N := by
  have hy : (G ++ [y])[G.length]? = some y := by rw [List.getElem?_append_right (Nat.le_refl _), Nat.sub_self]; rfl
  have lv := hs.inv.live G.length y hy hb.gone
  obtain ⟨q, hq, q1, q2, q3⟩ := hb.of
  have hp := (List.getElem?_eq_some_iff.1 hq).1
  have hq' : (G ++ [y])[p]? = some q := by rw [List.getElem?_append_left hp]; exact hq
  refine ⟨hn, .inr ⟨by simp; omega, y, p, ?_⟩, fun i g j hi hg hpr => ?_⟩
  · rw [hl]
    refine ⟨hy, hb.cl, hb.pr, hp, hb.z, hb.ot, hb.gone, hb.st, hb.why, (open_A lv (.inr hb.st)).1, by rw [hb.h]; exact hd, q, hq', q1, hs.hlt p q hq', q2, fun k z hk hz hst => ?_⟩
    rw [List.getElem?_append_left hk] at hz
    exact q3 k z hz hst
  · rw [List.getElem?_append_left (by omega)] at hg
    rw [hl]
    exact hE0.prlt hg hpr
theorem Sys.cs (h : Sys T t G X Lg) (hc : c < 3) {s : Nat} (hs : s < 4) : CsOk ((t c).C s) := by
  by_cases q : ∃ a ∈ (t c).K.E, a.1.kind = 2 ∧ a.1.slot = (s : Int)
  · obtain ⟨a, ha, hk, hsl⟩ := q
    obtain ⟨i, g, ro⟩ := (h.tab c hc).row a ha hk
    have e : slotN a = s := by unfold slotN; rw [hsl, Int.toNat_natCast]
    rw [← e, ro.C]
    exact (h.inv.live i g ro.at_ ro.gone).ok
  · rw [(h.tab c hc).free s hs (fun a ha hk he => q ⟨a, ha, hk, he⟩)]
    exact C0_ok
theorem inSeg_nsd (clk src : Int) (s : SegV) (t : TC) : (inSegT clk src s t).1.K.nsd ≤ t.K.nsd + 1 := by
  unfold inSegT
  split
  · unfold toRowT
    split
    · show t.K.nsd ≤ _; omega
    · show (if _ then (Sk.readyA _ t.K).2 else t.K).nsd ≤ _
      split
      · rw [readyA_nsd]; omega
      · omega
  split
  · unfold toLisT
    have := childA_nsd s.1.dp src s.1.sp t.K
    split
    · show t.K.nsd ≤ _; omega
    split
    · exact this
    · split
      · exact this
      · exact this
  split
  · show t.K.nsd ≤ _; omega
  · show t.K.nsd ≤ _; omega
theorem tickT_nsd : ∀ (l : List Int) (t : TC), (tickT l t).1.K.nsd = t.K.nsd
  | [], t => rfl
  | sd :: l, t => by
    show (match Sk.getE t.K.E sd with | none => tickT l t | some a => if a.1.kind ≠ 2 then tickT l t else ((tickT l (tick1T a t).1).1, (tick1T a t).2 ++ (tickT l (tick1T a t).1).2) : TC × List OutS).1.K.nsd = _
    split
    · exact tickT_nsd l t
    · rename_i a _
      by_cases q : a.1.kind ≠ 2
      · rw [if_pos q]; exact tickT_nsd l t
      · rw [if_neg q]
        show (tickT l (tick1T a t).1).1.K.nsd = _
        rw [tickT_nsd l]
        unfold tick1T
        show (if _ then (Sk.freeA _ t.K).2 else t.K).nsd = _
        split
        · rw [freeA_nsd]
        · rfl
end
section
variable {n : Int} {h : HS}
theorem HsOk.input {raw : List Int} (ok : HsOk n h) (hK : Sk.SkOk (inputH h raw).1.t.K) (hC : ∀ s, s < 4 → CsOk ((inputH h raw).1.t.C s)) : HsOk (n + 20) (inputH h raw).1 := by
  unfold inputH at hK hC ⊢
  have lk := fun A => ok.link (Fm.decR h.addr raw).cls A
  split at hK
  · rename_i q
    rw [if_pos q]
    exact ((lk h.A).drop 0).mono (by omega)
  rename_i q
  rw [if_neg q] at hC ⊢
  split at hK
  · rename_i q2
    rw [if_pos q2]
    exact ((lk h.A).drop 1).mono (by omega)
  rename_i q2
  rw [if_neg q2] at hC ⊢
  have k1 := lk (Ip.inF h.addr h.A (Fm.decR h.addr raw).pay).tab
  generalize ({ h with L := h.L.bump (Fm.decR h.addr raw).cls, A := (Ip.inF h.addr h.A (Fm.decR h.addr raw).pay).tab } : HS) = h1 at *
  generalize Ip.inF h.addr h.A (Fm.decR h.addr raw).pay = rr at *
  unfold inIpH at hK hC ⊢
  split at hK
  · rename_i q3
    rw [if_pos q3]
    exact (k1.drop 2).mono (by omega)
  rename_i q3
  rw [if_neg q3] at hC ⊢
  split at hK
  · rename_i q4
    rw [if_pos q4]
    exact (k1.drop 3).mono (by omega)
  rename_i q4
  rw [if_neg q4] at hC ⊢
  split at hK
  · rename_i q5
    rw [if_pos q5]
    exact (k1.drop 4).mono (by omega)
  rename_i q5
  rw [if_neg q5] at hC ⊢
  unfold inTopH at hK hC ⊢
  rw [(sendAllH_t _ _).1] at hK
  simp only [(sendAllH_t _ _).1] at hC
  have hns := inSeg_nsd h1.clk rr.src (decHd rr.data, rr.data.drop 8) h1.t
  have hnn := k1.nsd
  have k2 := (k1.mono (m := n + 2) (by omega)).setT (t := (inSegT h1.clk rr.src (decHd rr.data, rr.data.drop 8) h1.t).1) hK hC (by omega)
  have k3 := HsOk.sends (h := h1) (inSegT h1.clk rr.src (decHd rr.data, rr.data.drop 8) h1.t).2.1 _ _ (k2.drop (inSegT h1.clk rr.src (decHd rr.data, rr.data.drop 8) h1.t).2.2)
  exact k3.mono (by have := inSeg_len h1.clk rr.src (decHd rr.data, rr.data.drop 8) h1.t; omega)
theorem HsOk.tick (ok : HsOk n h) (hK : Sk.SkOk (tickH h).1.t.K) (hC : ∀ s, s < 4 → CsOk ((tickH h).1.t.C s)) : HsOk (n + 60) (tickH h).1 := by
  unfold tickH at hK hC ⊢
  rw [(sendAllH_t _ _).1] at hK
  simp only [(sendAllH_t _ _).1] at hC
  have h1 : HsOk (n + 1) (tickH0 h) := ⟨ok.addr, ok.La, (ok.mono (m := n + 1) (by omega)).L, ok.nx, ⟨by show (0 : Int) ≤ 24; omega, by show (24 : Int) ≤ 24; omega⟩, ok.sk, ok.cs, by have := ok.clk; show 0 ≤ h.clk + 1 ∧ h.clk + 1 ≤ n + 1; omega, (ok.mono (m := n + 1) (by omega)).lost, (ok.mono (m := n + 1) (by omega)).dr, (ok.mono (m := n + 1) (by omega)).nsd⟩
  have k2 := h1.setT (t := (tickT (sdsE h.t.K.E) h.t).1) hK hC (by rw [tickT_nsd]; exact h1.nsd)
  have k3 := HsOk.sends (h := h) (tickT (sdsE h.t.K.E) h.t).2 _ _ k2
  exact k3.mono (by have := tick12 (t := h.t) ok.sk; omega)
theorem HsOk.call {α : Type} {r : CallR α} (ok : HsOk n h) (hK : Sk.SkOk r.t.K) (hC : ∀ s, s < 4 → CsOk (r.t.C s)) (hn : r.t.K.nsd ≤ h.t.K.nsd + 1) (hl : r.G.length ≤ 12) : HsOk (n + 60) (callH h r).1 := by
  unfold callH
  have k2 := (ok.mono (m := n + 1) (by omega)).setT (t := r.t) hK hC (by have := ok.nsd; omega)
  have k3 := HsOk.sends (h := h) r.G _ _ k2
  exact k3.mono (by omega)
end
end Go.Proofs.Qxb6500424aGreat
