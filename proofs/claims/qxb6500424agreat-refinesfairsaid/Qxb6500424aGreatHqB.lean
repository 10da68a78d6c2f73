/-
  host: the plain law of the data link: reassembly never mixes two datagrams.
-/
import Derived.Test.Qxb6500424aGreatHqA
set_option linter.unusedVariables false
set_option linter.unusedSimpArgs false
namespace Go.Proofs.Qxb6500424aGreat
/-- An unfinished datagram at host d is one that was sent to it lately. -/
structure RsOk (T : Int) (d : Nat) (M : Nat → List DG) (r : Ip.AR) (c n : Nat) (g : DG) : Prop where
  c3 : c < 3
  at_ : (M c)[n]? = some g
  dst : g.d = (d : Int) + 1
  key : r.key = ((c : Int) + 1) * 65536 + 1536 + (n : Int) % 256
  left : 1 ≤ r.left ∧ r.left ≤ 4
  tm : T - g.t ≤ 8 - r.left
  cell : ∀ k, k < 40 → Ip.hd r.cell k = -1 ∨ (g.D c)[k]? = some (Ip.hd r.cell k)
  len : r.cell.length = 40
  tot : r.total = -1 ∨ r.total = ((g.D c).length : Int)
def RsAll (T : Int) (d : Nat) (M : Nat → List DG) (A : List Ip.AR) : Prop := ∀ r ∈ A, ∃ c n g, RsOk T d M r c n g
section
variable {c d n i : Nat} {T : Int} {M : Nat → List DG} {A : List Ip.AR} {g : DG} {H : Nat → HS} {Lg : List LE}
theorem RsAll.upd {E : List DG} {c' : Nat} (h : RsAll T d M A) : RsAll T d (updM M c' E) A := fun r hr => by
  obtain ⟨c, n, g, q⟩ := h r hr
  exact ⟨c, n, g, q.c3, updM_at q.at_, q.dst, q.key, q.left, q.tm, q.cell, q.len, q.tot⟩
theorem RsAll.tick (h : RsAll T d M A) : RsAll (T + 1) d M (Ip.tickA A) := fun r hr => by
  simp only [Ip.tickA, List.mem_filter, List.mem_map, decide_eq_true_eq] at hr
  obtain ⟨⟨x, hx, rfl⟩, hpos⟩ := hr
  obtain ⟨c, n, g, q⟩ := h x hx
  have := q.left
  have := q.tm
  exact ⟨c, n, g, q.c3, q.at_, q.dst, q.key, by show 1 ≤ x.left - 1 ∧ x.left - 1 ≤ 4; simp only at hpos; omega, by show T + 1 - g.t ≤ 8 - (x.left - 1); omega, q.cell, q.len, q.tot⟩
/-- What a packet of a datagram bears. -/
structure PkF (src dst id : Int) (D : List Int) (i : Nat) (v : List Int) : Prop where
  v0 : v.getD 0 0 = 6
  v2 : v.getD 2 0 = src
  v3 : v.getD 3 0 = dst
  key : Ip.keyV v = src * 65536 + 1536 + id
  off : Ip.offV v = i * 16
  more : Ip.moreV v = decide (i + 1 < Ip.cntF D.length)
  len8 : 8 ≤ v.length
  dat : v.drop 8 = (D.drop (i * 16)).take (v.length - 8)
  fit : i * 16 + (v.length - 8) ≤ D.length
  last : ¬ i + 1 < Ip.cntF D.length → i * 16 + (v.length - 8) = D.length
theorem pk_facts {src dst id : Int} {D : List Int} (hD : D.length ≤ 40) (hi : i < Ip.cntF D.length) : PkF src dst id D i (Ip.pktF 6 src dst id D i) := by
  have hc := Ip.cntF_le hD
  have key : ∀ (om : Int) (x : List Int), Ip.keyV (Ip.pkt 6 src dst id om x) = src * 65536 + 1536 + id := fun om x => by
    show src * 65536 + 6 * 256 + id = _
    omega
  have hi3 : i = 0 ∨ i = 1 ∨ i = 2 := by omega
  unfold Ip.pktF
  by_cases q : i + 1 < Ip.cntF D.length
  · rw [if_pos q]
    have e := Ip.pkt_length 6 src dst id (((i * 16 + 128 : Nat)) : Int) ((D.drop (i * 16)).take 16)
    have e2 : ((D.drop (i * 16)).take 16).length = 16 := by simp; omega
    rw [e2] at e
    refine ⟨rfl, rfl, rfl, key _ _, ?_, ?_, by omega, ?_, by omega, fun z => absurd q z⟩
    · show ((((i * 16 + 128 : Nat)) : Int) % 128).toNat = _
      omega
    · show decide (128 ≤ (((i * 16 + 128 : Nat)) : Int)) = _
      rw [decide_eq_true q, decide_eq_true (by omega)]
    · rw [e]
      rfl
  · rw [if_neg q]
    have e := Ip.pkt_length 6 src dst id (((i * 16 : Nat)) : Int) (D.drop (i * 16))
    have e2 : (D.drop (i * 16)).length = D.length - i * 16 := by simp
    have hle : i * 16 ≤ D.length := by omega
    rw [e2] at e
    refine ⟨rfl, rfl, rfl, key _ _, ?_, ?_, by omega, ?_, by omega, fun _ => by omega⟩
    · show ((((i * 16 : Nat)) : Int) % 128).toNat = _
      omega
    · show decide (128 ≤ (((i * 16 : Nat)) : Int)) = _
      rw [decide_eq_false q, decide_eq_false (by omega)]
    · rw [e, List.take_of_length_le (by simp)]
      rfl
theorem lay_ok {D : List Int} {cell x : List Int} {o : Nat} (hx : x = (D.drop o).take x.length) (hf : o + x.length ≤ D.length) (hcell : ∀ k, k < 40 → Ip.hd cell k = -1 ∨ D[k]? = some (Ip.hd cell k)) : ∀ k, k < 40 → Ip.hd (Ip.layC cell o x) k = -1 ∨ D[k]? = some (Ip.hd (Ip.layC cell o x) k) := fun k hk => by
  rw [Ip.layC_get hk]
  by_cases q : o ≤ k ∧ k < o + x.length
  · rw [if_pos q]
    right
    have e : x[k - o]? = D[k]? := by
      rw [hx, List.getElem?_take, if_pos (by omega), List.getElem?_drop]
      congr 1
      omega
    obtain ⟨y, hy⟩ : ∃ y, D[k]? = some y := ⟨_, List.getElem?_eq_getElem (by omega)⟩
    rw [hy] at e ⊢
    rw [Ip.getD_of e]
  · rw [if_neg q]
    exact hcell k hk
theorem row_data {D cell : List Int} {tot : Int} (hl : cell.length = 40) (hD : D.length ≤ 40) (hcell : ∀ k, k < 40 → Ip.hd cell k = -1 ∨ D[k]? = some (Ip.hd cell k)) (ht : tot = (D.length : Int)) (hf : ∀ k, k < tot.toNat → 0 ≤ Ip.hd cell k) : cell.take tot.toNat = D := by
  have et : tot.toNat = D.length := by omega
  rw [et] at hf ⊢
  apply List.ext_getElem?
  intro k
  rw [List.getElem?_take]
  by_cases q : k < D.length
  · rw [if_pos q]
    obtain ⟨y, hy⟩ : ∃ y, cell[k]? = some y := ⟨_, List.getElem?_eq_getElem (by omega)⟩
    have e : Ip.hd cell k = y := Ip.getD_of hy
    have h0 := hf k q
    rcases hcell k (by omega) with z | z
    · omega
    · rw [hy, z, e]
  · rw [if_neg q]
    exact (List.getElem?_eq_none (by omega)).symm
theorem nextRow_ok {v : List Int} {r : Ip.AR} (hr : RsOk T d M r c n g) (hD : (g.D c).length ≤ 40) (hv : PkF ((c : Int) + 1) g.d ((n : Int) % 256) (g.D c) i v) (hi : i < Ip.cntF (g.D c).length) : RsOk T d M (Ip.nextRow r v) c n g := by
  refine ⟨hr.c3, hr.at_, hr.dst, hr.key, hr.left, hr.tm, ?_, by simp [Ip.nextRow, Ip.layC], ?_⟩
  · have hl : (v.drop 8).length = v.length - 8 := by simp
    refine lay_ok (o := Ip.offV v) ?_ ?_ hr.cell
    · rw [hl, hv.off]; exact hv.dat
    · rw [hl, hv.off]; exact hv.fit
  · have et : (Ip.nextRow r v).total = if Ip.moreV v = true then r.total else ((Ip.offV v + (v.length - 8) : Nat) : Int) := rfl
    rw [et, hv.more, hv.off]
    by_cases q : i + 1 < Ip.cntF (g.D c).length
    · rw [decide_eq_true q, if_pos rfl]; exact hr.tot
    · have := hv.last q
      rw [decide_eq_false q, if_neg (by simp)]
      right
      omega
/-- A fragment comes to a host. -/
structure GotF (T : Int) (d : Nat) (M : Nat → List DG) (c : Nat) (g : DG) (R : Ip.InR) : Prop where
  tab : RsAll T d M R.tab
  got : R.err = 0 → R.src = (c : Int) + 1 ∧ R.dst = (d : Int) + 1 ∧ R.proto = 6 ∧ R.data = g.D c
theorem got_none {e : Int} (he : e ≠ 0) (h : RsAll T d M A) : GotF T d M c g (Ip.noneR e A) := ⟨h, fun q => absurd q he⟩
theorem remA_ok {key : Int} (h : RsAll T d M A) : RsAll T d M (Ip.remA key A) := fun r hr => h r (List.mem_filter.1 hr).1
theorem frag_ok {v : List Int} {r : Ip.AR} {old : Bool} (hA : RsAll T d M A) (hr : RsOk T d M r c n g) (hD : (g.D c).length ≤ 40) (hv : PkF ((c : Int) + 1) g.d ((n : Int) % 256) (g.D c) i v) (hi : i < Ip.cntF (g.D c).length) : GotF T d M c g (Ip.fragR ((d : Int) + 1) A v r old) := by
  have hn := nextRow_ok hr hD hv hi
  unfold Ip.fragR
  split
  · exact got_none (by decide) (remA_ok hA)
  split
  · rename_i hf
    refine ⟨remA_ok hA, fun _ => ⟨hv.v2, rfl, hv.v0, ?_⟩⟩
    unfold Ip.rowFull at hf
    simp only [Bool.and_eq_true, decide_eq_true_eq, List.all_eq_true, List.mem_range] at hf
    rcases hn.tot with q | q
    · omega
    · exact row_data hn.len hD hn.cell q hf.2
  · refine got_none (by decide) fun x hx => ?_
    split at hx
    · simp only [Ip.setA, List.mem_map] at hx
      obtain ⟨y, hy, rfl⟩ := hx
      split
      · exact ⟨c, n, g, hn⟩
      · exact hA y hy
    · rcases List.mem_cons.1 ((Ip.insA_perm _ A).subset hx) with rfl | q
      · exact ⟨c, n, g, hn⟩
      · exact hA x q
theorem inF_got (hL : ∀ c, c < 3 → LinkOk c T (H c) (M c) Lg) (hA : RsAll T d M A) (hc : c < 3) (hg : (M c)[n]? = some g) (hd : g.d = (d : Int) + 1) (ht : T - 4 ≤ g.t) (hi : i < Ip.cntF (g.D c).length) :
    GotF T d M c g (Ip.inF ((d : Int) + 1) A (Ip.pktF 6 ((c : Int) + 1) g.d ((n : Int) % 256) (g.D c) i)) := by
  have lk := hL c hc
  have hD : (g.D c).length ≤ 40 := by have := DG.len (lk.ok g (List.mem_of_getElem? hg)).1; omega
  have hv := pk_facts (src := (c : Int) + 1) (dst := g.d) (id := (n : Int) % 256) hD hi
  have hle := lk.le hg
  generalize Ip.pktF 6 ((c : Int) + 1) g.d ((n : Int) % 256) (g.D c) i = v at hv
  unfold Ip.inF
  split
  · exact got_none (by decide) hA
  split
  · exact got_none (by decide) hA
  split
  · exact got_none (by decide) hA
  split
  · exact got_none (by decide) hA
  split
  · exact got_none (by decide) hA
  split
  · exact got_none (by decide) hA
  split
  · exact got_none (by decide) hA
  split
  · rename_i hw
    refine ⟨hA, fun _ => ⟨hv.v2, rfl, hv.v0, ?_⟩⟩
    show v.drop 8 = g.D c
    have e0 : i = 0 := by have := hv.off; omega
    have e1 : ¬ i + 1 < Ip.cntF (g.D c).length := by have := hv.more; rw [hw.2] at this; simpa using this.symm
    have := hv.last e1
    rw [hv.dat, e0, Nat.zero_mul, List.drop_zero, List.take_of_length_le (by omega)]
  · split
    · rename_i r hr
      have hm := List.mem_of_find?_eq_some hr
      have hs := List.find?_some hr
      simp only [decide_eq_true_eq] at hs
      obtain ⟨c2, n2, g2, q⟩ := hA r hm
      have k1 := q.key
      have k2 := hv.key
      have ec : c2 = c := by omega
      subst ec
      have le2 := lk.le q.at_
      have := q.left
      have := q.tm
      have en : n2 = n := lk.ids q.at_ hg (by omega) (by omega) (by omega)
      subst en
      have eg : g2 = g := by have := q.at_; rw [hg] at this; cases this; rfl
      subst eg
      exact frag_ok hA q hD hv hi
    · split
      · exact got_none (by decide) hA
      · refine frag_ok hA ⟨hc, hg, hd, hv.key, by simp [Ip.freshRow], by show T - g.t ≤ 8 - 4; omega, fun k hk => .inl ?_, by simp [Ip.freshRow], .inl rfl⟩ hD hv hi
        show (List.replicate 40 (-1 : Int)).getD k (-1) = -1
        rw [List.getD, List.getElem?_replicate, if_pos hk]
        rfl
/-- What a delivered frame does at a host. -/
theorem input_cases {f : FL} (hL : ∀ c, c < 3 → LinkOk c T (H c) (M c) Lg) (hA : RsAll T d M (H d).A) (hd : d < 3) (hf : FrOk T M f c n i g) (ha : f.age ≤ 4) :
    ((inputH (H d) f.raw).2 = [] ∧ ∃ L' A' dr', (inputH (H d) f.raw).1 = { H d with L := L', A := A', dr := dr' } ∧ RsAll T d M A') ∨
    (f.fl = false ∧ g.d = (d : Int) + 1 ∧ T - 4 ≤ g.t ∧ ∃ L' A', inputH (H d) f.raw = inTopH { H d with L := L', A := A' } ((c : Int) + 1) g.s ∧ RsAll T d M A') := by
  have lk := hL c hf.c3
  have hk := (lk.ok g (List.mem_of_getElem? hf.at_)).1
  have hD : (g.D c).length ≤ 40 := by have := DG.len hk; omega
  have had := (hL d hd).addr
  have hpl : (Ip.pktF 6 ((c : Int) + 1) g.d ((n : Int) % 256) (g.D c) i).length ≤ 24 := by
    have hc := Ip.cntF_le hD
    unfold Ip.pktF
    split
    · rw [Ip.pkt_length]; simp; omega
    · rw [Ip.pkt_length]; simp; omega
  cases hfl : f.fl with
  | true =>
    left
    obtain ⟨j, x, y, h1, h2, h3, h4, h5⟩ := hf.flip hfl
    have := Fm.decR_flip (a := (H d).addr) hpl h1 h2 h3 h4
    have hne : (Fm.decR (H d).addr f.raw).err ≠ 0 := by
      rw [h5]
      unfold DG.fr
      omega
    unfold inputH
    rw [if_pos hne]
    exact ⟨rfl, _, _, _, rfl, hA⟩
  | false =>
    have hraw := hf.raw hfl
    have hage := hf.age ha
    have a0 := hf.a0
    by_cases hdst : g.d = (d : Int) + 1
    · have hdec := Fm.decR_enc (dst := g.d) (addr := (c : Int) + 1) (typ := 1) (a := (H d).addr) hpl (by rw [had]; exact hdst)
      have hdec' : Fm.decR (H d).addr f.raw = ⟨0, 1, g.d, (c : Int) + 1, 1, Ip.pktF 6 ((c : Int) + 1) g.d ((n : Int) % 256) (g.D c) i⟩ := by rw [hraw]; exact hdec
      have gt := inF_got (H := H) (Lg := Lg) hL hA hf.c3 hf.at_ hdst (by omega) hf.il
      rw [← had] at gt
      unfold inputH
      rw [hdec']
      rw [if_neg (fun q => q rfl), if_neg (fun q => q rfl)]
      show ((inIpH { H d with L := (H d).L.bump 1, A := (Ip.inF (H d).addr (H d).A (Ip.pktF 6 ((c : Int) + 1) g.d ((n : Int) % 256) (g.D c) i)).tab } (Ip.inF (H d).addr (H d).A (Ip.pktF 6 ((c : Int) + 1) g.d ((n : Int) % 256) (g.D c) i))).2 = [] ∧ _) ∨ _
      generalize Ip.inF (H d).addr (H d).A (Ip.pktF 6 ((c : Int) + 1) g.d ((n : Int) % 256) (g.D c) i) = R at gt
      show _ ∨ (_ ∧ _ ∧ _ ∧ ∃ L' A', inIpH { H d with L := (H d).L.bump 1, A := R.tab } R = _ ∧ _)
      unfold inIpH
      by_cases he : R.err ≠ 0
      · rw [if_pos he]
        exact .inl ⟨rfl, _, _, _, rfl, gt.tab⟩
      rw [if_neg he]
      obtain ⟨r1, r2, r3, r4⟩ := gt.got (by simpa using he)
      rw [if_neg (by simp [r3]), r1, r2, r4]
      have e0 : decErr ((c : Int) + 1) ((d : Int) + 1) (g.D c) = 0 := by
        rw [← hdst]
        exact round_err hk
      rw [if_neg (by simp [e0])]
      right
      refine ⟨rfl, hdst, by omega, (H d).L.bump 1, R.tab, ?_, gt.tab⟩
      have e1 : (decHd (g.D c), (g.D c).drop 8) = g.s := by
        unfold DG.D
        rw [enc_hd, enc_drop]
      rw [e1]
    · left
      have hfe := Fm.frameErr_enc (dst := g.d) (addr := (c : Int) + 1) (typ := 1) hpl
      have e0 : (Fm.encFrame g.d ((c : Int) + 1) 1 (Ip.pktF 6 ((c : Int) + 1) g.d ((n : Int) % 256) (g.D c) i)).getD 0 0 = g.d := rfl
      have hne : (Fm.decR (H d).addr f.raw).err ≠ 0 := by
        rw [hraw]
        unfold DG.fr Fm.decR
        rw [if_neg (by simp [hfe]), e0, if_pos (by rw [had]; exact hdst)]
        decide
      unfold inputH
      rw [if_pos hne]
      exact ⟨rfl, _, _, _, rfl, hA⟩
end
end Go.Proofs.Qxb6500424aGreat
