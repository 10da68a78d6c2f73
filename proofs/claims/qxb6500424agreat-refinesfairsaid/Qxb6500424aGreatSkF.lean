/-
  sock: Lookup, Listen, Connect, Child of the real table.
-/
import Derived.Test.Qxb6500424aGreatSkE
set_option linter.unusedVariables false
open Go.Vc
namespace Go.Proofs.Qxb6500424aGreat.Sk

def RAt (w : World) (b : Nat) (S : SkS) : Prop := ∃ T F C occ, TAt w b T ∧ Rel T S F C occ
theorem RAt.ext {w w' : World} {b : Nat} {S : SkS} {X : List Nat} (h : RAt w b S) (he : Ext X w w') (hb : b ∉ X) : RAt w' b S := by
  obtain ⟨T, F, C, o, h, hr⟩ := h
  exact ⟨T, F, C, o, h.ext he hb, hr⟩
theorem RAt.ext0 {w w' : World} {b : Nat} {S : SkS} (h : RAt w b S) (he : Ext [] w w') : RAt w' b S := h.ext he (by simp)
theorem RAt.lt {w : World} {b : Nat} {S : SkS} (h : RAt w b S) : b < w.heap.size := by
  obtain ⟨T, F, C, o, h, hr⟩ := h
  exact h.lt
theorem part_len (p : AE → Bool) : ∀ E : List AE, E.length = (E.filter p).length + (E.filter fun a => !p a).length
  | [] => rfl
  | a :: E => by
    have ih := part_len p E
    simp only [List.filter_cons, List.length_cons]
    cases p a <;> simp <;> omega
theorem lowF_congr {f g : Nat → Bool} (h : ∀ s, s < 4 → f s = g s) : lowF f = lowF g := by
  unfold lowF
  rw [h 0 (by omega), h 1 (by omega), h 2 (by omega), h 3 (by omega)]
section
variable {T : Tbl} {S : SkS} {F : List Nat} {C : Nat → List Nat} {occ : Nat → Bool}
theorem Rel.occE (h : Rel T S F C occ) {s : Nat} (hs : s < 4) : occ s = Sk.occE S.E s := by
  apply Bool.eq_iff_iff.2
  rw [h.rs.occ s hs, occE_iff]
  constructor
  · rintro ⟨i, hi, u, k, sl⟩
    obtain ⟨a, ha, e⟩ := h.toE hi u
    exact ⟨a, ha, by rw [e]; exact k, by rw [e]; exact sl⟩
  · rintro ⟨a, ha, k, sl⟩
    obtain ⟨i, hi, u, e⟩ := h.toT ha
    exact ⟨i, hi, u, by rw [e]; exact k, by rw [e]; exact sl⟩
theorem Rel.low (h : Rel T S F C occ) : lowF occ = lowE S.E := lowF_congr fun s hs => h.occE hs
/-- The blocks of the SkConn rows. -/
theorem slots_len (hS : SkOk S) (X : List Nat) (hX : X.Nodup) (hX4 : ∀ x ∈ X, x < 4) (hd : ∀ x ∈ X, ∀ a ∈ S.E, a.1.kind = 2 → a.1.slot ≠ (x : Int)) : X.length + (S.E.filter fun a => !isL a).length ≤ 4 := by
  have hn : (X ++ (S.E.filter fun a => !isL a).map fun a => a.1.slot.toNat).Nodup := by
    refine List.nodup_append.2 ⟨hX, ?_, ?_⟩
    · unfold List.Nodup
      rw [List.pairwise_map]
      refine List.Pairwise.imp_of_mem (fun {a c} ha hc hac e => hac ?_) (List.Pairwise.filter _ hS.ei.nd)
      have ha' := List.mem_filter.1 ha
      have hc' := List.mem_filter.1 hc
      have k1 : a.1.kind = 2 := by
        have := (hS.ei.ok a ha'.1).kind
        have h2 := ha'.2
        simp [isL] at h2
        omega
      have k2 : c.1.kind = 2 := by
        have := (hS.ei.ok c hc'.1).kind
        have h2 := hc'.2
        simp [isL] at h2
        omega
      have s1 := (hS.ei.ok a ha'.1).con k1
      have s2 := (hS.ei.ok c hc'.1).con k2
      exact hS.ei.slt a ha'.1 c hc'.1 k1 k2 (by omega)
    · intro x hx y hy e
      obtain ⟨a, ha, rfl⟩ := List.mem_map.1 hy
      have ha' := List.mem_filter.1 ha
      have k1 : a.1.kind = 2 := by
        have := (hS.ei.ok a ha'.1).kind
        have h2 := ha'.2
        simp [isL] at h2
        omega
      have s1 := (hS.ei.ok a ha'.1).con k1
      exact hd x hx a ha'.1 k1 (by omega)
  have := nodup_len 4 hn fun x hx => by
    rcases List.mem_append.1 hx with hx | hx
    · exact hX4 x hx
    · obtain ⟨a, ha, rfl⟩ := List.mem_map.1 hx
      have ha' := List.mem_filter.1 ha
      have k1 : a.1.kind = 2 := by
        have := (hS.ei.ok a ha'.1).kind
        have h2 := ha'.2
        simp [isL] at h2
        omega
      have s1 := (hS.ei.ok a ha'.1).con k1
      omega
  rw [List.length_append, List.length_map] at this
  exact this
theorem Rel.free (h : Rel T S F C occ) (hS : SkOk S) (hl : S.E.length ≤ 5) : ∃ i F', F = i :: F' := by
  cases hF : F with
  | cons i F' => exact ⟨i, F', rfl⟩
  | nil =>
    have : (Lri T 6).length = 6 := Lri_full 6 fun i hi => by
      cases hu : (T.rows i).used with
      | true => rfl
      | false =>
        have := (h.rs.fmem i).2 ⟨hi, hu⟩
        rw [hF] at this
        cases this
    have hp := h.perm.length_eq
    rw [List.length_map] at hp
    unfold Lr at hp
    omega
theorem Rel.free_slot (h : Rel T S F C occ) (hS : SkOk S) (hlow : lowE S.E ≠ -1) : ∃ i F', F = i :: F' := by
  obtain ⟨s, hs, e, hf⟩ := lowF_some hlow
  have h1 := slots_len hS [s] (by simp) (fun x hx => by rw [List.mem_singleton] at hx; omega) (fun x hx a ha k sl => by
    rw [List.mem_singleton] at hx
    subst hx
    have := occE_iff.2 ⟨a, ha, k, sl⟩
    rw [hf] at this
    cases this)
  have h2 := part_len isL S.E
  have h3 := hS.ei.lis
  simp only [List.length_cons, List.length_nil] at h1
  exact h.free hS (by omega)
theorem Rel.free_lis (h : Rel T S F C occ) (hS : SkOk S) (hl : (S.E.filter isL).length ≤ 1) : ∃ i F', F = i :: F' := by
  have h1 := slots_len hS [] (by simp) (fun x hx => by cases hx) (fun x hx => by cases hx)
  have h2 := part_len isL S.E
  simp only [List.length_nil] at h1
  exact h.free hS (by omega)
/-! ### new rows, plainly -/
theorem ring_add {r r' : Row} {E : List AE} {e : Ent} (h : RingOk r E) (hr : e.rdy = false) (h1 : r'.e = r.e) (h2 : r'.next = r.next) (h3 : r'.head = r.head) (h4 : r'.n = r.n) (h5 : r'.r0 = r.r0) (h6 : r'.r1 = r.r1) (hk : r'.kids = r.kids + (if e.par = r.e.sd then 1 else 0)) : RingOk r' (E ++ [(e, 0)]) := by
  obtain ⟨a, b, hd, L, q1, q2, q3, q4, q5, q6⟩ := h
  refine ⟨by rw [h2]; exact a, ?_, hd, L, q1, by rw [h3]; exact q2, q3, ?_, by rw [h4]; exact q5, fun k x hx => ?_⟩
  · rw [hk, b, h1, List.filter_append]
    by_cases c : e.par = r.e.sd
    · rw [if_pos c, List.filter_cons_of_pos (by simp [kidOf, c])]
      simp
    · rw [if_neg c, List.filter_cons_of_neg (by simp [kidOf, c])]
      simp
  · rw [h1, List.filter_append, List.filter_cons_of_neg (by simp [rdyOf, hr])]
    simpa using q4
  · have := q6 k x hx
    unfold rg at this ⊢
    rw [h5, h6]
    exact this
theorem SkOk.add (h : SkOk S) {e : Ent} (hsd : e.sd = S.nsd) (hok : EntOk e) (hr : e.rdy = false)
    (hpar : e.par ≠ 0 → (∃ l ∈ S.E, l.1.kind = 1 ∧ l.1.sd = e.par ∧ l.1.lp = e.lp) ∧ (S.E.filter (kidOf e.par)).length ≤ 1)
    (htup : e.kind = 2 → ∀ b ∈ S.E, b.1.kind = 2 → ¬ (b.1.lp = e.lp ∧ b.1.rh = e.rh ∧ b.1.rp = e.rp)) (hprt : e.kind = 1 → (∀ b ∈ S.E, b.1.kind = 1 → b.1.lp ≠ e.lp) ∧ (S.E.filter isL).length ≤ 1)
    (hslt : e.kind = 2 → ∀ b ∈ S.E, b.1.kind = 2 → b.1.slot ≠ e.slot) {p : Int} (hp : 8 ≤ p ∧ p ≤ 15) : SkOk ⟨S.E ++ [(e, 0)], S.nsd + 1, p, S.tick⟩ := by
  have hn := h.nsd
  refine ⟨?_, (h.ei.add h.nsd hsd hok hr hpar htup hprt hslt).perm (List.perm_append_singleton ..).symm, by show 1 ≤ S.nsd + 1; omega, hp⟩
  refine List.pairwise_append.2 ⟨h.asc, List.pairwise_singleton .., fun a ha c hc => ?_⟩
  rw [List.mem_singleton] at hc
  subst hc
  have := h.ei.sd a ha
  show a.1.sd.toNat < e.sd.toNat
  omega
theorem Rel.perm_add (h : Rel T S F C occ) {T' : Tbl} {i : Nat} (hi : i < 6) (hu : (T.rows i).used = false) (hr : ∀ j, j ≠ i → (T'.rows j).used = (T.rows j).used ∧ (T'.rows j).e = (T.rows j).e) {e : Ent} (hi' : (T'.rows i).used = true ∧ (T'.rows i).e = e) : (Lr T').Perm ((S.E ++ [(e, 0)]).map fun a : AE => a.1) := by
  have h1 := flat_upd (f := fun j => lvr (T.rows j)) (g := fun j => lvr (T'.rows j)) (i := i) (fun j hj => by
    have := hr j hj
    unfold lvr
    rw [this.1, this.2]) (List.range 6) List.nodup_range (List.mem_range.2 hi)
  have e1 : lvr (T.rows i) = [] := by unfold lvr; rw [hu]; rfl
  have e2 : lvr (T'.rows i) = [e] := by unfold lvr; rw [hi'.1, hi'.2]; rfl
  rw [e1, e2, List.nil_append] at h1
  rw [List.map_append]
  exact (h1.trans (h.perm.cons e)).trans (List.perm_append_singleton ..).symm
end
section
variable {w : World} {b : Nat} {S : SkS} {T : Tbl} {F : List Nat} {C : Nat → List Nat} {occ : Nat → Bool}
theorem lookup_ok {lp rh rp : Int} {R : Int → World → Prop} (ht : TAt w b T) (h : Rel T S F C occ) (hS : SkOk S) (hR : ∀ w', Ext [] w w' → R (lookE S.E lp rh rp) w') : sock_Table_Lookup.Call (some ⟨b, 0, none⟩) lp rh rp w R := by
  apply sock_Table_Lookup.sound
  unfold sock_Table_Lookup.B0
  have hlt := hsh_lt lp rh rp
  have hlen := h.rs.clen hlt
  have hch := h.rs.ch _ hlt
  refine Pn.mk (hash_ok ⟨⟨by omega, by omega⟩, ht.drew.ldBkt hlt ?_⟩)
  refine ⟨fun m t' lp' rh' rp' j n w' => ∃ (P Q : List Nat), m = Q.length ∧ some ⟨b, 0, none⟩ = t' ∧ lp = lp' ∧ rh = rh' ∧ rp = rp' ∧ C (hsh lp rh rp) = P ++ Q ∧ Lk (nx T) j Q ∧ n = (P.length : Int) ∧ (∀ x ∈ P, ¬ ((T.rows x).e.lp = lp ∧ (T.rows x).e.rh = rh ∧ (T.rows x).e.rp = rp)) ∧ Ext [] w w', _,
    ⟨[], C (hsh lp rh rp), rfl, rfl, rfl, rfl, rfl, rfl, hch, rfl, (fun x hx => by cases hx), Ext.drew _ _⟩, ?_⟩
  rintro m t' lp' rh' rp' j n w' ⟨P, Q, rfl, rfl, rfl, rfl, rfl, hPQ, hlk, rfl, hno, he⟩
  have hl2 : P.length + Q.length ≤ 6 := by rw [hPQ, List.length_append] at hlen; exact hlen
  unfold sock_Table_Lookup.L1b
  cases Q with
  | nil =>
    rw [hlk]
    refine Bm.neg (by decide) ?_
    unfold sock_Table_Lookup.B1
    refine Bm.neg rfl ?_
    have h0 : lookE S.E lp rh rp = 0 := lookE_none fun a ha hp => by
      have hp' := lookP_iff.1 hp
      obtain ⟨i, hi, u, e⟩ := h.toT ha
      have hm : i ∈ C (hsh lp rh rp) := (h.rs.cmem _ hlt i).2 ⟨hi, u, by rw [e]; exact hp'.1, by unfold hE; rw [e, hp'.2.1, hp'.2.2.1, hp'.2.2.2]⟩
      rw [hPQ, List.append_nil] at hm
      exact hno i hm ⟨by rw [e]; exact hp'.2.1, by rw [e]; exact hp'.2.2.1, by rw [e]; exact hp'.2.2.2⟩
    have := hR w' he
    rw [h0] at this
    exact this
  | cons q Q =>
    have hq := (h.rs.cmem _ hlt q).1 (by rw [hPQ]; simp)
    rw [hlk.1]
    simp only [List.length_cons] at hl2
    refine Bm.pos (by simp) ?_
    rw [decide_eq_true (by omega)]
    unfold sock_Table_Lookup.B1
    have ht' := ht.ext0 he
    refine Bm.pos rfl (Pn.mk ⟨⟨by omega, by omega⟩, ht'.ldEnt hq.1 (NewSet.mk rfl rfl fun a w1 ha hs1 ho1 he1 => ?_)⟩)
    have ho : Own w1 a (entVs (T.rows q).e).toArray T_api_SockEntry := ho1
    have e1 := he.trans he1
    have go : ¬ ((T.rows q).e.lp = lp ∧ (T.rows q).e.rh = rh ∧ (T.rows q).e.rp = rp) → sock_Table_Lookup.B2 (some ⟨b, 0, none⟩) lp rh rp (q : Int) (P.length : Int) a false w1 (fun t' lp' rh' rp' j n w' => ∃ m', m' < (q :: Q).length ∧ ∃ (P Q : List Nat), m' = Q.length ∧ some ⟨b, 0, none⟩ = t' ∧ lp = lp' ∧ rh = rh' ∧ rp = rp' ∧ C (hsh lp rh rp) = P ++ Q ∧ Lk (nx T) j Q ∧ n = (P.length : Int) ∧ (∀ x ∈ P, ¬ ((T.rows x).e.lp = lp ∧ (T.rows x).e.rh = rh ∧ (T.rows x).e.rp = rp)) ∧ Ext [] w w') R := fun hne => by
      unfold sock_Table_Lookup.B2
      refine Bm.neg rfl (Pn.mk ⟨⟨by omega, by omega⟩, (ht'.ext0 he1).ldNext hq.1 ⟨Q.length, by simp, P ++ [q], Q, rfl, rfl, rfl, rfl, rfl, by rw [hPQ]; simp, hlk.2, ?_, fun x hx => ?_, e1⟩⟩)
      · rw [w64 (by omega) (by omega)]
        simp
      · rcases List.mem_append.1 hx with hx | hx
        · exact hno x hx
        · rw [List.mem_singleton] at hx
          subst hx
          exact hne
    refine LdI.mk ho rfl (Bm.mk (fun q1 => LdI.mk ho rfl (Bm.mk (fun q2 => LdI.mk ho rfl ?_) fun q2 => go fun z => by rw [z.2.1] at q2; simp at q2)) fun q1 => go fun z => by rw [z.1] at q1; simp at q1)
    have q1' : (T.rows q).e.lp = lp := by simpa using q1
    have q2' : (T.rows q).e.rh = rh := by simpa using q2
    by_cases q3 : (T.rows q).e.rp = rp
    · rw [show ((T.rows q).e.rp == rp) = true by simp [q3]]
      unfold sock_Table_Lookup.B2
      refine Bm.pos rfl (LdI.mk ho rfl ?_)
      obtain ⟨c, hc, ec⟩ := h.toE hq.1 hq.2.1
      have hlook := lookE_some (lp := lp) (rh := rh) (rp := rp) hS.ei hc (lookP_iff.2 (by rw [ec]; exact ⟨hq.2.2.1, q1', q2', q3⟩))
      have := hR w1 e1
      rw [hlook, ec] at this
      exact this
    · rw [show ((T.rows q).e.rp == rp) = false by simp [q3]]
      exact go fun z => q3 z.2.2
def connT (T : Tbl) (i : Nat) (e : Ent) (blk : Int) : Tbl := linkT { updR { takeT T i with nsd := T.nsd + 1 } i ⟨true, e, -1, 0, 0, 0, 0, 0⟩ with blk := blk } i
theorem connT_rows {T : Tbl} {i : Nat} {e : Ent} {blk : Int} {j : Nat} (h : j ≠ i) : (connT T i e blk).rows j = T.rows j := by
  simp [connT, linkT, updR, takeT, h]
theorem connT_row {T : Tbl} {i : Nat} {e : Ent} {blk : Int} : (connT T i e blk).rows i = ⟨true, e, T.bkt (hE e), 0, 0, 0, 0, 0⟩ := by
  simp [connT, linkT, updR, takeT]
theorem conn_ok {i : Nat} {F' : List Nat} {lp rh rp par : Int} {s : Nat} {R : Int → World → Prop} (ht : TAt w b T) (hl : Lk (nx T) T.free (i :: F')) (hi : i < 6) (hs : s < 4) (hn : 1 ≤ T.nsd ∧ T.nsd ≤ 4611686018427387904) (hocc : T.blk = blkOf occ)
    (hR : ∀ w', TAt w' b (connT T i ⟨T.nsd, 2, lp, rh, rp, (s : Int), par, false⟩ (blkOf (updB occ s true))) → Ext [b] w w' → R T.nsd w') : sock_Table_conn.Call (some ⟨b, 0, none⟩) lp rh rp (s : Int) par w R := by
  apply sock_Table_conn.sound
  unfold sock_Table_conn.B0
  refine take_ok ht hl hi fun w1 h1 he1 => Bm.neg (by simp) (Pn.mk (h1.ldNsd (Pn.mk (h1.ldNsd (Pn.mk (h1.stNsd fun w2 hs2 h2 he2 => Pn.mk ⟨⟨by omega, by omega⟩, ?_⟩))))))
  have hn' : (takeT T i).nsd = T.nsd := rfl
  rw [hn', w64 (by omega) (by omega)] at h2
  rw [hn']
  refine h2.stEnt (e := ⟨T.nsd, 2, lp, rh, rp, (s : Int), par, false⟩) hi fun w3 hs3 h3 he3 => Pn.mk (h3.drew.ldBlk (bitOf_ok hs ⟨h3.drew.cellBlk, Pn.mk ?_⟩))
  have hb : (updR { takeT T i with nsd := T.nsd + 1 } i { ({ takeT T i with nsd := T.nsd + 1 } : Tbl).rows i with e := ⟨T.nsd, 2, lp, rh, rp, (s : Int), par, false⟩ }).blk = blkOf occ := hocc
  rw [hb]
  show Sts [.int .u8 (or8 (blkOf occ) (bitI s))] _ 0 _ _
  rw [blk_or occ hs]
  refine h3.drew.stBlk fun w4 hs4 h4 he4 => link_ok h4 hi fun w5 h5 he5 => hR w5 ?_ (((((he1.trans he2).trans he3).trans (Ext.drew _ _)).trans he4).trans he5)
  have hrow : ({ takeT T i with nsd := T.nsd + 1 } : Tbl).rows i = ⟨true, zE, -1, 0, 0, 0, 0, 0⟩ := by simp [takeT, updR]
  rw [hrow] at h5
  exact h5
/-- The structures behind a new SkConn row. -/
theorem Rel.conn {i : Nat} {F' : List Nat} {e : Ent} {s : Nat} {T' : Tbl} {p : Int} (h : Rel T S (i :: F') C occ) (hk : e.kind = 2) (hr : e.rdy = false) (hs : e.slot = (s : Int)) (hs4 : s < 4)
    (hro : ∀ j, j ≠ i → (T'.rows j).used = (T.rows j).used ∧ (T'.rows j).e = (T.rows j).e ∧ (T'.rows j).next = (T.rows j).next ∧ (T'.rows j).head = (T.rows j).head ∧ (T'.rows j).n = (T.rows j).n ∧ (T'.rows j).r0 = (T.rows j).r0 ∧ (T'.rows j).r1 = (T.rows j).r1 ∧ (j < 6 → (T.rows j).used = true → (T.rows j).e.kind = 1 → (T'.rows j).kids = (T.rows j).kids + (if e.par = (T.rows j).e.sd then 1 else 0)))
    (hi : (T'.rows i).used = true ∧ (T'.rows i).e = e ∧ (T'.rows i).next = T.bkt (hE e)) (h1 : T'.free = (T.rows i).next) (h2 : T'.bkt = updN T.bkt (hE e) (i : Int)) (h3 : T'.port = T.port) (h4 : T'.blk = blkOf (updB occ s true)) (h5 : T'.lis = T.lis) (h6 : T'.nsd = T.nsd + 1) (h7 : T'.eph = p) :
    Rel T' ⟨S.E ++ [(e, 0)], S.nsd + 1, p, S.tick⟩ F' (updC C (hE e) (i :: C (hE e))) (updB occ s true) := by
  have hi6 := (h.rs.fmem i).1 (List.mem_cons_self ..)
  refine ⟨h.perm_add hi6.1 hi6.2 (fun j hj => ⟨(hro j hj).1, (hro j hj).2.1⟩) ⟨hi.1, hi.2.1⟩, h.rs.addConn hk hs hs4 (fun j hj => ?_) hi h1 h2 h3 h4, fun j hj u k => ?_, ?_, by rw [h6, h.nsd], h7⟩
  · have := hro j hj
    exact ⟨this.1, this.2.2.1, by rw [this.2.1], by rw [this.2.1], by rw [this.2.1], by rw [this.2.1], by rw [this.2.1]⟩
  · have hji : j ≠ i := fun z => by rw [z, hi.2.1, hk] at k; omega
    have q := hro j hji
    have u' : (T.rows j).used = true := by rw [← q.1]; exact u
    have k' : (T.rows j).e.kind = 1 := by rw [← q.2.1]; exact k
    exact ring_add (h.ring j hj u' k') hr q.2.1 q.2.2.1 q.2.2.2.1 q.2.2.2.2.1 q.2.2.2.2.2.1 q.2.2.2.2.2.2.1 (q.2.2.2.2.2.2.2 hj u' k')
  · rw [h5, h.lis]
    show _ = (((S.E ++ [(e, 0)]).filter isL).length : Int)
    rw [List.filter_append, List.filter_cons_of_neg (by simp [isL, hk])]
    simp
theorem port_of (h : Rel T S F C occ) (hS : SkOk S) (p : Int) : (lrow T p = -1 ∧ lisE S.E p = 0) ∨ ∃ (i : Nat) (a : AE), i < 6 ∧ lrow T p = (i : Int) ∧ (T.rows i).used = true ∧ (T.rows i).e.kind = 1 ∧ (T.rows i).e.lp = p ∧ a ∈ S.E ∧ a.1 = (T.rows i).e ∧ lisE S.E p = a.1.sd ∧ 1 ≤ p ∧ p < 8 := by
  unfold lrow
  by_cases hp : 1 ≤ p ∧ p < 8
  · rw [if_pos hp]
    obtain ⟨q, rfl⟩ : ∃ q : Nat, p = q := ⟨p.toNat, by omega⟩
    rw [Int.toNat_natCast]
    rcases h.rs.prt q (by omega) (by omega) with ⟨z1, z2⟩ | ⟨i, hi, z1, z2, z3, z4⟩
    · refine .inl ⟨z1, lisE_none fun a ha hl => ?_⟩
      have hl' := lisP_iff.1 hl
      obtain ⟨i, hi, u, e⟩ := h.toT ha
      exact z2 i hi u (by rw [e]; exact hl'.1) (by rw [e]; exact hl'.2)
    · obtain ⟨a, ha, e⟩ := h.toE hi z1
      exact .inr ⟨i, a, hi, z4, z1, z2, z3, ha, e, lisE_some hS.ei ha (lisP_iff.2 (by rw [e]; exact ⟨z2, z3⟩)), hp.1, hp.2⟩
  · rw [if_neg hp]
    refine .inl ⟨rfl, lisE_none fun a ha hl => ?_⟩
    have hl' := lisP_iff.1 hl
    have := (hS.ei.ok a ha).lis hl'.1
    omega
theorem realListener_ok {p : Int} {R : Int → World → Prop} (h : RAt w b S) (hS : SkOk S) (hR : R (lisE S.E p) w) : sock_Table_Listener.Call (some ⟨b, 0, none⟩) p w R := by
  apply sock_Table_Listener.sound
  unfold sock_Table_Listener.B0
  obtain ⟨T, F, C, o, ht, hr⟩ := h
  refine listenerRow_ok ht ?_
  rcases port_of hr hS p with ⟨e1, e2⟩ | ⟨i, a, hi, e1, u, k, lp, ha, e, e2, _⟩
  · rw [e1]
    rw [e2] at hR
    exact Bm.pos rfl hR
  · rw [e1]
    rw [e2, e] at hR
    exact Bm.neg (by simp) (Pn.mk ⟨⟨by omega, by omega⟩, ht.ldSd hi hR⟩)
theorem realListen_ok {p : Int} {R : Int → Int → World → Prop} (h : RAt w b S) (hS : SkOk S) (hb : S.nsd ≤ 4611686018427387904) (hR : ∀ w', RAt w' b (listenA p S).2 → Ext [b] w w' → R (listenA p S).1.1 (listenA p S).1.2 w') : sock_Table_Listen.Call (some ⟨b, 0, none⟩) p w R := by
  apply sock_Table_Listen.sound
  unfold sock_Table_Listen.B0
  have hh := h
  obtain ⟨T, F, C, o, ht, hr⟩ := h
  have bad : (p < 1 ∨ 8 ≤ p) → sock_Table_Listen.B1 (some ⟨b, 0, none⟩) p true w R := fun hp => by
    unfold sock_Table_Listen.B1
    have e : listenA p S = ((0, 22), S) := by unfold listenA; rw [if_pos hp]
    rw [e] at hR
    exact Bm.pos rfl (hR w hh (Ext.refl _ _))
  refine Bm.ite (fun hlt => bad (.inl hlt)) fun hge => ?_
  by_cases h8 : p ≥ 8
  · rw [decide_eq_true h8]
    exact bad (.inr h8)
  rw [decide_eq_false h8]
  unfold sock_Table_Listen.B1
  obtain ⟨q, hq⟩ : ∃ q : Nat, p = q := ⟨p.toNat, by omega⟩
  have hlr : lrow T p = T.port q := by unfold lrow; rw [if_pos (by omega), hq, Int.toNat_natCast]
  have hport := port_of hr hS p
  rw [hlr] at hport
  subst hq
  refine Bm.neg rfl (Pn.mk ⟨⟨by omega, by omega⟩, ht.ldPort (by omega) ?_⟩)
  rcases hport with ⟨e1, e2⟩ | ⟨i, a, hi, e1, u, k, lp, ha, e, e2, _⟩
  rotate_left
  · have hsd := hS.ei.sd a ha
    have el : listenA (q : Int) S = ((0, 23), S) := by unfold listenA; rw [if_neg (by omega), if_pos (by omega)]
    rw [el] at hR
    rw [e1]
    exact Bm.pos (by simp) (hR w hh (Ext.refl _ _))
  rw [e1]
  refine Bm.neg (by decide) (Pn.mk (ht.ldLis ?_))
  rw [hr.lis]
  have hlis := hS.ei.lis
  refine Bm.ite (fun h2 => ?_) fun h2 => ?_
  · have el : listenA (q : Int) S = ((0, 11), S) := by unfold listenA; rw [if_neg (by omega), if_neg (by omega), if_pos (by omega)]
    rw [el] at hR
    exact hR w hh (Ext.refl _ _)
  have el : listenA (q : Int) S = ((S.nsd, 0), addS S ⟨0, 1, (q : Int), 0, 0, -1, 0, false⟩) := by unfold listenA; rw [if_neg (by omega), if_neg (by omega), if_neg (by omega)]
  rw [el] at hR
  obtain ⟨i, F', rfl⟩ := hr.free_lis hS (by omega)
  have hi6 := (hr.rs.fmem i).1 (List.mem_cons_self ..)
  have hn := hS.nsd
  refine take_ok ht hr.rs.fr hi6.1 fun w1 h1 he1 => Bm.neg (by simp) (Pn.mk (h1.ldNsd (Pn.mk (h1.ldNsd (Pn.mk (h1.stNsd fun w2 hs2 h2 he2 => Pn.mk ⟨⟨by omega, by omega⟩, ?_⟩))))))
  have hn' : (takeT T i).nsd = S.nsd := hr.nsd
  rw [hn', w64 (by omega) (by omega)] at h2
  rw [hn']
  refine h2.stEnt (e := ⟨S.nsd, 1, (q : Int), 0, 0, -1, 0, false⟩) hi6.1 fun w3 hs3 h3 he3 => Pn.mk ⟨⟨by omega, by omega⟩, h3.stPort (by omega) fun w4 hs4 h4 he4 => Pn.mk (h4.ldLis (Pn.mk (h4.stLis fun w5 hs5 h5 he5 => ?_)))⟩
  refine hR w5 ⟨_, F', C, o, h5, ?_⟩ ((((he1.trans he2).trans he3).trans he4).trans he5)
  have hlis' : T.lis = ((S.E.filter isL).length : Int) := hr.lis
  refine ⟨hr.perm_add hi6.1 hi6.2 (fun j hj => by simp [updR, takeT, hj]) (by simp [updR, takeT]), hr.rs.addLis (e := ⟨S.nsd, 1, (q : Int), 0, 0, -1, 0, false⟩) (p := q) rfl rfl (by omega) (by omega) (fun j hj => ?_) (by simp [updR, takeT]) rfl rfl rfl rfl, fun j hj u k => ?_, ?_, rfl, hr.eph⟩
  · have : (updR { takeT T i with nsd := S.nsd + 1 } i { ({ takeT T i with nsd := S.nsd + 1 } : Tbl).rows i with e := ⟨S.nsd, 1, (q : Int), 0, 0, -1, 0, false⟩ }).rows j = T.rows j := by simp [updR, takeT, hj]
    show SameR (T.rows j) ((updR { takeT T i with nsd := S.nsd + 1 } i { ({ takeT T i with nsd := S.nsd + 1 } : Tbl).rows i with e := ⟨S.nsd, 1, (q : Int), 0, 0, -1, 0, false⟩ }).rows j)
    rw [this]
    exact ⟨rfl, rfl, rfl, rfl, rfl, rfl, rfl⟩
  · have hrj : ∀ j, j ≠ i → (updR { takeT T i with nsd := S.nsd + 1 } i { ({ takeT T i with nsd := S.nsd + 1 } : Tbl).rows i with e := ⟨S.nsd, 1, (q : Int), 0, 0, -1, 0, false⟩ }).rows j = T.rows j := fun j hj => by simp [updR, takeT, hj]
    by_cases hji : j = i
    · subst hji
      have hrow : (updR { takeT T j with nsd := S.nsd + 1 } j { ({ takeT T j with nsd := S.nsd + 1 } : Tbl).rows j with e := ⟨S.nsd, 1, (q : Int), 0, 0, -1, 0, false⟩ }).rows j = ⟨true, ⟨S.nsd, 1, (q : Int), 0, 0, -1, 0, false⟩, -1, 0, 0, 0, 0, 0⟩ := by simp [updR, takeT]
      show RingOk ((updR { takeT T j with nsd := S.nsd + 1 } j { ({ takeT T j with nsd := S.nsd + 1 } : Tbl).rows j with e := ⟨S.nsd, 1, (q : Int), 0, 0, -1, 0, false⟩ }).rows j) (S.E ++ [(⟨S.nsd, 1, (q : Int), 0, 0, -1, 0, false⟩, 0)])
      rw [hrow]
      have hno : ∀ a ∈ S.E, a.1.par ≠ S.nsd := fun a ha e => by
        obtain ⟨l, hl, _, q3, _⟩ := hS.ei.par a ha (by omega)
        have := hS.ei.sd l hl
        omega
      have f1 : (S.E ++ [((⟨S.nsd, 1, (q : Int), 0, 0, -1, 0, false⟩ : Ent), 0)]).filter (kidOf S.nsd) = [] := by
        rw [List.filter_eq_nil_iff]
        intro a ha
        rcases List.mem_append.1 ha with ha | ha
        · simp [kidOf, hno a ha]
        · rw [List.mem_singleton] at ha
          subst ha
          simp [kidOf]
          omega
      have f2 : (S.E ++ [((⟨S.nsd, 1, (q : Int), 0, 0, -1, 0, false⟩ : Ent), 0)]).filter (rdyOf S.nsd) = [] := by
        rw [List.filter_eq_nil_iff]
        intro a ha
        rcases List.mem_append.1 ha with ha | ha
        · simp [rdyOf, hno a ha]
        · rw [List.mem_singleton] at ha
          subst ha
          simp [rdyOf]
      refine ⟨rfl, by rw [f1]; rfl, 0, [], by omega, rfl, List.Pairwise.nil, by rw [f2], rfl, fun k x hx => by cases hx⟩
    · have u' : (T.rows j).used = true := by rw [← hrj j hji]; exact u
      have k' : (T.rows j).e.kind = 1 := by rw [← hrj j hji]; exact k
      show RingOk ((updR { takeT T i with nsd := S.nsd + 1 } i { ({ takeT T i with nsd := S.nsd + 1 } : Tbl).rows i with e := ⟨S.nsd, 1, (q : Int), 0, 0, -1, 0, false⟩ }).rows j) (S.E ++ [(⟨S.nsd, 1, (q : Int), 0, 0, -1, 0, false⟩, 0)])
      rw [hrj j hji]
      obtain ⟨a, ha, ea⟩ := hr.toE hj u'
      have hsd := hS.ei.sd a ha
      refine ring_add (hr.ring j hj u' k') rfl rfl rfl rfl rfl rfl rfl ?_
      rw [if_neg (by rw [← ea]; simp only; omega)]
      omega
  · show IntKind.i64.wrap (T.lis + 1) = (((S.E ++ [((⟨S.nsd, 1, (q : Int), 0, 0, -1, 0, false⟩ : Ent), 0)]).filter isL).length : Int)
    rw [List.filter_append, List.filter_cons_of_pos (by simp [isL]), w64 (by omega) (by omega), hlis']
    simp
end
end Go.Proofs.Qxb6500424aGreat.Sk
