/-
  sock: Ready, Accept of the real table; what stays true of the plain rows.
-/
import Derived.Test.Qxb6500424aGreatSkG
set_option linter.unusedVariables false
open Go.Vc
namespace Go.Proofs.Qxb6500424aGreat.Sk

theorem updR_updR (T : Tbl) (i : Nat) (r r' : Row) : updR (updR T i r) i r' = updR T i r' := by
  unfold updR
  congr 1
  funext j
  by_cases h : j = i <;> simp [h]
section
variable {T : Tbl} {S : SkS} {F : List Nat} {C : Nat → List Nat} {occ : Nat → Bool}
theorem asc_turn {E : List AE} {sd : Int} {g : AE → AE} (h : Asc (fun a : AE => a.1.sd.toNat) E) (hg : ∀ a, (g a).1.sd = a.1.sd) : Asc (fun a : AE => a.1.sd.toNat) (turnE sd g E) :=
  asc_map h fun x _ => by
    show (if x.1.sd = sd then g x else x).1.sd.toNat = x.1.sd.toNat
    split
    · rw [hg]
    · rfl
theorem Rel.perm_turn (h : Rel T S F C occ) {T' : Tbl} {i : Nat} (hi : i < 6) (hu : (T.rows i).used = true) {a a' : AE} (ea : a.1 = (T.rows i).e) {X E' : List AE} (hE : S.E.Perm (a :: X)) (hE' : E'.Perm (a' :: X)) (hr : ∀ j, j ≠ i → (T'.rows j).used = (T.rows j).used ∧ (T'.rows j).e = (T.rows j).e) (hi' : (T'.rows i).used = true ∧ (T'.rows i).e = a'.1) : (Lr T').Perm (E'.map fun a : AE => a.1) := by
  have h1 := flat_upd (f := fun j => lvr (T.rows j)) (g := fun j => lvr (T'.rows j)) (i := i) (fun j hj => by
    have := hr j hj
    unfold lvr
    rw [this.1, this.2]) (List.range 6) List.nodup_range (List.mem_range.2 hi)
  have e1 : lvr (T.rows i) = [a.1] := by unfold lvr; rw [hu, ea]; rfl
  have e2 : lvr (T'.rows i) = [a'.1] := by unfold lvr; rw [hi'.1, hi'.2]; rfl
  rw [e1, e2] at h1
  have h2 : (Lr T).Perm (a.1 :: X.map fun a : AE => a.1) := h.perm.trans (hE.map fun a : AE => a.1)
  have h3 : (a.1 :: Lr T').Perm (a.1 :: a'.1 :: X.map fun a : AE => a.1) := (h1.trans (h2.cons a'.1)).trans (List.Perm.swap ..)
  exact (List.Perm.cons_inv h3).trans (hE'.map fun a : AE => a.1).symm
theorem filt_perm {E X : List AE} {a : AE} (p : AE → Bool) (h : E.Perm (a :: X)) : (p a = true → (E.filter p).Perm (a :: X.filter p)) ∧ (p a = false → (E.filter p).Perm (X.filter p)) := by
  refine ⟨fun hp => ?_, fun hp => ?_⟩
  · have := h.filter p
    rwa [List.filter_cons_of_pos (by simp [hp])] at this
  · have := h.filter p
    rwa [List.filter_cons_of_neg (by simp [hp])] at this
/-- A ring that the change does not touch. -/
theorem ring_other {r : Row} {E E' X : List AE} {a a' : AE} (h : RingOk r E) (hE : E.Perm (a :: X)) (hE' : E'.Perm (a' :: X)) (h1 : a.1.par ≠ r.e.sd) (h2 : a'.1.par ≠ r.e.sd) : RingOk r E' := by
  have k1 : kidOf r.e.sd a = false := by simp [kidOf, h1]
  have k2 : kidOf r.e.sd a' = false := by simp [kidOf, h2]
  have r1 : rdyOf r.e.sd a = false := by simp [rdyOf, h1]
  have r2 : rdyOf r.e.sd a' = false := by simp [rdyOf, h2]
  refine h.perm ?_ ?_
  · rw [((filt_perm _ hE').2 k2).length_eq, ((filt_perm _ hE).2 k1).length_eq]
  · exact ((filt_perm _ hE).2 r1).trans ((filt_perm _ hE').2 r2).symm
theorem lis_turn {E E' X : List AE} {a a' : AE} (hE : E.Perm (a :: X)) (hE' : E'.Perm (a' :: X)) (hk : a'.1.kind = a.1.kind) : (E'.filter isL).length = (E.filter isL).length := by
  have e : isL a' = isL a := by unfold isL; rw [hk]
  cases h : isL a with
  | true => rw [((filt_perm isL hE).1 h).length_eq, ((filt_perm isL hE').1 (by rw [e]; exact h)).length_eq]; rfl
  | false => rw [((filt_perm isL hE).2 h).length_eq, ((filt_perm isL hE').2 (by rw [e]; exact h)).length_eq]
theorem ring_ext {r r' : Row} {E : List AE} (h : RingOk r E) (h1 : r'.e.sd = r.e.sd) (h2 : r'.next = r.next) (h3 : r'.head = r.head) (h4 : r'.n = r.n) (h5 : r'.r0 = r.r0) (h6 : r'.r1 = r.r1) (h7 : r'.kids = r.kids) : RingOk r' E := by
  obtain ⟨a, b, hd, L, q1, q2, q3, q4, q5, q6⟩ := h
  refine ⟨by rw [h2]; exact a, by rw [h7, h1]; exact b, hd, L, q1, by rw [h3]; exact q2, q3, by rw [h1]; exact q4, by rw [h4]; exact q5, fun k x hx => ?_⟩
  have := q6 k x hx
  unfold rg at this ⊢
  rw [h5, h6]
  exact this
end
section
variable {w : World} {b : Nat} {S : SkS} {T : Tbl} {F : List Nat} {C : Nat → List Nat} {occ : Nat → Bool}
theorem enqueue_ok {l hd nn : Nat} {sd : Int} {R : World → Prop} (ht : TAt w b T) (hl : l < 6) (hh : (T.rows l).head = (hd : Int)) (hd2 : hd < 2) (hn : (T.rows l).n = (nn : Int)) (hn2 : nn < 2)
    (hR : ∀ w', TAt w' b (updR T l { setRg (T.rows l) ((hd + nn) % 2) sd with n := ((nn + 1 : Nat) : Int) }) → Ext [b] w w' → R w') : sock_Table_enqueue.Call (some ⟨b, 0, none⟩) (l : Int) sd w R := by
  apply sock_Table_enqueue.sound
  unfold sock_Table_enqueue.B0
  refine Pn.mk ⟨⟨by omega, by omega⟩, ht.drew.ldHead hl (Pn.mk ⟨⟨by omega, by omega⟩, ht.drew.ldN hl ?_⟩)⟩
  rw [hh, hn, w64 (by omega) (by omega), show (hd : Int) + (nn : Int) = ((hd + nn : Nat) : Int) by omega]
  refine wrap_ok (by omega) (Pn.mk ⟨⟨by omega, by omega⟩, ⟨by omega, by omega⟩, ht.drew.stRing hl (by omega) fun w1 hs1 h1 he1 => Pn.mk ⟨⟨by omega, by omega⟩, h1.drew.ldN hl (Pn.mk ⟨⟨by omega, by omega⟩, h1.drew.stN hl fun w2 hs2 h2 he2 => hR w2 ?_ ((((Ext.drew _ _).trans he1).trans (Ext.drew _ _)).trans he2)⟩)⟩⟩)
  rw [updR_updR, updR_eq] at h2
  have hnn : (setRg (T.rows l) ((hd + nn) % 2) sd).n = (nn : Int) := by
    unfold setRg
    split <;> exact hn
  rw [hnn, w64 (by omega) (by omega), show (nn : Int) + 1 = ((nn + 1 : Nat) : Int) by omega] at h2
  exact h2
theorem rg_set (r : Row) (k j : Nat) (x : Int) (hk : k < 2) (hj : j < 2) : rg (setRg r k x) j = if j = k then x else rg r j := by
  unfold rg setRg
  have : k = 0 ∨ k = 1 := by omega
  have : j = 0 ∨ j = 1 := by omega
  rcases ‹k = 0 ∨ k = 1› with rfl | rfl <;> rcases ‹j = 0 ∨ j = 1› with rfl | rfl <;> simp
theorem setRg_same (r : Row) (k : Nat) (x : Int) : (setRg r k x).used = r.used ∧ (setRg r k x).e = r.e ∧ (setRg r k x).next = r.next ∧ (setRg r k x).kids = r.kids ∧ (setRg r k x).head = r.head ∧ (setRg r k x).n = r.n := by
  unfold setRg
  split <;> exact ⟨rfl, rfl, rfl, rfl, rfl, rfl⟩
theorem readyA_ok (hS : SkOk S) (sd : Int) : SkOk (readyA sd S).2 := by
  unfold readyA
  cases hg : getE S.E sd with
  | none => exact hS
  | some a =>
    have hm := List.mem_of_find?_eq_some hg
    have hsd : a.1.sd = sd := by have := List.find?_some hg; simpa using this
    show SkOk (if a.1.par = 0 then ((21, S) : Int × SkS) else if a.1.rdy = true then (13, S) else (0, { S with E := turnE sd (rdyG (S.tick + 1)) S.E, tick := S.tick + 1 })).2
    split
    · exact hS
    · rename_i hpar
      split
      · exact hS
      · subst hsd
        obtain ⟨p1, p2⟩ := turn_perm hS.ei hm (rdyG (S.tick + 1))
        have hk : a.1.kind = 2 := by
          rcases hS.ei.ok a hm with q | q
          · exact absurd q.2.2.2.2.2.2.1 hpar
          · exact q.1
        refine ⟨asc_turn hS.asc fun _ => rfl, ((hS.ei.perm p1).turn (a' := rdyG (S.tick + 1) a) (t' := S.tick + 1) (by omega) ⟨rfl, rfl, rfl, rfl, rfl, rfl⟩ hk (.inl rfl) (fun _ => ⟨rfl, hpar, rfl, rfl⟩) (fun z => absurd z hpar)).perm p2.symm, hS.nsd, hS.eph⟩
theorem acceptA_ok (hS : SkOk S) (l : Int) : SkOk (acceptA l S).2 := by
  unfold acceptA
  cases hg : getE S.E l with
  | none => exact hS
  | some a =>
    have hm := List.mem_of_find?_eq_some hg
    show SkOk (if a.1.kind ≠ 1 then (((0, 21), S) : (Int × Int) × SkS) else match qE S.E l with
      | [] => ((0, 14), S)
      | q :: _ => ((q.1.sd, 0), { S with E := turnE q.1.sd accG S.E })).2
    split
    · exact hS
    · cases hq : qE S.E l with
      | nil => exact hS
      | cons q L =>
        have hsp := qE_spec hS.ei l
        rw [hq] at hsp
        have hqm := List.mem_filter.1 (hsp.2.subset (List.mem_cons_self ..))
        have hr := rdyOf_iff.1 hqm.2
        obtain ⟨p1, p2⟩ := turn_perm hS.ei hqm.1 accG
        have hk : q.1.kind = 2 := by
          rcases hS.ei.ok q hqm.1 with z | z
          · rw [z.2.2.2.2.2.2.2] at hr; cases hr.2
          · exact z.1
        exact ⟨asc_turn hS.asc fun _ => rfl, ((hS.ei.perm p1).turn (a' := accG q) (t' := S.tick) (by omega) ⟨rfl, rfl, rfl, rfl, rfl, rfl⟩ hk (.inr rfl) (fun z => by cases z) (fun _ => rfl)).perm p2.symm, hS.nsd, hS.eph⟩
theorem freeA_ok (hS : SkOk S) (sd : Int) : SkOk (freeA sd S).2 := by
  unfold freeA
  cases hg : getE S.E sd with
  | none => exact hS
  | some a =>
    have hm := List.mem_of_find?_eq_some hg
    have hsd : a.1.sd = sd := by have := List.find?_some hg; simpa using this
    subst hsd
    obtain ⟨p1, _⟩ := turn_perm hS.ei hm accG
    have hei := hS.ei.perm p1
    have hasc : Asc (fun a : AE => a.1.sd.toNat) ((delE a.1.sd S.E).map (orp a.1.sd)) := asc_map (asc_filter hS.asc) fun x _ => by
      show (orp a.1.sd x).1.sd.toNat = x.1.sd.toNat
      rw [(orp_alike _ x).sd]
    refine ⟨hasc, ?_, hS.nsd, hS.eph⟩
    rcases (hS.ei.ok a hm).kind with hk | hk
    · exact hei.delL hk
    · have hno : (delE a.1.sd S.E).map (orp a.1.sd) = delE a.1.sd S.E := by
        conv => rhs; rw [← List.map_id (delE a.1.sd S.E)]
        refine List.map_congr_left fun c hc => ?_
        have hcm := (List.mem_filter.1 hc).1
        unfold orp
        rw [if_neg]
        · rfl
        · intro z
          have h0 : c.1.par ≠ 0 := by have := hS.ei.sd a hm; omega
          obtain ⟨l, hl, k1, k2, _⟩ := hS.ei.par c hcm h0
          have := hS.ei.uniq hl hm (by rw [k2, z])
          rw [this, hk] at k1
          omega
      show EI ((delE a.1.sd S.E).map (orp a.1.sd)) _ _
      rw [hno]
      exact hei.del hk
theorem listenA_ok (hS : SkOk S) (p : Int) : SkOk (listenA p S).2 := by
  unfold listenA
  split
  · exact hS
  · rename_i hp
    split
    · exact hS
    · rename_i hl
      split
      · exact hS
      · rename_i h2
        have hlis := hS.ei.lis
        exact hS.add (e := ⟨S.nsd, 1, p, 0, 0, -1, 0, false⟩) rfl (.inl ⟨rfl, by simp only; omega, by simp only; omega, rfl, rfl, rfl, rfl, rfl⟩) rfl (fun z => absurd rfl z) (fun z => by simp at z) (fun _ => ⟨fun c hc hk z => lisE_zero hS.ei (Classical.not_not.1 hl) c hc (lisP_iff.2 ⟨hk, z⟩), by omega⟩) (fun z => by simp at z) hS.eph
theorem low_free {s : Nat} (hfs : occE S.E s = false) : ∀ c ∈ S.E, c.1.kind = 2 → c.1.slot ≠ (s : Int) := fun c hc k sl => by
  have := occE_iff.2 ⟨c, hc, k, sl⟩
  rw [hfs] at this
  cases this
theorem connectA_ok (hS : SkOk S) (rh rp : Int) : SkOk (connectA rh rp S).2 := by
  unfold connectA
  split
  · exact hS
  · split
    · exact hS
    · split
      · exact hS
      · rename_i h1 h2 hlow
        have hlow' : lowF (occE S.E) ≠ -1 := hlow
        obtain ⟨s, hs4, es, hfs⟩ := lowF_some hlow'
        have es' : lowE S.E = (s : Int) := es
        obtain ⟨hp0, hp8, hp15⟩ := pick_spec hS hlow rh rp
        show SkOk ⟨S.E ++ [(⟨S.nsd, 2, pickE S.E rh rp 4 S.eph, rh, rp, lowE S.E, 0, false⟩, 0)], S.nsd + 1, nextP (pickE S.E rh rp 4 S.eph), S.tick⟩
        rw [es']
        exact hS.add (e := ⟨S.nsd, 2, pickE S.E rh rp 4 S.eph, rh, rp, (s : Int), 0, false⟩) rfl (.inr ⟨rfl, by simp only; omega, by simp only; omega, by simp only; omega, by simp only; omega, by simp only; omega, by simp only; omega, by simp only; omega, by simp only; omega, fun _ => rfl⟩) rfl (fun z => absurd rfl z) (fun _ c hc hk z => lookE_zero hS.ei hp0 c hc (lookP_iff.2 ⟨hk, z⟩)) (fun z => by simp at z) (fun _ => low_free hfs) (nextP_bd ⟨hp8, hp15⟩)
theorem childA_ok (hS : SkOk S) (lp rh rp : Int) : SkOk (childA lp rh rp S).2 := by
  unfold childA
  split
  · exact hS
  · split
    · exact hS
    · split
      · exact hS
      · split
        · exact hS
        · split
          · exact hS
          · rename_i h0 h1 h2 h3 h4
            have hlow' : lowF (occE S.E) ≠ -1 := fun z => h4 (.inr z)
            obtain ⟨s, hs4, es, hfs⟩ := lowF_some hlow'
            have es' : lowE S.E = (s : Int) := es
            obtain ⟨l, hl, hlp, hls⟩ := lisE_ne h0
            have hl' := lisP_iff.1 hlp
            have hlo := (hS.ei.ok l hl).lis hl'.1
            show SkOk ⟨S.E ++ [(⟨S.nsd, 2, lp, rh, rp, lowE S.E, lisE S.E lp, false⟩, 0)], S.nsd + 1, S.eph, S.tick⟩
            rw [es']
            exact hS.add (e := ⟨S.nsd, 2, lp, rh, rp, (s : Int), lisE S.E lp, false⟩) rfl (.inr ⟨rfl, by simp only; omega, by simp only; omega, by simp only; omega, by simp only; omega, by simp only; omega, by simp only; omega, by simp only; omega, by simp only; omega, fun z => absurd z h0⟩) rfl (fun _ => ⟨⟨l, hl, hl'.1, hls, hl'.2⟩, by simp only; omega⟩) (fun _ c hc hk z => lookE_zero hS.ei (Classical.not_not.1 h3) c hc (lookP_iff.2 ⟨hk, z⟩)) (fun z => by simp at z) (fun _ => low_free hfs) hS.eph
theorem realReady_ok {sd : Int} {R : Int → World → Prop} (h : RAt w b S) (hS : SkOk S) (hR : ∀ w', RAt w' b (readyA sd S).2 → Ext [b] w w' → R (readyA sd S).1 w') : sock_Table_Ready.Call (some ⟨b, 0, none⟩) sd w R := by
  apply sock_Table_Ready.sound
  unfold sock_Table_Ready.B0
  have hh := h
  obtain ⟨T, F, C, o, ht, hr⟩ := h
  refine hr.find hS ht ⟨fun i a hi u ha ea hsd => ?_, fun hno => ?_⟩
  rotate_left
  · have e : readyA sd S = (21, S) := by unfold readyA; rw [getE_none hno]
    rw [e] at hR
    refine Bm.pos rfl ?_
    unfold sock_Table_Ready.B1
    exact Bm.pos rfl (hR w hh (Ext.refl _ _))
  subst hsd
  have hget := getE_some hS.ei ha
  have e0 : readyA a.1.sd S = if a.1.par = 0 then (21, S) else if a.1.rdy then (13, S) else (0, { S with E := turnE a.1.sd (rdyG (S.tick + 1)) S.E, tick := S.tick + 1 }) := by unfold readyA; rw [hget]
  refine Bm.neg (by simp) (Pn.mk ⟨⟨by omega, by omega⟩, ht.ldPar hi ?_⟩)
  rw [← ea]
  by_cases hpar : a.1.par = 0
  · rw [show (a.1.par == 0) = true by simp [hpar]]
    rw [e0, if_pos hpar] at hR
    unfold sock_Table_Ready.B1
    exact Bm.pos rfl (hR w hh (Ext.refl _ _))
  rw [show (a.1.par == 0) = false by simp [hpar]]
  unfold sock_Table_Ready.B1
  refine Bm.neg rfl (Pn.mk ⟨⟨by omega, by omega⟩, ht.ldRdy hi ?_⟩)
  rw [← ea]
  cases hrd : a.1.rdy with
  | true =>
    rw [e0, if_neg hpar, hrd] at hR
    exact Bm.pos rfl (hR w hh (Ext.refl _ _))
  | false =>
    rw [e0, if_neg hpar, hrd, if_neg (by simp)] at hR
    obtain ⟨l0, hl0, lk, lsd, llp⟩ := hS.ei.par a ha hpar
    refine Bm.neg rfl (Pn.mk ⟨⟨by omega, by omega⟩, ht.ldLp hi (listenerRow_ok ht ?_)⟩)
    rw [← ea]
    have hkind : a.1.kind = 2 := by
      rcases hS.ei.ok a ha with q | q
      · exact absurd q.2.2.2.2.2.2.1 hpar
      · exact q.1
    rcases port_of hr hS a.1.lp with ⟨e1, e2⟩ | ⟨l, c, hl6, e1, lu, lk2, elp, hc, ec, e2, hp1, hp8⟩
    · have := lisE_some hS.ei hl0 (lisP_iff.2 ⟨lk, llp⟩)
      have := hS.ei.sd l0 hl0
      omega
    have hcl : c = l0 := hS.ei.uniq hc hl0 (hS.ei.prt c hc l0 hl0 (by rw [ec]; exact lk2) lk (by rw [ec, elp, llp]))
    subst hcl
    rw [e1]
    have hli : l ≠ i := fun z => by rw [z, ← ea, hkind] at lk2; omega
    have hrowl := hr.ring l hl6 lu lk2
    obtain ⟨hnext, hkids, hd, L, hd2, hhd, hasc, hperm, hn, hrg⟩ := hrowl
    obtain ⟨p1, p2⟩ := turn_perm hS.ei ha (rdyG (S.tick + 1))
    have hsdl : (T.rows l).e.sd = a.1.par := by rw [← ec]; exact lsd
    -- how many wait
    have hLlen : L.length < 2 := by
      have h1 := hperm.length_eq
      have k1 := ((filt_perm (kidOf a.1.par) p1).1 (by simp [kidOf])).length_eq
      have r1 := ((filt_perm (rdyOf a.1.par) p1).2 (by simp [rdyOf, hrd])).length_eq
      have hle : ((delE a.1.sd S.E).filter (rdyOf a.1.par)).length ≤ ((delE a.1.sd S.E).filter (kidOf a.1.par)).length := by
        have : (delE a.1.sd S.E).filter (rdyOf a.1.par) = ((delE a.1.sd S.E).filter (kidOf a.1.par)).filter fun x => x.1.rdy := by
          rw [List.filter_filter]
          congr 1
          funext x
          simp [rdyOf, kidOf, Bool.and_comm]
        rw [this]
        exact List.length_filter_le ..
      have k2 := hS.ei.kid a.1.par hpar
      rw [hsdl] at h1
      simp only [List.length_cons] at k1
      omega
    refine Bm.neg (by simp) (Pn.mk ⟨⟨by omega, by omega⟩, ht.stRdy hi fun w1 hs1 h1 he1 => ?_⟩)
    have hrl1 : (updR T i { T.rows i with e := { (T.rows i).e with rdy := true } }).rows l = T.rows l := updR_ne hli
    refine enqueue_ok (hd := hd) (nn := L.length) h1 hl6 (by rw [hrl1]; exact hhd) hd2 (by rw [hrl1]; exact hn) hLlen fun w2 h2 he2 => hR w2 ⟨_, F, C, o, h2, ?_⟩ (he1.trans he2)
    rw [hrl1]
    have hss := setRg_same (T.rows l) ((hd + L.length) % 2) a.1.sd
    refine ⟨hr.perm_turn hi u ea p1 p2 (fun j hj => ?_) ?_, hr.rs.congr (fun j hj => ?_) rfl rfl rfl rfl, fun j hj uj kj => ?_, ?_, hr.nsd, hr.eph⟩
    · by_cases hjl : j = l
      · subst hjl
        rw [updR_eq]
        exact ⟨hss.1, hss.2.1⟩
      · rw [updR_ne hjl, updR_ne hj]
        exact ⟨rfl, rfl⟩
    · rw [updR_ne (fun z => hli z.symm), updR_eq]
      exact ⟨u, by rw [← ea]; rfl⟩
    · by_cases hjl : j = l
      · subst hjl
        rw [updR_eq]
        exact ⟨hss.1, hss.2.2.1, by show (setRg _ _ _).e.kind = _; rw [hss.2.1], by show (setRg _ _ _).e.lp = _; rw [hss.2.1], by show (setRg _ _ _).e.rh = _; rw [hss.2.1], by show (setRg _ _ _).e.rp = _; rw [hss.2.1], by show (setRg _ _ _).e.slot = _; rw [hss.2.1]⟩
      · rw [updR_ne hjl]
        by_cases hji : j = i
        · subst hji
          rw [updR_eq]
          exact ⟨rfl, rfl, rfl, rfl, rfl, rfl, rfl⟩
        · rw [updR_ne hji]
          exact ⟨rfl, rfl, rfl, rfl, rfl, rfl, rfl⟩
    · by_cases hjl : j = l
      · subst hjl
        rw [updR_eq]
        have esd : ({ setRg (T.rows j) ((hd + L.length) % 2) a.1.sd with n := ((L.length + 1 : Nat) : Int) } : Row).e.sd = a.1.par := by
          show (setRg _ _ _).e.sd = _
          rw [hss.2.1]; exact hsdl
        rw [hsdl] at hperm hkids
        refine ⟨by show (setRg _ _ _).next = _; rw [hss.2.2.1]; exact hnext, ?_, hd, L ++ [rdyG (S.tick + 1) a], hd2, by show (setRg _ _ _).head = _; rw [hss.2.2.2.2.1]; exact hhd, ?_, ?_, by simp, fun k y hy => ?_⟩
        · rw [esd]
          show (setRg _ _ _).kids = _
          rw [hss.2.2.2.1, hkids]
          have k1 := ((filt_perm (kidOf a.1.par) p1).1 (by simp [kidOf])).length_eq
          have k2 := ((filt_perm (kidOf a.1.par) p2).1 (by simp [kidOf, rdyG])).length_eq
          rw [k1, k2]
          rfl
        · refine List.pairwise_append.2 ⟨hasc, List.pairwise_singleton .., fun y hy z hz => ?_⟩
          rw [List.mem_singleton] at hz
          subst hz
          have hym := List.mem_filter.1 (hperm.subset hy)
          have := hS.ei.tck y hym.1 (rdyOf_iff.1 hym.2).2
          show y.2 < S.tick + 1
          omega
        · rw [esd]
          have r1 := (filt_perm (rdyOf a.1.par) p1).2 (by simp [rdyOf, hrd])
          have r2 := (filt_perm (rdyOf a.1.par) p2).1 (by simp [rdyOf, rdyG])
          exact ((List.perm_append_singleton ..).trans ((hperm.trans r1).cons _)).trans r2.symm
        · have hrgs : ∀ q, rg ({ setRg (T.rows j) ((hd + L.length) % 2) a.1.sd with n := ((L.length + 1 : Nat) : Int) } : Row) q = rg (setRg (T.rows j) ((hd + L.length) % 2) a.1.sd) q := fun q => rfl
          rw [hrgs, rg_set _ _ _ _ (by omega) (by omega)]
          by_cases hk : k < L.length
          · rw [List.getElem?_append_left hk] at hy
            rw [if_neg (by omega)]
            exact hrg k y hy
          · have hkl : k = L.length := by
              have := (List.getElem?_eq_some_iff.1 hy).1
              simp at this
              omega
            subst hkl
            rw [List.getElem?_append_right (Nat.le_refl _), Nat.sub_self] at hy
            simp only [List.getElem?_cons_zero, Option.some.injEq] at hy
            rw [if_pos rfl, ← hy]
            rfl
      · rw [updR_ne hjl] at uj kj ⊢
        have hji : j ≠ i := fun z => by
          subst z
          rw [updR_eq] at kj
          have : (T.rows j).e.kind = 1 := kj
          rw [← ea, hkind] at this
          omega
        rw [updR_ne hji] at uj kj ⊢
        have hne : (T.rows j).e.sd ≠ a.1.par := fun z => hjl (hr.uniq hS j l hj hl6 uj lu (by rw [z, hsdl]))
        exact ring_other (hr.ring j hj uj kj) p1 p2 (fun z => hne z.symm) (fun z => hne z.symm)
    · show T.lis = _
      rw [hr.lis]
      show _ = (((turnE a.1.sd (rdyG (S.tick + 1)) S.E).filter isL).length : Int)
      rw [lis_turn p1 p2 rfl]
end
end Go.Proofs.Qxb6500424aGreat.Sk
