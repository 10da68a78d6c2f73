/-
  sock: Check of the real table, row by row; New.
-/
import Derived.Test.Qxb6500427aSkK
set_option linter.unusedVariables false
open Go.Vc
namespace Go.Proofs.Qxb6500427a

section
variable {w : World} {b : Nat} {S : SkS} {T : Tbl} {F : List Nat} {C : Nat → List Nat} {occ : Nat → Bool}
theorem TAt.ldRow {i : Nat} {K : Bool → Int → Int → Int → Int → Int → Int → Int → Bool → Int → Int → Int → Int → Int → Int → Prop} (h : TAt w b T) (hi : i < 6) (hk : K (T.rows i).used (T.rows i).e.sd (T.rows i).e.kind (T.rows i).e.lp (T.rows i).e.rh (T.rows i).e.rp (T.rows i).e.slot (T.rows i).e.par (T.rows i).e.rdy (T.rows i).next (T.rows i).kids (T.rows i).r0 (T.rows i).r1 (T.rows i).head (T.rows i).n) : LdB (Addr.add ⟨b, 0, none⟩ ((i : Int).toNat * 15)) w fun x0 => LdI .i64 ((Addr.add ⟨b, 0, none⟩ ((i : Int).toNat * 15)).add 1) w fun x1 => LdI .i64 ((Addr.add ⟨b, 0, none⟩ ((i : Int).toNat * 15)).add 2) w fun x2 => LdI .i64 ((Addr.add ⟨b, 0, none⟩ ((i : Int).toNat * 15)).add 3) w fun x3 => LdI .i64 ((Addr.add ⟨b, 0, none⟩ ((i : Int).toNat * 15)).add 4) w fun x4 => LdI .i64 ((Addr.add ⟨b, 0, none⟩ ((i : Int).toNat * 15)).add 5) w fun x5 => LdI .i64 ((Addr.add ⟨b, 0, none⟩ ((i : Int).toNat * 15)).add 6) w fun x6 => LdI .i64 ((Addr.add ⟨b, 0, none⟩ ((i : Int).toNat * 15)).add 7) w fun x7 => LdB ((Addr.add ⟨b, 0, none⟩ ((i : Int).toNat * 15)).add 8) w fun x8 => LdI .i64 ((Addr.add ⟨b, 0, none⟩ ((i : Int).toNat * 15)).add 9) w fun x9 => LdI .i64 ((Addr.add ⟨b, 0, none⟩ ((i : Int).toNat * 15)).add 10) w fun x10 => LdI .i64 ((Addr.add ⟨b, 0, none⟩ ((i : Int).toNat * 15)).add 11) w fun x11 => LdI .i64 ((Addr.add ⟨b, 0, none⟩ ((i : Int).toNat * 15)).add 12) w fun x12 => LdI .i64 ((Addr.add ⟨b, 0, none⟩ ((i : Int).toNat * 15)).add 13) w fun x13 => LdI .i64 ((Addr.add ⟨b, 0, none⟩ ((i : Int).toNat * 15)).add 14) w fun x14 => K x0 x1 x2 x3 x4 x5 x6 x7 x8 x9 x10 x11 x12 x13 x14 :=
  h.ldRB (j := 0) hi (by omega) (by simp [add_mk]) rfl (h.ldRI (j := 1) hi (by omega) (by simp [add_mk]) rfl (h.ldRI (j := 2) hi (by omega) (by simp [add_mk]) rfl (h.ldRI (j := 3) hi (by omega) (by simp [add_mk]) rfl (h.ldRI (j := 4) hi (by omega) (by simp [add_mk]) rfl (h.ldRI (j := 5) hi (by omega) (by simp [add_mk]) rfl (h.ldRI (j := 6) hi (by omega) (by simp [add_mk]) rfl (h.ldRI (j := 7) hi (by omega) (by simp [add_mk]) rfl (h.ldRB (j := 8) hi (by omega) (by simp [add_mk]) rfl (h.ldRI (j := 9) hi (by omega) (by simp [add_mk]) rfl (h.ldRI (j := 10) hi (by omega) (by simp [add_mk]) rfl (h.ldRI (j := 11) hi (by omega) (by simp [add_mk]) rfl (h.ldRI (j := 12) hi (by omega) (by simp [add_mk]) rfl (h.ldRI (j := 13) hi (by omega) (by simp [add_mk]) rfl (h.ldRI (j := 14) hi (by omega) (by simp [add_mk]) rfl (hk)))))))))))))))
theorem ldRowB {a : Nat} {r : Row} {t : TypeId} {K : Bool → Int → Int → Int → Int → Int → Int → Int → Bool → Int → Int → Int → Int → Int → Int → Prop} (h : Own w a (rowVs r).toArray t) (hk : K r.used r.e.sd r.e.kind r.e.lp r.e.rh r.e.rp r.e.slot r.e.par r.e.rdy r.next r.kids r.r0 r.r1 r.head r.n) : LdB ⟨a, 0, none⟩ w fun x0 => LdI .i64 ⟨a, 1, none⟩ w fun x1 => LdI .i64 ⟨a, 2, none⟩ w fun x2 => LdI .i64 ⟨a, 3, none⟩ w fun x3 => LdI .i64 ⟨a, 4, none⟩ w fun x4 => LdI .i64 ⟨a, 5, none⟩ w fun x5 => LdI .i64 ⟨a, 6, none⟩ w fun x6 => LdI .i64 ⟨a, 7, none⟩ w fun x7 => LdB ⟨a, 8, none⟩ w fun x8 => LdI .i64 ⟨a, 9, none⟩ w fun x9 => LdI .i64 ⟨a, 10, none⟩ w fun x10 => LdI .i64 ⟨a, 11, none⟩ w fun x11 => LdI .i64 ⟨a, 12, none⟩ w fun x12 => LdI .i64 ⟨a, 13, none⟩ w fun x13 => LdI .i64 ⟨a, 14, none⟩ w fun x14 => K x0 x1 x2 x3 x4 x5 x6 x7 x8 x9 x10 x11 x12 x13 x14 :=
  LdB.mk h rfl (LdI.mk h rfl (LdI.mk h rfl (LdI.mk h rfl (LdI.mk h rfl (LdI.mk h rfl (LdI.mk h rfl (LdI.mk h rfl (LdB.mk h rfl (LdI.mk h rfl (LdI.mk h rfl (LdI.mk h rfl (LdI.mk h rfl (LdI.mk h rfl (LdI.mk h rfl (hk)))))))))))))))
theorem connFine_ok {r : Row} {i : Nat} {R : Bool → World → Prop} (ht : TAt w b T) (h : Rel T S F C occ) (hS : SkOk S) (hi : i < 6) (hr : T.rows i = r) (u : r.used = true) (k : r.e.kind = 2) (hR : ∀ w', Ext [] w w' → R true w') :
    sock_Table_connFine.Call (some ⟨b, 0, none⟩) r.used r.e.sd r.e.kind r.e.lp r.e.rh r.e.rp r.e.slot r.e.par r.e.rdy r.next r.kids r.r0 r.r1 r.head r.n w R := by
  apply sock_Table_connFine.sound
  unfold sock_Table_connFine.B0
  obtain ⟨a, ha, ea⟩ := h.toE hi (by rw [hr]; exact u)
  rw [hr] at ea
  have hc := (hS.ei.ok a ha).con (by rw [ea]; exact k)
  rw [ea] at hc
  refine New.mk fun q w1 hq hs1 ho1 he1 => ?_
  have ho : Own w1 q (rowVs r).toArray T_sock_row := ho1
  refine LdI.mk ho rfl (Bm.neg (by rw [k]; rfl) (LdI.mk ho rfl (Bm.neg (decide_eq_false (by omega)) (LdI.mk ho rfl (Bm.neg (decide_eq_false (by omega)) (LdI.mk ho rfl (Bm.neg (decide_eq_false (by omega)) (LdI.mk ho rfl (Bm.neg (decide_eq_false (by omega)) (LdI.mk ho rfl (Bm.neg (decide_eq_false (by omega)) (LdI.mk ho rfl ?_))))))))))))
  rw [decide_eq_false (by omega)]
  unfold sock_Table_connFine.B1
  refine Bm.neg rfl (LdI.mk ho rfl (Bm.mk (fun hp => LdB.mk ho rfl ?_) fun hp => LdI.mk ho rfl (listenerRow_ok (ht.ext0 he1) ?_)))
  · rw [hc.2.2.2.2.2.2.2.2 (by simpa using hp)]
    exact hR w1 he1
  · have hp' : r.e.par ≠ 0 := by simpa using hp
    obtain ⟨l0, hl0, lk, lsd, llp⟩ := hS.ei.par a ha (by rw [ea]; exact hp')
    rw [ea] at lsd llp
    rcases port_of h hS r.e.lp with ⟨e1, e2⟩ | ⟨l, c, hl6, e1, lu, lk2, elp, hcm, ec, e2, _⟩
    · have := lisE_some hS.ei hl0 (lisP_iff.2 ⟨lk, llp⟩)
      have := hS.ei.sd l0 hl0
      omega
    · have hcl : c = l0 := hS.ei.uniq hcm hl0 (hS.ei.prt c hcm l0 hl0 (by rw [ec]; exact lk2) lk (by rw [ec, elp, llp]))
      subst hcl
      rw [e1]
      refine Bm.pos (by simp) (Pn.mk ⟨⟨by omega, by omega⟩, (ht.ext0 he1).drew.ldSd hl6 (LdI.mk ho.drew rfl ?_)⟩)
      rw [show ((T.rows l).e.sd == r.e.par) = true by rw [← ec]; simp [lsd]]
      exact hR _ (he1.trans (Ext.drew _ _))
def cnt (T : Tbl) (p : Ent → Bool) (n : Nat) : List Nat := (List.range n).filter fun i => (T.rows i).used && p (T.rows i).e
theorem cnt_succ (T : Tbl) (p : Ent → Bool) (n : Nat) : (cnt T p (n + 1)).length = (cnt T p n).length + (if ((T.rows n).used && p (T.rows n).e) = true then 1 else 0) := by
  unfold cnt
  rw [List.range_succ, List.filter_append, List.length_append]
  congr 1
  cases q : ((T.rows n).used && p (T.rows n).e) with
  | false => simp [q]
  | true => simp [q]
theorem cnt_le (T : Tbl) (p : Ent → Bool) (n : Nat) : (cnt T p n).length ≤ n := by
  unfold cnt
  have := List.length_filter_le (fun i => (T.rows i).used && p (T.rows i).e) (List.range n)
  simpa using this
theorem cnt_len (h : Rel T S F C occ) (p : Ent → Bool) : (cnt T p 6).length = (S.E.filter fun a => p a.1).length := by
  have h1 : ∀ n, (cnt T p n).length = ((Lri T n).filter p).length := fun n => by
    induction n with
    | zero => rfl
    | succ n ih =>
      rw [cnt_succ, ih]
      unfold Lri
      rw [List.range_succ, List.flatMap_append, List.filter_append, List.length_append]
      congr 1
      simp only [List.flatMap_cons, List.flatMap_nil, List.append_nil, lvr]
      cases hu : (T.rows n).used with
      | false => simp
      | true =>
        cases hp : p (T.rows n).e <;> simp [hp]
  rw [h1 6]
  have h2 := (h.perm.filter p).length_eq
  have h3 : ((S.E.map fun a : AE => a.1).filter p).length = (S.E.filter fun a => p a.1).length := by
    rw [List.filter_map, List.length_map]
    rfl
  rw [← h3]
  exact h2
theorem listenerFine_ok {r : Row} {i : Nat} {R : Bool → World → Prop} (ht : TAt w b T) (h : Rel T S F C occ) (hS : SkOk S) (hi : i < 6) (hr : T.rows i = r) (u : r.used = true) (k : r.e.kind = 1) (hR : ∀ w', Ext [] w w' → R true w') :
    sock_Table_listenerFine.Call (some ⟨b, 0, none⟩) r.used r.e.sd r.e.kind r.e.lp r.e.rh r.e.rp r.e.slot r.e.par r.e.rdy r.next r.kids r.r0 r.r1 r.head r.n w R := by
  apply sock_Table_listenerFine.sound
  unfold sock_Table_listenerFine.B0
  obtain ⟨a, ha, ea⟩ := h.toE hi (by rw [hr]; exact u)
  rw [hr] at ea
  have hl := (hS.ei.ok a ha).lis (by rw [ea]; exact k)
  rw [ea] at hl
  have hasd := hS.ei.sd a ha
  rw [ea] at hasd
  have hring := h.ring i hi (by rw [hr]; exact u) (by rw [hr]; exact k)
  rw [hr] at hring
  obtain ⟨hnext, hkids, hd, L, hd2, hhd, hasc, hperm, hn, hrg⟩ := hring
  refine New.mk fun q w1 hq hs1 ho1 he1 => ?_
  have ho : Own w1 q (rowVs r).toArray T_sock_row := ho1
  refine LdI.mk ho rfl (Bm.neg (by rw [hl.2.2.2.2.1]; rfl) (LdI.mk ho rfl (Bm.neg (by rw [hl.2.2.1]; rfl) (LdI.mk ho rfl (Bm.neg (by rw [hl.2.2.2.1]; rfl) (LdI.mk ho rfl (Bm.neg (by rw [hl.2.2.2.2.2.1]; rfl) (LdB.mk ho rfl (Bm.neg hl.2.2.2.2.2.2 (LdI.mk ho rfl ?_))))))))))
  rw [hnext]
  show sock_Table_listenerFine.B1 (some ⟨b, 0, none⟩) q false w1 R
  unfold sock_Table_listenerFine.B1
  have p1 : ∀ e : Ent, decide (e.par = r.e.sd) = decide (e.par = r.e.sd) := fun _ => rfl
  have hk6 : (cnt T (fun e => decide (e.par = r.e.sd)) 6).length = (S.E.filter (kidOf r.e.sd)).length := cnt_len h _
  have hr6 : (cnt T (fun e => decide (e.par = r.e.sd) && e.rdy) 6).length = (S.E.filter (rdyOf r.e.sd)).length := cnt_len h _
  have hk2 := hS.ei.kid r.e.sd (by omega)
  refine Bm.neg rfl ⟨fun m t' q' kk rr i' w' => ∃ n : Nat, n ≤ 6 ∧ m = 6 - n ∧ some ⟨b, 0, none⟩ = t' ∧ q = q' ∧ kk = ((cnt T (fun e => decide (e.par = r.e.sd)) n).length : Int) ∧ rr = ((cnt T (fun e => decide (e.par = r.e.sd) && e.rdy) n).length : Int) ∧ i' = (n : Int) ∧ Own w' q (rowVs r).toArray T_sock_row ∧ Ext [] w w', _, ⟨0, by omega, rfl, rfl, rfl, rfl, rfl, rfl, ho, he1⟩, ?_⟩
  clear ho he1
  rintro m t' q' kk rr i' w' ⟨n, hn6, rfl, rfl, rfl, rfl, rfl, rfl, ho, he⟩
  have ht' := ht.ext0 he
  have l1 := cnt_le T (fun e => decide (e.par = r.e.sd)) n
  have l2 := cnt_le T (fun e => decide (e.par = r.e.sd) && e.rdy) n
  have s1 := cnt_succ T (fun e => decide (e.par = r.e.sd)) n
  have s2 := cnt_succ T (fun e => decide (e.par = r.e.sd) && e.rdy) n
  unfold sock_Table_listenerFine.L1b
  refine Bm.ite (fun hlt => Pn.mk ⟨⟨by omega, by omega⟩, ht'.drew.ldUsed (by omega) ?_⟩) fun hge => ?_
  · have no : ¬ ((T.rows n).used = true ∧ (T.rows n).e.par = r.e.sd) → sock_Table_listenerFine.B2 (some ⟨b, 0, none⟩) q ((cnt T (fun e => decide (e.par = r.e.sd)) n).length : Int) ((cnt T (fun e => decide (e.par = r.e.sd) && e.rdy) n).length : Int) (n : Int) false w'.drew (fun t' q' kk rr i' w' => ∃ m', m' < 6 - n ∧ ∃ n : Nat, n ≤ 6 ∧ m' = 6 - n ∧ some ⟨b, 0, none⟩ = t' ∧ q = q' ∧ kk = ((cnt T (fun e => decide (e.par = r.e.sd)) n).length : Int) ∧ rr = ((cnt T (fun e => decide (e.par = r.e.sd) && e.rdy) n).length : Int) ∧ i' = (n : Int) ∧ Own w' q (rowVs r).toArray T_sock_row ∧ Ext [] w w') R := fun hno => by
      unfold sock_Table_listenerFine.B2 sock_Table_listenerFine.B4
      have c1 : ((T.rows n).used && decide ((T.rows n).e.par = r.e.sd)) = false := by
        cases hu : (T.rows n).used with
        | false => rfl
        | true => simp; exact fun z => hno ⟨hu, z⟩
      have c2 : ((T.rows n).used && (decide ((T.rows n).e.par = r.e.sd) && (T.rows n).e.rdy)) = false := by
        rw [← Bool.and_assoc, c1]; rfl
      rw [c1] at s1
      rw [c2] at s2
      refine Bm.neg rfl ⟨6 - (n + 1), by omega, n + 1, by omega, rfl, rfl, rfl, ?_, ?_, by rw [w64 (by omega) (by omega)]; omega, ho.drew, he.trans (Ext.drew _ _)⟩
      · rw [s1]; simp
      · rw [s2]; simp
    refine Bm.mk (fun un => Pn.mk ⟨⟨by omega, by omega⟩, ht'.drew.ldPar (by omega) (LdI.mk ho.drew rfl ?_)⟩) fun un => no fun z => by rw [un] at z; cases z.1
    by_cases hp : (T.rows n).e.par = r.e.sd
    · rw [show ((T.rows n).e.par == r.e.sd) = true by simp [hp]]
      unfold sock_Table_listenerFine.B2
      have c1 : ((T.rows n).used && decide ((T.rows n).e.par = r.e.sd)) = true := by rw [un]; simp [hp]
      rw [c1] at s1
      refine Bm.pos rfl (Pn.mk ⟨⟨by omega, by omega⟩, ht'.drew.ldRdy (by omega) (Bm.mk (fun rd => ?_) fun rd => ?_)⟩)
      · have c2 : ((T.rows n).used && (decide ((T.rows n).e.par = r.e.sd) && (T.rows n).e.rdy)) = true := by rw [un, rd]; simp [hp]
        rw [c2] at s2
        unfold sock_Table_listenerFine.B4
        refine ⟨6 - (n + 1), by omega, n + 1, by omega, rfl, rfl, rfl, ?_, ?_, by rw [w64 (by omega) (by omega)]; omega, ho.drew, he.trans (Ext.drew _ _)⟩
        · rw [s1, w64 (by omega) (by omega)]; simp
        · rw [s2, w64 (by omega) (by omega)]; simp
      · have c2 : ((T.rows n).used && (decide ((T.rows n).e.par = r.e.sd) && (T.rows n).e.rdy)) = false := by rw [rd]; simp
        rw [c2] at s2
        unfold sock_Table_listenerFine.B4
        refine ⟨6 - (n + 1), by omega, n + 1, by omega, rfl, rfl, rfl, ?_, ?_, by rw [w64 (by omega) (by omega)]; omega, ho.drew, he.trans (Ext.drew _ _)⟩
        · rw [s1, w64 (by omega) (by omega)]; simp
        · rw [s2]; simp
    · rw [show ((T.rows n).e.par == r.e.sd) = false by simp [hp]]
      exact no fun z => hp z.2
  · have hn6' : n = 6 := by omega
    subst hn6'
    rw [hk6, hr6]
    have hLl := hperm.length_eq
    refine LdI.mk ho rfl (Bm.neg (by rw [hkids]; simp) (Bm.neg (decide_eq_false (by omega)) (LdI.mk ho rfl (Bm.neg (by rw [hn, hLl]; simp) (LdI.mk ho rfl (Bm.neg (decide_eq_false (by omega)) (LdI.mk ho rfl ?_)))))))
    rw [decide_eq_false (by omega)]
    unfold sock_Table_listenerFine.B3
    have hL2 : L.length ≤ 2 := by
      have hle : (S.E.filter (rdyOf r.e.sd)).length ≤ (S.E.filter (kidOf r.e.sd)).length := by
        have : S.E.filter (rdyOf r.e.sd) = (S.E.filter (kidOf r.e.sd)).filter fun x => x.1.rdy := by
          rw [List.filter_filter]
          congr 1
          funext x
          simp [rdyOf, kidOf, Bool.and_comm]
        rw [this]
        exact List.length_filter_le ..
      omega
    have hcell : ∀ z, z < 2 → (rowVs r).toArray[11 + z]? = some (.int .i64 (rg r z)) := fun z hz => by
      match z, hz with
      | 0, _ | 1, _ => rfl
    refine Bm.neg rfl ⟨fun m t' q' kk w' => ∃ n : Nat, n ≤ L.length ∧ m = L.length - n ∧ some ⟨b, 0, none⟩ = t' ∧ q = q' ∧ kk = (n : Int) ∧ Own w' q (rowVs r).toArray T_sock_row ∧ Ext [] w w', _, ⟨0, by omega, rfl, rfl, rfl, rfl, ho, he⟩, ?_⟩
    clear ho he ht' hge s1 s2 l1 l2
    rintro m t' q' kk w' ⟨n, hnL, rfl, rfl, rfl, rfl, ho, he⟩
    have ht' := ht.ext0 he
    unfold sock_Table_listenerFine.L2b
    refine LdI.mk ho rfl ?_
    rw [hn]
    refine Bm.ite (fun hlt => LdI.mk ho rfl ?_) fun hge => hR w' he
    rw [hhd, w64 (by omega) (by omega), show (hd : Int) + (n : Int) = ((hd + n : Nat) : Int) by omega]
    refine wrap_ok (by omega) ⟨⟨by omega, by omega⟩, ?_⟩
    rw [add_mk, Int.toNat_natCast, Nat.mul_one]
    obtain ⟨y, hy⟩ : ∃ y, L[n]? = some y := ⟨_, List.getElem?_eq_getElem (by omega)⟩
    refine LdI.mk ho (hcell _ (by omega)) ?_
    rw [hrg n y hy]
    have hym := List.mem_filter.1 (hperm.subset (List.mem_of_getElem? hy))
    have hyr := rdyOf_iff.1 hym.2
    refine h.find hS ht' ⟨fun j c hj uj hc ec hsd => ?_, fun hno => absurd rfl (hno y hym.1)⟩
    have hcy : c = y := hS.ei.uniq hc hym.1 hsd
    subst hcy
    refine Bm.neg (by simp) (Pn.mk ⟨⟨by omega, by omega⟩, ht'.drew.ldPar hj (LdI.mk ho.drew rfl (Bm.neg (by rw [← ec, hyr.1]; simp) (Pn.mk ⟨⟨by omega, by omega⟩, ht'.drew.ldRdy hj ?_⟩)))⟩)
    rw [← ec, hyr.2]
    show sock_Table_listenerFine.B5 (some ⟨b, 0, none⟩) q (n : Int) c.1.sd false w'.drew _ R
    unfold sock_Table_listenerFine.B5
    refine Bm.neg rfl ⟨fun m t' q' kk sd' z w' => ∃ x : Nat, x ≤ n ∧ m = n - x ∧ some ⟨b, 0, none⟩ = t' ∧ q = q' ∧ kk = (n : Int) ∧ c.1.sd = sd' ∧ z = (x : Int) ∧ Own w' q (rowVs r).toArray T_sock_row ∧ Ext [] w w', _, ⟨0, by omega, rfl, rfl, rfl, rfl, rfl, rfl, ho.drew, he.trans (Ext.drew _ _)⟩, ?_⟩
    clear ho he ht'
    rintro m t' q' kk sd' z w' ⟨x, hx, rfl, rfl, rfl, rfl, rfl, rfl, ho, he⟩
    unfold sock_Table_listenerFine.L3b
    refine Bm.ite (fun hlt2 => LdI.mk ho rfl ?_) fun hge => ⟨L.length - (n + 1), by omega, n + 1, by omega, rfl, rfl, rfl, by rw [w64 (by omega) (by omega)]; omega, ho, he⟩
    rw [hhd, w64 (by omega) (by omega), show (hd : Int) + (x : Int) = ((hd + x : Nat) : Int) by omega]
    refine wrap_ok (by omega) ⟨⟨by omega, by omega⟩, ?_⟩
    rw [add_mk, Int.toNat_natCast, Nat.mul_one]
    obtain ⟨v, hv⟩ : ∃ v, L[x]? = some v := ⟨_, List.getElem?_eq_getElem (by omega)⟩
    refine LdI.mk ho (hcell _ (by omega)) ?_
    rw [hrg x v hv]
    have hvm := List.mem_filter.1 (hperm.subset (List.mem_of_getElem? hv))
    have hne : v.1.sd ≠ c.1.sd := fun e => by
      have e2 := hS.ei.uniq hvm.1 hym.1 e
      subst e2
      have := asc_inj hasc hv hy rfl
      omega
    exact Bm.neg (by simp [hne]) ⟨n - (x + 1), by omega, x + 1, by omega, rfl, rfl, rfl, rfl, rfl, by rw [w64 (by omega) (by omega)]; omega, ho, he⟩
theorem rowFine_ok {i : Nat} {R : Bool → World → Prop} (ht : TAt w b T) (h : Rel T S F C occ) (hS : SkOk S) (hi : i < 6) (hR : ∀ w', Ext [] w w' → R true w') : sock_Table_rowFine.Call (some ⟨b, 0, none⟩) (i : Int) w R := by
  apply sock_Table_rowFine.sound
  unfold sock_Table_rowFine.B0
  refine Pn.mk ⟨⟨by omega, by omega⟩, ht.ldRow hi (NewSet.mk rfl rfl fun q w1 hq hs1 ho1 he1 => ?_)⟩
  have ho : Own w1 q (rowVs (T.rows i)).toArray T_sock_row := ho1
  refine LdB.mk ho rfl (Bm.mk (fun u => hR w1 he1) fun u => ?_)
  have u' : (T.rows i).used = true := by simpa using u
  obtain ⟨a, ha, ea⟩ := h.toE hi u'
  have hasd := hS.ei.sd a ha
  rw [ea] at hasd
  refine LdI.mk ho.drew rfl (Bm.neg (decide_eq_false (by omega)) (LdI.mk ho.drew rfl (Pn.mk ((ht.ext0 he1).drew.ldNsd ?_))))
  rw [h.nsd, decide_eq_false (by omega)]
  unfold sock_Table_rowFine.B1
  rw [w64 (by omega) (by omega)]
  refine Bm.neg rfl ⟨fun m t' q' k w' => ∃ n : Nat, i < n ∧ n ≤ 6 ∧ m = 6 - n ∧ some ⟨b, 0, none⟩ = t' ∧ q = q' ∧ k = (n : Int) ∧ Own w' q (rowVs (T.rows i)).toArray T_sock_row ∧ Ext [] w w', _, ⟨i + 1, by omega, by omega, rfl, rfl, rfl, by omega, ho.drew, he1.trans (Ext.drew _ _)⟩, ?_⟩
  clear ho he1
  rintro m t' q' k w' ⟨n, hin, hn6, rfl, rfl, rfl, rfl, ho, he⟩
  have ht' := ht.ext0 he
  unfold sock_Table_rowFine.L1b
  refine Bm.ite (fun hlt => Pn.mk ⟨⟨by omega, by omega⟩, ht'.ldRow (by omega) (NewSet.mk rfl rfl fun o w2 hoo hs2 ho2 he2 => ?_)⟩) fun hge => ?_
  · have hoo2 : Own w2 o (rowVs (T.rows n)).toArray T_sock_row := ho2
    have ho' := he2.own ho (by simp)
    have fin : sock_Table_rowFine.B3 (some ⟨b, 0, none⟩) q (n : Int) false w2 (fun t' q' k w' => ∃ m', m' < 6 - n ∧ ∃ n : Nat, i < n ∧ n ≤ 6 ∧ m' = 6 - n ∧ some ⟨b, 0, none⟩ = t' ∧ q = q' ∧ k = (n : Int) ∧ Own w' q (rowVs (T.rows i)).toArray T_sock_row ∧ Ext [] w w') R := by
      unfold sock_Table_rowFine.B3
      exact Bm.neg rfl ⟨6 - (n + 1), by omega, n + 1, by omega, by omega, rfl, rfl, rfl, by rw [w64 (by omega) (by omega)]; omega, ho', he.trans he2⟩
    refine LdB.mk hoo2 rfl (Bm.mk (fun un => LdI.mk hoo2 rfl (LdI.mk ho' rfl ?_)) fun un => ?_)
    · obtain ⟨c, hc, ec⟩ := h.toE (by omega) un
      have hne : (T.rows n).e.sd ≠ (T.rows i).e.sd := fun z => by have := h.uniq hS n i (by omega) hi un u' z; omega
      rw [show ((T.rows n).e.sd == (T.rows i).e.sd) = false by simp [hne]]
      unfold sock_Table_rowFine.B2
      refine Bm.neg rfl (LdB.mk hoo2 rfl (Bm.pos un (LdI.mk hoo2 rfl (LdI.mk ho' rfl (Bm.mk (fun k1 => LdI.mk hoo2 rfl (LdI.mk ho' rfl (Bm.mk (fun k2 => LdI.mk hoo2 rfl (LdI.mk ho' rfl (Bm.mk (fun k3 => LdI.mk hoo2 rfl (LdI.mk ho' rfl ?_)) fun _ => fin))) fun _ => fin))) fun _ => fin)))))
      have k1' : (T.rows n).e.kind = (T.rows i).e.kind := by simpa using k1
      have k2' : (T.rows n).e.lp = (T.rows i).e.lp := by simpa using k2
      have k3' : (T.rows n).e.rh = (T.rows i).e.rh := by simpa using k3
      have : (T.rows n).e.rp ≠ (T.rows i).e.rp := fun z => hne (by
        rcases (h.ok hS hi u').kind with kk | kk
        · have := hS.ei.prt c hc a ha (by rw [ec, k1', kk]) (by rw [ea, kk]) (by rw [ec, ea, k2'])
          rw [ec, ea] at this
          exact this
        · have := hS.ei.tup c hc a ha (by rw [ec, k1', kk]) (by rw [ea, kk]) (by rw [ec, ea, k2']) (by rw [ec, ea, k3']) (by rw [ec, ea, z])
          rw [ec, ea] at this
          exact this)
      rw [show ((T.rows n).e.rp == (T.rows i).e.rp) = false by simp [this]]
      exact fin
    · unfold sock_Table_rowFine.B2
      exact Bm.neg rfl (LdB.mk hoo2 rfl (Bm.neg un fin))
  · refine LdI.mk ho rfl (Bm.mk (fun kk => ?_) fun kk => ?_)
    · exact ldRowB ho (listenerFine_ok ht' h hS hi rfl u' (by simpa using kk) fun w2 he2 => hR w2 (he.trans he2))
    · refine ldRowB ho (connFine_ok ht' h hS hi rfl u' ?_ fun w2 he2 => hR w2 (he.trans he2))
      have := (h.ok hS hi u').kind
      have : (T.rows i).e.kind ≠ 1 := by simpa using kk
      omega
theorem realCheck_ok {R : Bool → World → Prop} (h : RAt w b S) (hS : SkOk S) (hR : ∀ w', Ext [] w w' → R true w') : sock_Table_Check.Call (some ⟨b, 0, none⟩) w R := by
  apply sock_Table_Check.sound
  unfold sock_Table_Check.B0
  obtain ⟨T, F, C, o, ht, hr⟩ := h
  refine rangesFine_ok ht hr hS (Bm.neg rfl (freeFine_ok ht hr fun w1 he1 => Bm.neg rfl (chainsFine_ok (ht.ext0 he1) hr hS fun w2 he2 => Bm.neg rfl (portsFine_ok (ht.ext0 (he1.trans he2)) hr hS (Bm.neg rfl ?_)))))
  refine ⟨fun m t' i w' => ∃ n : Nat, n ≤ 6 ∧ m = 6 - n ∧ some ⟨b, 0, none⟩ = t' ∧ i = (n : Int) ∧ Ext [] w w', _, ⟨0, by omega, rfl, rfl, rfl, he1.trans he2⟩, ?_⟩
  rintro m t' i w' ⟨n, hn, rfl, rfl, rfl, he⟩
  unfold sock_Table_Check.L1b
  exact Bm.ite (fun hlt => rowFine_ok (ht.ext0 he) hr hS (by omega) fun w3 he3 => Bm.neg rfl ⟨6 - (n + 1), by omega, n + 1, by omega, rfl, rfl, by rw [w64 (by omega) (by omega)]; omega, he.trans he3⟩) fun hge => hR w' he
end
end Go.Proofs.Qxb6500427a
