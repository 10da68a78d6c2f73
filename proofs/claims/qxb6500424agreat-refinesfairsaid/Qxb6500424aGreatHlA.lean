/-
  hostlaw: Close and Abort.
-/
import Derived.Test.Qxb6500424aGreatHmZ
set_option linter.unusedVariables false
set_option linter.unusedSimpArgs false
open Go.Vc
namespace Go.Proofs.Qxb6500424aGreat
section
variable {w0 w w' : World} {a c d q i : Nat} {m m' : LH} {r r' : LR} {k k' : LC} {n n' : Int} {sd mx : Int} {ab : Bool} {kb : Option Addr} {kl kc : Nat} {ks : List Int} {Z : Zf}
theorem irow_own2 {b : Option Addr} {l cc lo : Nat} {F : List (List Int × Nat)} (hL : LawAt w0 w a m r k) (fr : FrL w b l cc lo F) (kr : Row w kb kl kc 1 T_int (ks.map Sk.iv)) (ow : OwnedR w w' a r r' b F) : Row w' kb kl kc 1 T_int (ks.map Sk.iv) := kr.ext ow.ext (fun y hy z => by
  obtain ⟨cs, oy⟩ := kr.ty hy
  rcases List.mem_append.1 z with z | z
  · obtain ⟨e, he, z⟩ := List.mem_map.1 z
    exact Own.ne_type oy (fr.dat e he).1 (by decide) z.symm
  rcases List.mem_append.1 z with z | z
  · obtain ⟨cs2, o2⟩ := fr.row.ty z
    exact Own.ne_type oy o2 (by decide) rfl
  rcases List.mem_cons.1 z with z | z
  · exact Own.ne_type oy hL.own (by decide) z
  rcases List.mem_append.1 z with z | z
  · obtain ⟨cs2, o2⟩ := hL.r.M.row.ty z
    exact Own.ne_type oy o2 (by decide) rfl
  · obtain ⟨cs2, o2⟩ := hL.r.O.row.ty z
    exact Own.ne_type oy o2 (by decide) rfl)
theorem endCall {B : HB} {h : HS} {Q : Option Addr → Nat → Nat → Int → World → Prop} {A : Addr → Addr} (hh : HostAt w B h) (ok : HsOk n h) (hn : n ≤ 36028797018963968) (hP : PostC w B h (endT (fE ab) sd h.t) Q) (hld : ∀ {K : Option Addr → Prop}, K (some ⟨B.hp, 0, none⟩) → Pn (some (⟨a, 0, none⟩ : Addr)) fun x => (0 ≤ (c : Int) ∧ (c : Int) < ((3 : Nat) : Int)) ∧ LdP (A x) w K) :
    Bm ab (Pn (some (⟨a, 0, none⟩ : Addr)) fun x => (0 ≤ (c : Int) ∧ (c : Int) < ((3 : Nat) : Int)) ∧ LdP (A x) w fun p => host_Host_Abort.Call p sd w Q) (Pn (some (⟨a, 0, none⟩ : Addr)) fun x => (0 ≤ (c : Int) ∧ (c : Int) < ((3 : Nat) : Int)) ∧ LdP (A x) w fun p => host_Host_Close.Call p sd w Q) := by
  cases ab with
  | true => exact Bm.pos rfl (hld (abort_ok hh ok hn hP))
  | false => exact Bm.neg rfl (hld (close_ok hh ok hn hP))
theorem endB5 {R : Bool → World → Prop} {mine lis : Bool} {want : Int} (hL : LawAt w0 w a m r k) (hg : GoodZ Z n m r k) (h0 : 0 ≤ n) (hn : n ≤ 4398046500000) (hc : c < 3) (hE : EndC Z n m r k c sd ab mine lis ks) (hw : want = (endT (fE ab) sd (m.H c).t).e) (kr : Row w kb kl kc 1 T_int (ks.map Sk.iv)) (hks : ks.length ≤ 6)
    (hR : ∀ m' r' k' w', LawAt w0 w' a m' r' k' → MidZ Z (n + 400) m' r' k' (K0of m) → R true w') :
    PostC w (m.BH c) (m.H c) (endT (fE ab) sd (m.H c).t) (fun b l cc e w1 => hostlaw_World_End.B5 (some ⟨a, 0, none⟩) (c : Int) sd ab mine want lis kb kl kc b l cc e w1 R) := by
  have ok := hg.hs.ok c hc
  have hcM := hg.cnt.M
  have hcO := hg.cnt.O
  have hz := hL.sz
  refine ⟨fun pe w3 hh3 he3 => ?_, fun e0 b l cc F w3 fr3 eF0 hh3 he3 => ?_⟩
  · -- it fails
    have pt' : (endT (fE ab) sd (m.H c).t).t = (m.H c).t := by
      rcases hE with ⟨_, z⟩ | ⟨_, _, _, le⟩ | ⟨_, _, rfl, _, ae⟩ | ⟨_, _, _, _, rfl, _, ce⟩
      · exact z
      · exact absurd le.e pe
      · exact absurd ae.e pe
      · exact absurd ce.e pe
    have h3 : LawAt w0 w3 a m r k := by
      rw [pt'] at hh3
      have := hL.host hc hh3 he3
      rw [show (m.setH c { m.H c with t := (m.H c).t }) = m from setH_same m c] at this
      exact this
    unfold hostlaw_World_End.B5
    refine Pn.mk (h3.ldQu (Bm.mk (fun hq => ?_) fun hq => ?_))
    · have eJ := hg.tw hq c hc
      have hh5 : HostAt w3 (m.BQ c) (m.H c) := by have := h3.h.J hq c hc; rw [← eJ]; exact this
      refine endCall hh5 ok (by omega) ⟨fun _ w6 hh6 he6 => ?_, fun z => absurd z pe⟩ (fun {K} hK => Pn.mk ⟨⟨by omega, by omega⟩, h3.ldQ hc hq hK⟩)
      have h6 : LawAt w0 w6 a m r k := by
        rw [pt'] at hh6
        have := h3.twin hc hq hh6 he6
        rw [show (m.setJ c { m.H c with t := (m.H c).t }) = m from by have := setJ_same m c; rw [eJ] at this; exact this] at this
        exact this
      unfold hostlaw_World_End.B7
      refine Bm.neg (bne_self' _) (sameFrames_ok (F := []) (G := []) (FrL.nil w6 0) (FrL.nil w6 0) rfl (by omega) (fun e he => by cases he) fun w8 e8 => ?_)
      unfold hostlaw_World_End.B10
      refine Bm.neg rfl (ownAll_ok (h6.ext0 e8) (F := []) (lo := w0.heap.size) (FrL.nil w8 _) (Nat.le_refl _) (by omega) (by omega) (by omega) (fun e he => by cases he) (fun y hy => by cases hy) fun r9 w9 h9 m9 o9 ow => ?_)
      exact Bm.neg (by rw [hw]; exact bne_self' _) (Bm.pos (by simpa using pe) (hR m r9 k w9 h9 (hg.midK h0 ow.kr (by omega) (by omega))))
    · exact Bm.neg (by rw [hw]; exact bne_self' _) (Bm.pos (by simpa using pe) (hR m r k w3 h3 (hg.midK h0 (KeepR.refl r) (by omega) (by omega))))
  · -- it goes well
    have eF : F.map (·.1) = (callH (m.H c) (endT (fE ab) sd (m.H c).t)).2 := by simpa using eF0
    have h3 := hL.host hc hh3 he3
    have ff := hL.freshF fr3
    have kr3 : Row w3 kb kl kc 1 T_int (ks.map Sk.iv) := rowT kr he3 (hL.h.H c hc).tys (by decide)
    have cob : (∀ F' ∈ (callH (m.H c) (endT (fE ab) sd (m.H c).t)).2, F'.length ≤ 1000) ∧ (callH (m.H c) (endT (fE ab) sd (m.H c).t)).2.length ≤ 36 := by
      rcases hE with ⟨z, _⟩ | ⟨_, _, _, le⟩ | ⟨_, _, rfl, _, ae⟩ | ⟨_, _, _, _, rfl, _, ce⟩
      · exact absurd e0 z
      · exact ⟨le.co.sm, le.co.len⟩
      · exact ⟨ae.co.sm, ae.co.len⟩
      · exact ⟨ce.co.sm, ce.co.len⟩
    have hFl : l ≤ 36 := by
      have h1 := cob.2
      rw [← eF] at h1
      have := fr3.len
      simp at h1
      omega
    have hsm : ∀ e ∈ F, e.1.length ≤ 1000 := fun e he => cob.1 e.1 (by rw [← eF]; exact List.mem_map.2 ⟨e, he, rfl⟩)
    unfold hostlaw_World_End.B5
    refine Pn.mk (h3.ldQu (Bm.mk (fun hq0 => ?_) fun hq0 => ?_))
    · have hq : m.qu = true := hq0
      have eJ := hg.tw hq c hc
      have hh5 : HostAt w3 (m.BQ c) (m.H c) := by have := h3.h.J hq c hc; rw [← eJ]; exact this
      refine endCall hh5 ok (by omega) ⟨fun z => absurd e0 z, fun _ b2 l2 cc2 F2 w4 fr4 eF20 hh4 he4 => ?_⟩ (fun {K} hK => Pn.mk ⟨⟨by omega, by omega⟩, h3.ldQ hc hq hK⟩)
      have h4 := h3.twin hc hq hh4 he4
      have kr4 : Row w4 kb kl kc 1 T_int (ks.map Sk.iv) := rowT kr3 he4 hh5.tys (by decide)
      have eF2 : F2.map (·.1) = (callH (m.H c) (endT (fE ab) sd (m.H c).t)).2 := by simpa using eF20
      have eFF : F.map (·.1) = F2.map (·.1) := by rw [eF, eF2]
      have fr4a := fr3.keepT he4 hh5.tys (by decide) (by decide)
      have z3 := he3.size
      have hF2l : l2 ≤ 36 := by
        have h1 := congrArg List.length eFF
        have := fr3.len
        have := fr4.len
        simp at h1
        omega
      unfold hostlaw_World_End.B7
      refine Bm.neg rfl (sameFrames_ok fr4a fr4 eFF (by omega) (fun e he => by have := hsm e he; omega) fun w5 e5 => ?_)
      unfold hostlaw_World_End.B10
      have ff2 := h3.freshF fr4
      refine Bm.neg rfl (own2_ok (h4.ext0 e5) (fr4a.ext0 e5) (fr4.ext0 e5) (by omega) (fun e he => fr3.lt e he) (fun y hy => fr3.row.lt y hy) (by omega) (by omega) (by omega) ff.1 ff.2 (fun e he => ⟨ff2.1 e he, ?_⟩) ff2.2 fun r7 w7 h7 kr7 m7 o7 fr7 u7 v7 ow => ?_)
      · have := cob.1 e.1 (by rw [← eF2]; exact List.mem_map.2 ⟨e, he, rfl⟩)
        omega
      · have krow := irow_own2 (h4.ext0 e5) (fr4.ext0 e5) (kr4.ext e5 (fun _ _ z => by cases z)) ow
        obtain ⟨M7, O7, tok7, rfl⟩ := kr7
        have m7' : M7.n ≤ r.M.n + l2 := m7
        have o7' : O7.n ≤ r.O.n + 1 := o7
        exact Bm.neg (by rw [hw, e0]; rfl) (Bm.neg rfl (endTail hg h0 hn hc hE e0 ⟨h7, rfl, rfl, fun _ => ⟨hq, rfl⟩, by omega, by omega, fr7, by omega, eF, u7, v7⟩ krow hks hR))
    · have hq : m.qu = false := hq0
      refine Bm.neg (by rw [hw, e0]; rfl) (Bm.neg rfl (endTail (M1 := r.M) (O1 := r.O) (tok1 := r.tok) hg h0 hn hc hE e0 ⟨h3, rfl, rfl, fun zz => ?_, by omega, by omega, fr3, by omega, eF, ff.1, ff.2⟩ kr3 hks hR))
      have z' : m.qu = true := zz
      rw [hq] at z'
      cases z'
/-- The children of a listener; then the call. -/
theorem endB1 {R : Bool → World → Prop} {mine lis : Bool} {want : Int} (hL : LawAt w0 w a m r k) (hg : GoodZ Z n m r k) (h0 : 0 ≤ n) (hn : n ≤ 4398046500000) (hc : c < 3) (hw : want = (endT (fE ab) sd (m.H c).t).e) (hno : ¬ (want = 0 ∧ mine = false) → EndC Z n m r k c sd ab mine lis [])
    (hyes : want = 0 → mine = false → EndC Z n m r k c sd ab mine lis (((m.H c).t.K.E.filter fun x => decide (x.1.par = sd)).map fun x => x.1.sd))
    (hR : ∀ m' r' k' w', LawAt w0 w' a m' r' k' → MidZ Z (n + 400) m' r' k' (K0of m) → R true w') : hostlaw_World_End.B1 (some ⟨a, 0, none⟩) (c : Int) sd ab mine want lis w R := by
  unfold hostlaw_World_End.B1
  have ok := hg.hs.ok c hc
  have hsn := hg.seen c hc
  have hE6 := rows6' ok.sk
  generalize hEe : (m.H c).t.K.E = E at *
  have hl : (sdsE E).length = E.length := by simp [sdsE]
  refine New.mk fun b49 w1 e49 hs1 o49 he1 => ?_
  have g1 : Row w1 (some ⟨b49, 0, none⟩) 0 0 1 T_int (([] : List Int).map Sk.iv) := ⟨rfl, Nat.le_refl _, .inr ⟨b49, _, rfl, o49, by simp, by simp⟩⟩
  -- the call
  have call : ∀ {w2 : World} {kb : Option Addr} {kl kc : Nat} {ks : List Int}, Ext [] w w2 → Row w2 kb kl kc 1 T_int (ks.map Sk.iv) → ks.length ≤ 6 → EndC Z n m r k c sd ab mine lis ks → ∀ (tt : Bool), tt = false → ∀ (i : Int) N1, hostlaw_World_End.B3 (some ⟨a, 0, none⟩) (c : Int) sd ab mine want lis kb kl kc i tt w2 N1 R := fun {w2 kb kl kc ks} e2 kr hk6 hE tt ht i N1 => by
    unfold hostlaw_World_End.B3
    have h2 := hL.ext0 e2
    refine Bm.neg ht ?_
    exact endCall (h2.h.H c hc) ok (by omega) (endB5 h2 hg h0 hn hc hE hw kr hk6 hR) (fun {K} hK => Pn.mk ⟨⟨by omega, by omega⟩, h2.ldH hc hK⟩)
  unfold hostlaw_World_End.L1
  refine ⟨fun mm a' c' sd' ab' mi' wa' li' kb' kl' kc' i w' => ∃ (q : Nat) (ks : List Int), q ≤ E.length ∧ mm = E.length - q ∧ some ⟨a, 0, none⟩ = a' ∧ (c : Int) = c' ∧ sd = sd' ∧ ab = ab' ∧ mine = mi' ∧ want = wa' ∧ lis = li' ∧ ks.length = kl' ∧ i = (q : Int) ∧ Ext [] w w' ∧ Row w' kb' kl' kc' 1 T_int (ks.map Sk.iv) ∧ (∀ y ∈ rowBlk kb', w.heap.size ≤ y) ∧ ks = (((E.take q).filter fun x => decide (x.1.par = sd)).map fun x => x.1.sd) ∧ (q ≠ 0 → want = 0 ∧ mine = false), E.length,
    ⟨0, [], by omega, rfl, rfl, rfl, rfl, rfl, rfl, rfl, rfl, rfl, rfl, he1, g1, fun y hy => by simp [rowBlk] at hy; omega, rfl, fun z => absurd rfl z⟩, ?_⟩
  rintro mm a' c' sd' ab' mi' wa' li' kb' kl' kc' i w' ⟨q, ks, hq, rfl, rfl, rfl, rfl, rfl, rfl, rfl, rfl, rfl, rfl, he', kr', hge', eks, hq0⟩
  unfold hostlaw_World_End.L1b
  have h' := hL.ext0 he'
  have hk6 : ks.length ≤ 6 := by
    rw [eks, List.length_map]
    have := List.length_filter_le (fun x : Sk.AE => decide (x.1.par = sd)) (E.take q)
    rw [List.length_take] at this
    omega
  refine Pn.mk ⟨⟨by omega, by omega⟩, h'.ldSeen hc ?_⟩
  rw [hsn, hl]
  by_cases hcond : want = 0 ∧ mine = false
  · obtain ⟨hw0, hm0⟩ := hcond
    refine Bm.ite (fun hlt => Bm.pos (by rw [hw0]; rfl) ?_) fun hge => ?_
    · obtain ⟨x, hx⟩ : ∃ x, E[q]? = some x := ⟨_, List.getElem?_eq_getElem (by omega)⟩
      have hxm := List.mem_of_getElem? hx
      have hsd : (r.sn c)[q]? = some x.1.sd := by rw [hsn]; unfold sdsE; rw [List.getElem?_map, hx]; rfl
      have hget : Sk.getE (m.H c).t.K.E x.1.sd = some x := by
        refine Sk.getE_some ok.sk.ei ?_
        rw [hEe]
        exact hxm
      unfold hostlaw_World_End.B3
      refine Bm.pos (by rw [hm0]; rfl) (seenInfo h'.drew hc ok hsd fun s e w5 hI e5 => ?_)
      obtain ⟨rfl, ib, hia, os⟩ := hI.yes x hget
      have E5' : Ext [] w' w5 := (Ext.drew [] _).trans e5
      have E5 := he'.trans E5'
      have kr5 := kr'.ext E5' (fun _ _ z => by cases z)
      have etk : (((E.take (q + 1)).filter fun x => decide (x.1.par = sd)).map fun x => x.1.sd) = ks ++ (if x.1.par = sd then [x.1.sd] else []) := by
        rw [eks, List.take_add_one, hx, List.filter_append, List.map_append]
        congr 1
        simp only [Option.toList, List.filter_cons, List.filter_nil, decide_eq_true_eq]
        split <;> rfl
      have no : ¬ x.1.par = sd → ∀ tt : Bool, tt = false → hostlaw_World_End.B6 (some ⟨a, 0, none⟩) (c : Int) sd ab mine want lis kb' ks.length kc' (q : Int) tt w5 (fun a' c' sd' ab' mi' wa' li' kb' kl' kc' i w' => ∃ m', m' < E.length - q ∧ ∃ (q : Nat) (ks : List Int), q ≤ E.length ∧ m' = E.length - q ∧ some ⟨a, 0, none⟩ = a' ∧ (c : Int) = c' ∧ sd = sd' ∧ ab = ab' ∧ mine = mi' ∧ want = wa' ∧ lis = li' ∧ ks.length = kl' ∧ i = (q : Int) ∧ Ext [] w w' ∧ Row w' kb' kl' kc' 1 T_int (ks.map Sk.iv) ∧ (∀ y ∈ rowBlk kb', w.heap.size ≤ y) ∧ ks = (((E.take q).filter fun x => decide (x.1.par = sd)).map fun x => x.1.sd) ∧ (q ≠ 0 → want = 0 ∧ mine = false)) R := fun hp tt ht => by
        unfold hostlaw_World_End.B6 hostlaw_World_End.B9
        refine Bm.neg ht ⟨E.length - (q + 1), by omega, q + 1, ks, by omega, rfl, rfl, rfl, rfl, rfl, rfl, rfl, rfl, rfl, by rw [w64 (by omega) (by omega)]; omega, E5, kr5, hge', by rw [etk, if_neg hp, List.append_nil], fun _ => ⟨hw0, hm0⟩⟩
      unfold hostlaw_World_End.B4
      refine Bm.pos rfl (LdI.mk os rfl ?_)
      by_cases hp : x.1.par = sd
      · unfold hostlaw_World_End.B6
        have h5 := hL.ext0 E5
        refine Bm.pos (by rw [hp]; simp) (Pn.mk ⟨⟨by omega, by omega⟩, h5.ldSeen hc (irow_ld (h5.r.sn c hc) hsd (New.mk fun nb w6 enb hs6 onb he6 => ?_))⟩)
        have kr6 := kr5.ext he6 (fun _ _ z => by cases z)
        refine Vc.Append.mk (e := 3) (news := [Sk.iv x.1.sd]) kr6 (CellsAt.own onb (fun j v hj => by simpa [Sk.iv] using hj)) rfl rfl rfl (by omega) (by omega) fun b7 c7 w7 r7 he7 hb7 => ?_
        unfold hostlaw_World_End.B9
        have z6 := he6.size
        have z5 := E5.size
        refine ⟨E.length - (q + 1), by omega, q + 1, ks ++ [x.1.sd], by omega, rfl, rfl, rfl, rfl, rfl, rfl, rfl, rfl, by simp, by rw [w64 (by omega) (by omega)]; omega, (E5.trans he6).trans' he7 (fun y hy hl => absurd (hge' y hy) (by omega)), by rw [List.map_append]; simpa using r7, fun y hy => ?_, by rw [etk, if_pos hp], fun _ => ⟨hw0, hm0⟩⟩
        rcases hb7 y hy with z | z
        · exact hge' y z
        · omega
      · exact no hp _ (by simpa using hp)
    · refine call he' kr' hk6 ?_ false rfl _ _
      have hy := hyes hw0 hm0
      rw [List.take_of_length_le (by omega)] at eks
      rw [eks]
      exact hy
  · have hq1 : q = 0 := by
      apply Classical.byContradiction
      intro z
      exact hcond (hq0 z)
    subst hq1
    have eks0 : ks = [] := by rw [eks]; rfl
    have hE := hno hcond
    rw [← eks0] at hE
    refine Bm.ite (fun hlt => Bm.mk (fun z => call he' kr' hk6 hE _ ?_ _ _) fun z => call he' kr' hk6 hE false rfl _ _) fun hge => call he' kr' hk6 hE false rfl _ _
    have hw0 : want = 0 := beqT z
    cases hm : mine with
    | true => rfl
    | false => exact absurd ⟨hw0, hm⟩ hcond
theorem lawEnd_ok {R : Bool → World → Prop} (hL : LawAt w0 w a m r k) (hg : GoodZ Z n m r k) (h0 : 0 ≤ n) (hn : n ≤ 4398046500000) (hc : c < 3) (hze : Z.on m k → ab = false ∧ lisB (m.H c).t.K.E sd = false ∧ ∀ x, oursE (m.H c).t.K.E sd = some x → ((m.H c).t.C (slotN x)).st = 3)
    (hR : ∀ m' r' k' w', LawAt w0 w' a m' r' k' → MidZ Z (n + 400) m' r' k' (K0of m) → R true w') : hostlaw_World_End.Call (some ⟨a, 0, none⟩) (c : Int) sd ab w R := by
  apply hostlaw_World_End.sound
  unfold hostlaw_World_End.B0
  have ok := hg.hs.ok c hc
  -- behind the look at the descriptor
  have go : ∀ {w3 : World} {s : Nat} {mine : Bool}, LawAt w0 w3 a m r k → mine = (oursE (m.H c).t.K.E sd).isSome → (∀ x, oursE (m.H c).t.K.E sd = some x → ∃ ib, Own w3 s (siArr x.1 (some ⟨ib, 0, none⟩)) 69 ∧ InAt w3 ib ((m.H c).t.C (slotN x))) → hostlaw_World_isListener.Call (some ⟨a, 0, none⟩) (c : Int) sd w3 fun r39 w4 => Bm r39 (hostlaw_World_End.B1 (some ⟨a, 0, none⟩) (c : Int) sd ab mine 0 r39 w4 R) (Bm mine (hostlaw_World_End.B2 (some ⟨a, 0, none⟩) (c : Int) sd ab s mine 21 r39 ab w4 R) (hostlaw_World_End.B2 (some ⟨a, 0, none⟩) (c : Int) sd ab s mine 21 r39 false w4 R)) := fun {w3 s mine} h3 hm hx => by
    refine isLis_ok h3 hc ok fun w4 e4 => ?_
    have h4 := h3.ext0 e4
    cases hl : lisB (m.H c).t.K.E sd with
    | true =>
      have hm0 : mine = false := by
        rw [hm]
        unfold lisB at hl
        unfold oursE
        cases hgg : Sk.getE (m.H c).t.K.E sd with
        | none => rfl
        | some x =>
          rw [hgg] at hl
          have : x.1.kind = 1 := by simpa using hl
          show (if x.1.kind = 2 ∧ x.1.par = 0 then some x else none).isSome = false
          rw [if_neg (fun z => by omega)]
          rfl
      have le := lis_end (ab := ab) hg h0 hc (fun z => by have := (hze z).2.1; rw [hl] at this; cases this) hl
      refine Bm.pos rfl (endB1 h4 hg h0 hn hc le.e.symm (fun z => absurd ⟨rfl, hm0⟩ z) (fun _ _ => .lis rfl hm0 (fun s hs => ?_) le) hR)
      obtain ⟨x, hx, e1⟩ := List.mem_map.1 hs
      exact ⟨x, (List.mem_filter.1 hx).1, e1, by simpa using (List.mem_filter.1 hx).2⟩
    | false =>
      refine Bm.neg rfl ?_
      cases hour : oursE (m.H c).t.K.E sd with
      | none =>
        rw [hour] at hm
        have hm0 : mine = false := hm
        have ev : endT (fE ab) sd (m.H c).t = ⟨(), 21, (m.H c).t, []⟩ := by
          unfold endT
          rw [if_neg (by rw [hl]; simp), hour]
        refine Bm.neg hm0 ?_
        unfold hostlaw_World_End.B2
        refine Bm.neg rfl (Bm.neg hm0 (endB1 h4 hg h0 hn hc (by rw [ev]) (fun _ => .bad (by rw [ev]; show (21 : Int) ≠ 0; decide) (by rw [ev])) (fun z => ?_) hR))
        exact absurd z (by decide)
      | some x =>
        rw [hour] at hm
        have hm1 : mine = true := hm
        obtain ⟨f1, f2, f3, f4⟩ := endT_facts (b := ab) hl hour
        refine Bm.pos hm1 ?_
        unfold hostlaw_World_End.B2
        have nno : ∀ {P : Prop}, mine = false → P := fun z => by rw [hm1] at z; cases z
        cases hab : ab with
        | true =>
          have ae := abo_end hg h0 hc (fun z => by have := (hze z).1; rw [hab] at this; cases this) hl hour
          exact Bm.pos rfl (endB1 h4 hg h0 hn hc ae.e.symm (fun _ => .abo rfl hm1 rfl rfl ae) (fun _ z => nno z) hR)
        | false =>
          obtain ⟨ib, os, hia⟩ := hx x hour
          have os4 := e4.own os (by simp)
          have hia4 : InAt w4 ib ((m.H c).t.C (slotN x)) := e4.own hia (by simp)
          obtain ⟨hget, hk2, hp0⟩ := oursE_kind hour
          have hxm := (getE_mem hget).1
          have hsl := slot_lt ok.sk hxm hk2
          have hcs := ok.cs (slotN x) (by unfold slotN; omega)
          have hst : ((m.H c).t.C (slotN x)).st ≠ 0 := by
            obtain ⟨G, X, Lg, M, pw, rs, gb⟩ := hg.pw
            exact ((chk_of pw.sys hc (h := m.H c) rfl).row x hxm hk2).1
          subst hab
          refine Bm.neg rfl (Bm.pos hm1 (LdP.mk os4 rfl (wantClose_ok hia4 hcs hst (endB1 h4 hg h0 hn hc f1.symm (fun _ => ?_) (fun _ z => nno z) hR))))
          rcases clo_end hg h0 hc (fun z => (hze z).2.2 x hour) hl hour with ⟨e0, et⟩ | ⟨i, y, ce⟩
          · exact .bad e0 et
          · exact .clo i y rfl hm1 rfl rfl ce
  refine lawOurs_ok hL hc ok (fun hno w1 e1 => ?_) (fun x hx ib w1 hia e1 => ?_)
  · refine New.mk fun s w2 es hs2 os2 he2 => Sts.full (vs := [.int .i64 0, .int .i64 0, .int .i64 0, .int .i64 0, .int .i64 0, .int .i64 0, .int .i64 0, .bool false, .pointer none]) os2 rfl rfl fun w3 hs3 o3 he3 => ?_
    have E3 : Ext [] w w3 := (e1.trans he2).trans' he3 (fun y hy hl => by simp at hy; have := e1.size; omega)
    have hn0 : oursE (m.H c).t.K.E sd = none := by unfold oursE; rw [hno]
    exact go (hL.ext0 E3) (by rw [hn0]; rfl) (fun x hx => by rw [hn0] at hx; cases hx)
  · refine New.mk fun s w2 es hs2 os2 he2 => Sts.full (vs := [.int .i64 x.1.sd, .int .i64 x.1.kind, .int .i64 x.1.lp, .int .i64 x.1.rh, .int .i64 x.1.rp, .int .i64 x.1.slot, .int .i64 x.1.par, .bool x.1.rdy, .pointer (some ⟨ib, 0, none⟩)]) os2 rfl rfl fun w3 hs3 o3 he3 => ?_
    have z1 := e1.size
    have E3 : Ext [] w w3 := (e1.trans he2).trans' he3 (fun y hy hl => by simp at hy; omega)
    have E13 : Ext [] w1 w3 := he2.trans' he3 (fun y hy hl => by simp at hy; omega)
    refine go (hL.ext0 E3) rfl (fun x' hx' => ?_)
    obtain ⟨h1, hk2, hp0⟩ := oursE_kind hx'
    rw [hx] at h1
    cases h1
    have ei : infoC (m.H c).t x = (m.H c).t.C (slotN x) := by unfold infoC; rw [if_pos hk2]
    rw [ei] at hia
    exact ⟨ib, o3, E13.own hia (by simp)⟩
end
end Go.Proofs.Qxb6500424aGreat
