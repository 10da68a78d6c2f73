/-
  sync: acked, refused; the follower's accept.
-/
import Derived.Test.Qxb6500430aGreatSyG
set_option linter.unusedVariables false
set_option linter.unusedSimpArgs false
open Go.Vc
namespace Go.Proofs.Qxb6500430aGreat
theorem setL_app (Y : YS) (S T : List LogS) : setL (setL Y S) T = setL Y (S ++ T) := by
  unfold setL
  rw [finL_app]
theorem upN_eq (f : Nat → Int) (p : Nat) (v : Int) : upN f p v p = v := by unfold upN; rw [if_pos rfl]
theorem upN_ne {f : Nat → Int} {p q : Nat} {v : Int} (h : q ≠ p) : upN f p v q = f q := by unfold upN; rw [if_neg h]
section
variable {w0 w w' : World} {s l t d e : Nat} {D0 : DiskS} {F0 : List Nat} {N : Int} {L0 : LogS} {X : SyR} {L : LogS} {es : El.ES} {Y : YS} {B : List ME} {S T : List LogS}
theorem book_acked {p : Nat} {i : Int} (hk : Book Y) (hp : p < 3) (hi : 0 ≤ i) (h1 : ¬ (i ≤ Y.mt p ∨ Y.L.last < i)) (hpi : (p : Int) ≠ Y.e.id) : Book { Y with mt := upN Y.mt p i, nx := if Y.nx p ≤ i then upN Y.nx p (i + 1) else Y.nx } := by
  refine ⟨hk.id, fun q hq hqi => ?_, hk.cm⟩
  show 0 ≤ upN Y.mt p i q ∧ upN Y.mt p i q < (if Y.nx p ≤ i then upN Y.nx p (i + 1) else Y.nx) q ∧ (if Y.nx p ≤ i then upN Y.nx p (i + 1) else Y.nx) q ≤ Y.L.last + 1
  have a := hk.all q hq hqi
  by_cases c : q = p
  · subst c
    rw [upN_eq]
    by_cases c2 : Y.nx q ≤ i
    · rw [if_pos c2, upN_eq]; omega
    · rw [if_neg c2]; omega
  · rw [upN_ne c]
    by_cases c2 : Y.nx p ≤ i
    · rw [if_pos c2, upN_ne c]; omega
    · rw [if_neg c2]; omega
theorem book_adv (hk : Book Y) : Book (advF Y) := by
  refine ⟨hk.id, hk.all, ?_⟩
  have h1 := advN_le Y.L Y.e.term Y.cm (peerMax Y - Y.cm).toNat
  have h2 := peerMax_le Y hk
  have h3 := hk.cm
  show Y.L.base ≤ advN Y.L Y.e.term Y.cm (peerMax Y - Y.cm).toNat ∧ advN Y.L Y.e.term Y.cm (peerMax Y - Y.cm).toNat ≤ Y.L.last
  omega
theorem acked_ok {p : Nat} {i : Int} {R : World → Prop} (h : Ev w0 s l t d e D0 F0 N L0 w Y [] S) (hk : Book Y) (hp : p < 3) (hpi : (p : Int) ≠ Y.e.id) (hi : 0 ≤ i ∧ i ≤ 72057594037927936)
    (hR : ∀ E w', E.map (·.1) = (ackedF p i Y).2 → Ev w0 s l t d e D0 F0 N L0 w' (ackedF p i Y).1 E S → ExtT w w' CT → R w') : sync_Sync_acked.Call (some ⟨s, 0, none⟩) (p : Int) i w R := by
  apply sync_Sync_acked.sound
  unfold sync_Sync_acked.B0
  obtain ⟨bx, h, hb⟩ := h
  have ix : (0 : Int) ≤ (p : Int) ∧ (p : Int) < ((3 : Nat) : Int) := ⟨by omega, by omega⟩
  have no : (i ≤ Y.mt p ∨ Y.L.last < i) → sync_Sync_acked.B1 (some ⟨s, 0, none⟩) (p : Int) i true w R := fun hc => by
    unfold sync_Sync_acked.B1
    have e1 : ackedF p i Y = (Y, []) := by unfold ackedF; rw [if_pos hc]
    rw [e1] at hR
    exact Bm.pos rfl (hR [] w rfl ⟨bx, h, hb⟩ (ExtT.refl _ _))
  refine Pn.mk ⟨ix, h.own.ldMt hp (Bm.ite (fun c => no (.inl c)) fun c1 => Pn.mk (h.own.ldI (o := 9) (by omega) rfl ?_))⟩
  have c1' : ¬ (i ≤ Y.mt p) := c1
  by_cases c2 : i > Y.L.last
  · rw [show decide (i > (syX l e Y bx ([] : List ME).length).last) = true from decide_eq_true c2]
    exact no (.inr c2)
  rw [show decide (i > (syX l e Y bx ([] : List ME).length).last) = false from decide_eq_false c2]
  unfold sync_Sync_acked.B1
  have hno : ¬ (i ≤ Y.mt p ∨ Y.L.last < i) := by omega
  have e1 : ackedF p i Y = (advF { Y with mt := upN Y.mt p i, nx := if Y.nx p ≤ i then upN Y.nx p (i + 1) else Y.nx }, if (advF { Y with mt := upN Y.mt p i, nx := if Y.nx p ≤ i then upN Y.nx p (i + 1) else Y.nx }).nx p ≤ (advF { Y with mt := upN Y.mt p i, nx := if Y.nx p ≤ i then upN Y.nx p (i + 1) else Y.nx }).L.last then [sendF p (advF { Y with mt := upN Y.mt p i, nx := if Y.nx p ≤ i then upN Y.nx p (i + 1) else Y.nx })] else []) := by
    unfold ackedF
    rw [if_neg hno]
  have hbk := book_acked hk hp hi.1 hno hpi
  rw [e1] at hR
  generalize hY1 : ({ Y with mt := upN Y.mt p i, nx := if Y.nx p ≤ i then upN Y.nx p (i + 1) else Y.nx } : YS) = Y1 at hR hbk
  have eL : Y1.L = Y.L := by rw [← hY1]
  have ee : Y1.e = Y.e := by rw [← hY1]
  have b2 : ∀ {w2 : World}, Ev w0 s l t d e D0 F0 N L0 w2 Y1 [] S → ExtT w w2 CT → sync_Sync_acked.B2 (some ⟨s, 0, none⟩) (p : Int) w2 R := fun {w2} h2 x2 => by
    unfold sync_Sync_acked.B2
    refine advance_ok h2 hbk fun w3 h3 x3 => ?_
    have h3d := h3.ext0 (Ext.drew [] w3)
    have x3d := (x2.trans x3).trans (ExtT.nil (Ext.drew [] w3) _)
    obtain ⟨b3, v3⟩ := h3d.vw
    refine Pn.mk ⟨ix, v3.own.ldNx hp (Pn.mk (v3.own.ldI (o := 9) (by omega) rfl ?_))⟩
    show Bm (decide ((advF Y1).nx p ≤ (advF Y1).L.last)) _ _
    by_cases c : (advF Y1).nx p ≤ (advF Y1).L.last
    · rw [if_pos c] at hR
      have a := (book_adv hbk).all p hp (by show (p : Int) ≠ Y1.e.id; rw [ee]; exact hpi)
      exact Bm.pos (decide_eq_true c) (send_ok h3d (by simp) hp ⟨by omega, a.2.2⟩ fun b cc w4 h4 x4 => hR _ w4 rfl h4 (x3d.trans x4))
    · rw [if_neg c] at hR
      exact Bm.neg (decide_eq_false c) (hR [] _ rfl h3d x3d)
  refine Bm.neg rfl (Pn.mk ⟨ix, h.own.stMt hp fun w1 hs1 o1 he1 => Pn.mk ⟨ix, ?_⟩⟩)
  have h1 := h.st o1 rfl rfl he1
  have x1 := CTs (T := T_sync_Sync) (by simp) h.own he1
  refine h1.own.ldNx hp ?_
  show Bm (decide (Y.nx p ≤ i)) _ _
  by_cases c : Y.nx p ≤ i
  · refine Bm.pos (decide_eq_true c) (Pn.mk ⟨ix, h1.own.stNx hp fun w2 hs2 o2 he2 => ?_⟩)
    have h2 := h1.st o2 rfl rfl he2
    refine b2 ⟨bx, ?_, hb⟩ (x1.trans (CTs (by simp) h1.own he2))
    rw [← hY1, if_pos c]
    rw [w64 (by omega) (by omega)] at h2
    exact h2
  · refine Bm.neg (decide_eq_false c) (b2 ⟨bx, ?_, hb⟩ x1)
    rw [← hY1, if_neg c]
    exact h1
theorem refused_ok {p : Nat} {i : Int} {R : World → Prop} (h : Ev w0 s l t d e D0 F0 N L0 w Y [] S) (hk : Book Y) (hp : p < 3) (hpi : (p : Int) ≠ Y.e.id) (hi : 0 ≤ i ∧ i ≤ 72057594037927936)
    (hR : ∀ E w', E.map (·.1) = (refusedF p i Y).2 → Ev w0 s l t d e D0 F0 N L0 w' (refusedF p i Y).1 E S → ExtT w w' CT → R w') : sync_Sync_refused.Call (some ⟨s, 0, none⟩) (p : Int) i w R := by
  apply sync_Sync_refused.sound
  unfold sync_Sync_refused.B0
  have hh := h
  obtain ⟨bx, h, hb⟩ := h
  have ix : (0 : Int) ≤ (p : Int) ∧ (p : Int) < ((3 : Nat) : Int) := ⟨by omega, by omega⟩
  have a := hk.all p hp hpi
  have hlast : Y.L.base + (Y.L.ents.length : Int) ≤ 72057594037927936 := h.vw.ok.last
  have hl9 : Y.L.last = Y.L.base + (Y.L.ents.length : Int) := rfl
  have b1 : ∀ n : Int, n = refN p i Y → sync_Sync_refused.B1 (some ⟨s, 0, none⟩) (p : Int) n w R := fun n hn => by
    unfold sync_Sync_refused.B1
    refine Pn.mk ⟨ix, h.own.ldNx hp ?_⟩
    show Bm (decide (n < Y.nx p)) _ _
    unfold refusedF at hR
    rw [← hn] at hR
    by_cases c : n < Y.nx p
    · rw [if_pos c] at hR
      refine Bm.pos (decide_eq_true c) (Pn.mk ⟨ix, h.own.stNx hp fun w1 hs1 o1 he1 => ?_⟩)
      obtain ⟨f1, f2⟩ := Ev.st (Y' := { Y with nx := upN Y.nx p n }) h hb o1 he1 rfl rfl rfl
      refine send_ok f1 (by simp) hp ?_ fun b cc w2 h2 x2 => hR _ w2 rfl h2 (f2.trans x2)
      show 0 ≤ upN Y.nx p n p ∧ upN Y.nx p n p ≤ Y.L.last + 1
      rw [upN_eq]
      unfold refN at hn
      split at hn <;> omega
    · rw [if_neg c] at hR
      exact Bm.neg (decide_eq_false c) (hR [] w rfl hh (ExtT.refl _ _))
  rw [w64 (x := i + 1) (by omega) (by omega)]
  refine Pn.mk ⟨ix, h.own.ldMt hp ?_⟩
  show Bm (decide (i + 1 ≤ Y.mt p)) _ _
  by_cases c : i + 1 ≤ Y.mt p
  · refine Bm.pos (decide_eq_true c) (Pn.mk ⟨ix, h.own.ldMt hp ?_⟩)
    show sync_Sync_refused.B1 (some ⟨s, 0, none⟩) (p : Int) (IntKind.i64.wrap (Y.mt p + 1)) w R
    rw [w64 (by omega) (by omega)]
    exact b1 _ (by unfold refN; rw [if_pos c])
  · exact Bm.neg (decide_eq_false c) (b1 _ (by unfold refN; rw [if_neg c]))
/-! ### the follower -/
theorem EA.ld {b : Option Addr} {ll c n : Nat} {E : List EntV} {x : EntV} {Q : Int → ByteArray → Prop} (h : EA w b ll c E) (hx : E[n]? = some x) (hQ : Q x.1 x.2) :
    Pn b fun a => (0 ≤ (n : Int) ∧ (n : Int) < (ll : Int)) ∧ LdI .i64 (Addr.add a ((n : Int).toNat * 2)) w fun x0 => LdS ((Addr.add a ((n : Int).toNat * 2)).add 1) w fun x1 => Q x0 x1 := by
  have hl := EA.len h
  have hlt := (List.getElem?_eq_some_iff.1 hx).1
  obtain ⟨k, rfl, cs, ho, hc⟩ := Row.at h (i := n) (by omega) (by omega)
  have g : ∀ j, j < 2 → cs[n * 2 + j]? = (entC x)[j]? := fun j hj => by rw [hc j hj, flat_get entC_len hx hj]
  refine Pn.mk ⟨⟨by omega, by omega⟩, ?_⟩
  simp only [Int.toNat_natCast, add_mk, Nat.zero_add]
  exact LdI.mk ho (g 0 (by omega)) (LdS.mk ho (g 1 (by omega)) hQ)
theorem EA.ldT {b : Option Addr} {ll c n : Nat} {E : List EntV} {x : EntV} {Q : Int → Prop} (h : EA w b ll c E) (hx : E[n]? = some x) (hQ : Q x.1) :
    Pn b fun a => (0 ≤ (n : Int) ∧ (n : Int) < (ll : Int)) ∧ LdI .i64 (Addr.add a ((n : Int).toNat * 2)) w Q := by
  have hl := EA.len h
  have hlt := (List.getElem?_eq_some_iff.1 hx).1
  obtain ⟨k, rfl, cs, ho, hc⟩ := Row.at h (i := n) (by omega) (by omega)
  refine Pn.mk ⟨⟨by omega, by omega⟩, ?_⟩
  simp only [Int.toNat_natCast, add_mk, Nat.zero_add]
  exact LdI.mk ho (by have := hc 0 (by omega); rw [Nat.add_zero] at this; rw [this, ← Nat.add_zero (n * 2), flat_get entC_len hx (by omega)]; rfl) hQ
theorem agreeN_cons (L : LogS) (p : Int) (x : EntV) (E : List EntV) : agreeN L p (x :: E) = if p + 1 ≤ L.last ∧ (termL L (p + 1)).1 = x.1 then agreeN L (p + 1) E + 1 else 0 := rfl
theorem agree_ok {prev : Int} {b : Option Addr} {ll c : Nat} {E : List EntV} {R : Int → World → Prop} (h : Ev w0 s l t d e D0 F0 N L0 w Y B S) (hE : EA w b ll c E) (hll : ll ≤ 100) (hp : 0 ≤ prev ∧ prev ≤ 72057594037927936)
    (hR : ∀ w', Ext [] w w' → R (agreeN Y.L prev E : Int) w') : sync_Sync_agree.Call (some ⟨s, 0, none⟩) prev b ll c w R := by
  apply sync_Sync_agree.sound
  unfold sync_Sync_agree.B0 sync_Sync_agree.L1
  have hl := EA.len hE
  refine ⟨fun m s' p' b' l' c' k w' => ∃ n : Nat, n ≤ ll ∧ m = ll - n ∧ some ⟨s, 0, none⟩ = s' ∧ prev = p' ∧ b = b' ∧ ll = l' ∧ c = c' ∧ k = (n : Int) ∧ agreeN Y.L prev E = n + agreeN Y.L (prev + (n : Int)) (E.drop n) ∧ Ext [] w w', _, ⟨0, by omega, rfl, rfl, rfl, rfl, rfl, rfl, rfl, by simp, Ext.refl _ _⟩, ?_⟩
  rintro m s' p' b' l' c' k w' ⟨n, hn, rfl, rfl, rfl, rfl, rfl, rfl, rfl, ha, he'⟩
  have h' := h.ext0 he'
  obtain ⟨bx, v⟩ := h'.vw
  unfold sync_Sync_agree.L1b sync_Sync_agree.B1
  refine Bm.ite (fun hlt => Pn.mk (v.own.ldI (o := 9) (by omega) rfl ?_)) fun hge => ?_
  · obtain ⟨x, hx⟩ := get_lt' (L := E) (n := n) (by omega)
    have hd : E.drop n = x :: E.drop (n + 1) := by
      obtain ⟨q1, q2⟩ := List.getElem?_eq_some_iff.1 hx
      rw [List.drop_eq_getElem_cons q1, q2]
    have ew : IntKind.i64.wrap (IntKind.i64.wrap (prev + 1) + (n : Int)) = prev + (n : Int) + 1 := by
      rw [w64 (x := prev + 1) (by omega) (by omega), w64 (by omega) (by omega)]; omega
    rw [ew]
    rw [hd, agreeN_cons] at ha
    have hE' : EA w' b ll c E := Row.ext hE he' (fun _ _ q => by cases q)
    show Bm (decide (prev + (n : Int) + 1 ≤ Y.L.last)) _ _
    by_cases c1 : prev + (n : Int) + 1 ≤ Y.L.last
    · refine Bm.pos (decide_eq_true c1) (v.cTermAt (by omega) fun w2 he2 => ?_)
      have hE2 : EA w2 b ll c E := Row.ext hE' he2 (fun _ _ q => by cases q)
      refine hE2.ldT hx ?_
      by_cases c2 : (termL Y.L (prev + (n : Int) + 1)).1 = x.1
      · rw [if_pos ⟨c1, c2⟩] at ha
        refine Bm.neg (by simpa using c2) ⟨ll - (n + 1), by omega, n + 1, by omega, rfl, rfl, rfl, rfl, rfl, rfl, by rw [w64 (by omega) (by omega)]; omega, ?_, he'.trans he2⟩
        rw [show prev + ((n + 1 : Nat) : Int) = prev + (n : Int) + 1 by omega]
        omega
      · rw [if_neg (fun q => c2 q.2)] at ha
        refine Bm.pos (by simpa using c2) ?_
        have := hR w2 (he'.trans he2)
        rw [ha] at this
        exact this
    · rw [if_neg (fun q => c1 q.1)] at ha
      refine Bm.neg (decide_eq_false c1) ?_
      have := hR w' he'
      rw [ha] at this
      exact this
  · rw [List.drop_of_length_le (by omega)] at ha
    refine Bm.neg rfl ?_
    have := hR w' he'
    rw [ha] at this
    exact this
theorem apps_len : ∀ (E : List EntV) (L : LogS), (appsF L E).2.length = (appsF L E).1 ∧ (appsF L E).1 ≤ E.length
  | [], L => by simp [appsF]
  | x :: E, L => by
    unfold appsF
    split
    · rename_i c
      have ih := apps_len E (finL L (appendS x.1 x.2 L).2)
      have h1 : (appendS x.1 x.2 L).2.length = 1 := by
        unfold appendS at c ⊢
        split
        · rename_i c1; rw [if_pos c1] at c; cases c
        · rename_i c1
          rw [if_neg c1] at c
          split
          · rename_i c2; rw [if_pos c2] at c; cases c
          · rfl
      simp only [List.length_append, List.length_cons]
      omega
    · simp
/-- The appends of pass two. -/
theorem repairL_ok {i : Int} {b : Option Addr} {ll c k : Nat} {E : List EntV} {R : Int → World → Prop} (h : Ev w0 s l t d e D0 F0 N L0 w Y B S) (hE : EA w b ll c E) (hll : ll ≤ 2) (hk : k ≤ ll) (hi : 0 ≤ i ∧ i ≤ 72057594037928000) (hlog : D0.log.length + 20 * S.length ≤ 500)
    (hR : ∀ w', Ev w0 s l t d e D0 F0 N L0 w' (setL Y (appsF Y.L (E.drop k)).2) B (S ++ (appsF Y.L (E.drop k)).2) → ExtT w w' CT → R (i - 1 + ((appsF Y.L (E.drop k)).1 : Int)) w') : sync_Sync_repair.L1 (some ⟨s, 0, none⟩) i b ll c (k : Int) w R := by
  unfold sync_Sync_repair.L1
  have hl := EA.len hE
  refine ⟨fun m s' i' b' l' c' k' w' => ∃ (n : Nat) (T : List LogS), k + n ≤ ll ∧ m = ll - (k + n) ∧ some ⟨s, 0, none⟩ = s' ∧ i' = i + (n : Int) ∧ b = b' ∧ ll = l' ∧ c = c' ∧ k' = ((k + n : Nat) : Int) ∧ T.length = n ∧ (appsF Y.L (E.drop k)).1 = n + (appsF (setL Y T).L (E.drop (k + n))).1 ∧ (appsF Y.L (E.drop k)).2 = T ++ (appsF (setL Y T).L (E.drop (k + n))).2 ∧ Ev w0 s l t d e D0 F0 N L0 w' (setL Y T) B (S ++ T) ∧ ExtT w w' CT, _,
    ⟨0, [], by omega, rfl, rfl, by omega, rfl, rfl, rfl, rfl, rfl, by simp [setL, finL], by simp [setL, finL], by rw [List.append_nil]; exact h, ExtT.refl _ _⟩, ?_⟩
  rintro m s' i' b' l' c' k' w' ⟨n, T, hn, rfl, rfl, rfl, rfl, rfl, rfl, rfl, hT, h1, h2, h', x'⟩
  unfold sync_Sync_repair.L1b
  refine Bm.ite (fun hlt => ?_) fun hge => ?_
  · obtain ⟨x, hx⟩ := get_lt' (L := E) (n := k + n) (by omega)
    have hd : E.drop (k + n) = x :: E.drop (k + n + 1) := by
      obtain ⟨q1, q2⟩ := List.getElem?_eq_some_iff.1 hx
      rw [List.drop_eq_getElem_cons q1, q2]
    have hE' : EA w' b ll c E := x'.row hE (by decide)
    rw [hd] at h1 h2
    refine hE'.ld hx (grow_ok h' (by rw [List.length_append]; omega) fun w2 h3 x2 => ?_)
    by_cases c1 : (appendS x.1 x.2 (setL Y T).L).1 = 0
    · have ea : appsF (setL Y T).L (x :: E.drop (k + n + 1)) = ((appsF (finL (setL Y T).L (appendS x.1 x.2 (setL Y T).L).2) (E.drop (k + n + 1))).1 + 1, (appendS x.1 x.2 (setL Y T).L).2 ++ (appsF (finL (setL Y T).L (appendS x.1 x.2 (setL Y T).L).2) (E.drop (k + n + 1))).2) := by
        conv => lhs; unfold appsF
        rw [if_pos c1]
      rw [ea] at h1 h2
      have el : (appendS x.1 x.2 (setL Y T).L).2.length = 1 := by
        generalize (setL Y T).L = L9 at c1
        unfold appendS at c1 ⊢
        split
        · rename_i d1; rw [if_pos d1] at c1; cases c1
        · rename_i d1
          rw [if_neg d1] at c1
          split
          · rename_i d2; rw [if_pos d2] at c1; cases c1
          · rfl
      refine Bm.neg (by simp [c1]) ⟨ll - (k + (n + 1)), by omega, n + 1, T ++ (appendS x.1 x.2 (setL Y T).L).2, by omega, rfl, rfl, by rw [w64 (by omega) (by omega)]; omega, rfl, rfl, rfl, by rw [w64 (by omega) (by omega)]; omega, by rw [List.length_append, hT, el], ?_, ?_, ?_, x'.trans x2⟩
      · have : (setL Y (T ++ (appendS x.1 x.2 (setL Y T).L).2)).L = finL (setL Y T).L (appendS x.1 x.2 (setL Y T).L).2 := by rw [← setL_app]; rfl
        rw [this, h1]
        show n + ((appsF _ (E.drop (k + n + 1))).1 + 1) = n + 1 + (appsF _ (E.drop (k + n + 1))).1
        omega
      · have : (setL Y (T ++ (appendS x.1 x.2 (setL Y T).L).2)).L = finL (setL Y T).L (appendS x.1 x.2 (setL Y T).L).2 := by rw [← setL_app]; rfl
        rw [this, h2, List.append_assoc]
        rfl
      · rw [← setL_app, ← List.append_assoc]
        exact h3
    · have ea : appsF (setL Y T).L (x :: E.drop (k + n + 1)) = (0, []) := by
        conv => lhs; unfold appsF
        rw [if_neg c1]
      rw [ea] at h1 h2
      have en := append_err c1
      rw [en] at h3
      refine Bm.pos (by simpa using c1) ?_
      rw [w64 (by omega) (by omega)]
      have := hR w2 (by
        rw [h2]
        simp only [List.append_nil] at h3 ⊢
        exact h3) (x'.trans x2)
      rw [h1] at this
      rw [show i + (n : Int) - 1 = i - 1 + ((n + 0 : Nat) : Int) by omega]
      exact this
  · have hk2 : k + n = ll := by omega
    have hdn : E.drop (k + n) = [] := List.drop_of_length_le (by omega)
    rw [hdn] at h1 h2
    rw [w64 (by omega) (by omega)]
    have := hR w' (by
      rw [h2]
      simp only [appsF, List.append_nil] at h' ⊢
      exact h') x'
    rw [h1] at this
    rw [show i + (n : Int) - 1 = i - 1 + ((n + 0 : Nat) : Int) by omega]
    exact this
end
end Go.Proofs.Qxb6500430aGreat
