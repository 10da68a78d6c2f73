/-
  hostlaw: Accept, Observe.
-/
import Derived.Test.Qxb6500424aGreatHmQ
set_option linter.unusedVariables false
set_option linter.unusedSimpArgs false
open Go.Vc
namespace Go.Proofs.Qxb6500424aGreat
section
variable {w0 w w' : World} {a c d q : Nat} {m m' : LH} {r r' : LR} {k k' : LC} {n n' : Int} {sd : Int} {Z : Zf}
theorem acceptA_nsd (l : Int) (K : Sk.SkS) : (Sk.acceptA l K).2.nsd = K.nsd := by
  unfold Sk.acceptA
  split
  · rfl
  · split
    · rfl
    · split <;> rfl
theorem acceptA_no {l : Int} {K : Sk.SkS} (h : lisB K.E l = false) : (Sk.acceptA l K).1 = (0, 21) := by
  unfold lisB at h
  unfold Sk.acceptA
  split at h
  · rename_i z; rw [z]
  · rename_i x z
    rw [z]
    have : x.1.kind ≠ 1 := by simpa using h
    show (if x.1.kind ≠ 1 then (((0, 21), K) : (Int × Int) × Sk.SkS) else _).1 = _
    rw [if_pos this]
theorem acceptA_yes {l : Int} {K : Sk.SkS} (h : lisB K.E l = true) : (Sk.acceptA l K).1 = match Sk.qE K.E l with | [] => (0, 14) | q :: _ => (q.1.sd, 0) := by
  unfold lisB at h
  unfold Sk.acceptA
  split at h
  · cases h
  · rename_i x z
    rw [z]
    have : x.1.kind = 1 := by simpa using h
    show (if x.1.kind ≠ 1 then (((0, 21), K) : (Int × Int) × Sk.SkS) else _).1 = _
    rw [if_neg (by omega)]
    cases Sk.qE K.E l with
    | nil => rfl
    | cons q t => rfl
theorem lawAccept_ok {lsd : Int} {R : Bool → World → Prop} (hL : LawAt w0 w a m r k) (hg : GoodZ Z n m r k) (h0 : 0 ≤ n) (hn : n ≤ 4398046500000) (hc : c < 3)
    (hR : ∀ m' r' k' w', LawAt w0 w' a m' r' k' → MidZ Z (n + 400) m' r' k' (K0of m) → R true w') : hostlaw_World_Accept.Call (some ⟨a, 0, none⟩) (c : Int) lsd w R := by
  apply hostlaw_World_Accept.sound
  unfold hostlaw_World_Accept.B0
  have ok := hg.hs.ok c hc
  have hcR := hg.cnt.R
  -- the call itself
  have call : ∀ {want child : Int} {w1 : World} {Q : Bool → World → Prop}, LawAt w0 w1 a m r k → want = (Sk.acceptA lsd (m.H c).t.K).1.2 → child = (Sk.acceptA lsd (m.H c).t.K).1.1 → (Pn (some (⟨a, 0, none⟩ : Addr)) fun a_4 => (0 ≤ (c : Int) ∧ (c : Int) < ((3 : Nat) : Int)) ∧ LdP (Addr.add a_4 ((c : Int).toNat * 1)) w1 fun x68 =>
      host_Host_Accept.Call x68 lsd w1 fun r70_0 r70_1 w2 => Pn (some (⟨a, 0, none⟩ : Addr)) fun a_5 => LdB (a_5.add 27) w2 fun x76 =>
      Bm x76 (Pn (some (⟨a, 0, none⟩ : Addr)) fun a_6 => (0 ≤ (c : Int) ∧ (c : Int) < ((3 : Nat) : Int)) ∧ LdP (Addr.add (a_6.add 24) ((c : Int).toNat * 1)) w2 fun x83 =>
        host_Host_Accept.Call x83 lsd w2 fun r85_0 r85_1 w3 => Bm (r85_0 != r70_0) (hostlaw_World_Accept.B1 want child r70_0 r70_1 true w3 R) (hostlaw_World_Accept.B1 want child r70_0 r70_1 (r85_1 != r70_1) w3 R))
        (Bm (r70_1 == want) (R (r70_0 == child) w2) (R false w2))) := fun {want child w1 Q} h1 hw hch => by
    refine Pn.mk ⟨⟨by omega, by omega⟩, h1.ldH hc (accept_ok (h1.h.H c hc) ok fun w2 hh2 he2 => ?_)⟩
    have h2 := h1.host hc hh2 he2
    have md : ∀ {m' : LH}, m'.H = updS m.H c { m.H c with t := ⟨(Sk.acceptA lsd (m.H c).t.K).2, (m.H c).t.C⟩ } → (m'.qu = true → m.qu = true ∧ m'.J = updS m.J c { m.H c with t := ⟨(Sk.acceptA lsd (m.H c).t.K).2, (m.H c).t.C⟩ }) → MidZ Z (n + 400) m' r k (K0of m) := fun hH hJ =>
      mid_tab (t' := ⟨(Sk.acceptA lsd (m.H c).t.K).2, (m.H c).t.C⟩) hg h0 hc rfl ⟨0, KStep.accept ok.sk lsd⟩ (fun s => s.accept hc) (by rw [acceptA_nsd]; omega) (accept_keep ok.sk lsd) hH hJ
    refine Pn.mk (h2.ldQu (Bm.mk (fun hq0 => ?_) fun hq0 => ?_))
    · have hq : m.qu = true := hq0
      have eJ := hg.tw hq c hc
      have hh3 : HostAt w2 (m.BQ c) (m.H c) := by have := h2.h.J hq c hc; rw [← eJ]; exact this
      refine Pn.mk ⟨⟨by omega, by omega⟩, h2.ldQ hc hq (accept_ok hh3 ok fun w3 hh4 he4 => ?_)⟩
      have h4 := h2.twin hc hq hh4 he4
      refine Bm.neg (bne_self' _) ?_
      unfold hostlaw_World_Accept.B1
      refine Bm.neg (bne_self' _) (Bm.pos (by rw [hw]; exact beq_self'' _) ?_)
      rw [hch, beq_self'']
      exact hR _ r k w3 h4 (md rfl (fun _ => ⟨hq, rfl⟩))
    · have hq : m.qu = false := hq0
      refine Bm.pos (by rw [hw]; exact beq_self'' _) ?_
      rw [hch, beq_self'']
      refine hR _ r k w2 h2 (md rfl (fun z => ?_))
      have z' : m.qu = true := z
      rw [hq] at z'
      cases z'
  refine isLis_ok hL hc ok fun w1 e1 => ?_
  have h1 := hL.ext0 e1
  cases hl : lisB (m.H c).t.K.E lsd with
  | false =>
    have hA := acceptA_no hl
    exact Bm.pos rfl (call (Q := R) h1 (by rw [hA]) (by rw [hA]))
  | true =>
    refine Bm.neg rfl ?_
    have hA := acceptA_yes hl
    obtain ⟨ra1, ra2⟩ := ready_accept ok.sk (hg.rdy c hc) (lisB_ne ok.sk hl)
    unfold hostlaw_World_Accept.L1
    refine ⟨fun mm a' c' l' want child i w' => ∃ q : Nat, q ≤ r.R.length ∧ mm = r.R.length - q ∧ some ⟨a, 0, none⟩ = a' ∧ (c : Int) = c' ∧ lsd = l' ∧ i = (q : Int) ∧ LawAt w0 w' a m r k ∧ ((want = 14 ∧ child = 0 ∧ ∀ x ∈ r.R.take q, ¬ (x.1 = c ∧ x.2.2 = lsd)) ∨ (child ≠ 0 ∧ want = (Sk.acceptA lsd (m.H c).t.K).1.2 ∧ child = (Sk.acceptA lsd (m.H c).t.K).1.1)), r.R.length, ⟨0, by omega, rfl, rfl, rfl, rfl, rfl, h1, .inl ⟨rfl, rfl, fun x hx => by simp at hx⟩⟩, ?_⟩
    rintro mm a' c' l' want child i w' ⟨q, hq, rfl, rfl, rfl, rfl, rfl, h', hst⟩
    unfold hostlaw_World_Accept.L1b
    refine Pn.mk (h'.ldL (b := r.rb) (l := r.R.length) (cc := r.rc) (by omega) rfl (Bm.ite (fun hlt => ?_) fun hge => ?_))
    · rcases hst with ⟨rfl, rfl, hno⟩ | ⟨hne, hw, hch⟩
      · obtain ⟨x, hx⟩ : ∃ x, r.R[q]? = some x := ⟨_, List.getElem?_eq_getElem (by omega)⟩
        obtain ⟨kr, ekr, hc3⟩ := wtCell h'.r.R hx
        unfold hostlaw_World_Accept.B2
        refine Bm.pos rfl (Pn.mk (h'.ldL (b := r.rb) (l := r.R.length) (cc := r.rc) (by omega) rfl ?_))
        rw [ekr]
        have next : ¬ (x.1 = c ∧ x.2.2 = lsd) → ∀ tt : Bool, tt = false → hostlaw_World_Accept.B3 (some ⟨a, 0, none⟩) (c : Int) lsd 14 0 (q : Int) tt w' (fun a' c' l' want child i w' => ∃ m', m' < r.R.length - q ∧ ∃ q : Nat, q ≤ r.R.length ∧ m' = r.R.length - q ∧ some ⟨a, 0, none⟩ = a' ∧ (c : Int) = c' ∧ lsd = l' ∧ i = (q : Int) ∧ LawAt w0 w' a m r k ∧ ((want = 14 ∧ child = 0 ∧ ∀ x ∈ r.R.take q, ¬ (x.1 = c ∧ x.2.2 = lsd)) ∨ (child ≠ 0 ∧ want = (Sk.acceptA lsd (m.H c).t.K).1.2 ∧ child = (Sk.acceptA lsd (m.H c).t.K).1.1))) R := fun z tt ht => by
          unfold hostlaw_World_Accept.B3 hostlaw_World_Accept.B4
          refine Bm.neg ht ⟨r.R.length - (q + 1), by omega, q + 1, by omega, rfl, rfl, rfl, rfl, by rw [w64 (by omega) (by omega)]; omega, h', .inl ⟨rfl, rfl, fun y hy => ?_⟩⟩
          rw [List.take_add_one, hx] at hy
          rcases List.mem_append.1 hy with y1 | y1
          · exact hno y y1
          · simp at y1
            rw [y1]
            exact z
        refine Pn.mk ⟨⟨by omega, by omega⟩, LdI.cell (by rw [addA, Int.toNat_natCast]; exact hc3 0 _ (by omega) rfl) (Bm.mk (fun z => ?_) fun z => next (fun y => beqF z (by rw [y.1])) false rfl)⟩
        refine Pn.mk (h'.ldL (b := r.rb) (l := r.R.length) (cc := r.rc) (by omega) rfl ?_)
        rw [ekr]
        refine Pn.mk ⟨⟨by omega, by omega⟩, LdI.cell (by rw [Int.toNat_natCast, add2]; exact hc3 2 _ (by omega) rfl) ?_⟩
        by_cases zp : x.2.2 = lsd
        · have xc : x.1 = c := by have : (x.1 : Int) = (c : Int) := beqT z; omega
          have hfind : r.R.find? (fun r => decide (r.1 = c ∧ r.2.2 = lsd)) = some x := by
            have e1 : r.R = r.R.take q ++ (x :: r.R.drop (q + 1)) := by
              have : r.R.drop q = x :: r.R.drop (q + 1) := by rw [List.drop_eq_getElem_cons (by omega), (List.getElem?_eq_some_iff.1 hx).2]
              rw [← this, List.take_append_drop]
            rw [e1, List.find?_append]
            have : (r.R.take q).find? (fun r => decide (r.1 = c ∧ r.2.2 = lsd)) = none := List.find?_eq_none.2 fun y hy => by simpa using hno y hy
            rw [this]
            simp [xc, zp]
          obtain ⟨qq, Lq, hq1, hq2⟩ := ra2 x hfind
          rw [hq1] at hA
          have hA' : (Sk.acceptA lsd (m.H c).t.K).1 = (qq.1.sd, 0) := hA
          obtain ⟨ar, har, hs1, _⟩ := (hg.rdy c hc).sound x (List.mem_of_getElem? hx) xc
          have hsd1 := (ok.sk.ei.sd ar har).1
          unfold hostlaw_World_Accept.B3
          have hd := h'.drew
          refine Bm.pos (by rw [zp]; simp) (Pn.mk (hd.ldL (b := r.rb) (l := r.R.length) (cc := r.rc) (by omega) rfl ?_))
          rw [ekr]
          obtain ⟨kr2, ekr2, hc4⟩ := wtCell hd.r.R hx
          rw [ekr] at ekr2
          cases ekr2
          refine Pn.mk ⟨⟨by omega, by omega⟩, LdI.cell (by rw [Int.toNat_natCast, add2]; exact hc4 1 _ (by omega) rfl) ?_⟩
          unfold hostlaw_World_Accept.B4
          refine ⟨r.R.length - (q + 1), by omega, q + 1, by omega, rfl, rfl, rfl, rfl, by rw [w64 (by omega) (by omega)]; omega, hd, .inr ⟨by omega, by rw [hA'], by rw [hA']; exact hq2.symm⟩⟩
        · exact next (fun y => zp y.2) _ (by simpa using zp)
      · unfold hostlaw_World_Accept.B2
        exact Bm.neg (by simpa using hne) (call (Q := R) h' hw hch)
    · unfold hostlaw_World_Accept.B2
      refine Bm.neg rfl ?_
      rcases hst with ⟨rfl, rfl, hno⟩ | ⟨hne, hw, hch⟩
      · rw [List.take_of_length_le (by omega)] at hno
        have : r.R.find? (fun r => decide (r.1 = c ∧ r.2.2 = lsd)) = none := List.find?_eq_none.2 fun y hy => by simpa using hno y hy
        rw [ra1 this] at hA
        have hA' : (Sk.acceptA lsd (m.H c).t.K).1 = (0, 14) := hA
        exact call (Q := R) h' (by rw [hA']) (by rw [hA'])
      · exact call (Q := R) h' hw hch
theorem GoodZ.ints {I' : KL} (h : GoodZ Z n m r k) (hI : (I'.n : Int) ≤ n) : GoodZ Z n m { r with I := I' } k :=
  ⟨⟨h.pw, h.hs, h.tw, h.seen, h.top, h.lost, h.out, h.fl, h.rdy, h.rlt, ⟨h.cnt.R, hI, h.cnt.O, h.cnt.M, h.cnt.sp, h.cnt.tk, h.cnt.del, h.cnt.age⟩⟩, h.zb, h.zx, h.fz⟩
theorem observe_ok {o0 o1 o2 o3 : Int} {s4 s5 : ByteArray} {R : Bool → World → Prop} (hL : LawAt w0 w a m r k) (hg : GoodZ Z n m r k) (h0 : 0 ≤ n) (hn : n ≤ 4398046500000) (hc : c < 3)
    (hR : ∀ r' w', LawAt w0 w' a m r' k → GoodZ Z (n + 400) m r' k → R true w') : hostlaw_World_Observe.Call (some ⟨a, 0, none⟩) (c : Int) o0 o1 o2 o3 s4 s5 w R := by
  apply hostlaw_World_Observe.sound
  unfold hostlaw_World_Observe.B0
  have ok := hg.hs.ok c hc
  refine New.mk fun ob w1 eo hs1 oo he1 => ?_
  have h1 := hL.ext0 he1
  have g4 := hg.mono (n' := n + 400) (by omega)
  have done : ∀ {w2 : World}, Ext [] w1 w2 → R true w2 := fun e => hR r _ (h1.ext0 e) g4
  have hhq : ∀ {w2 : World}, m.qu = true → Ext [] w1 w2 → HostAt w2 (m.BQ c) (m.H c) := fun hq e => by
    have := (h1.ext0 e).h.J hq c hc
    rw [← hg.tw hq c hc]
    exact this
  refine Pn.mk ⟨⟨by omega, by omega⟩, h1.ldH hc (LdI.mk oo rfl (Bm.mk (fun z => ?_) fun z => Bm.mk (fun z => ?_) fun z => Bm.mk (fun z => ?_) fun z => Bm.mk (fun z => ?_) fun z => Bm.mk (fun z => ?_) fun z => done (Ext.refl _ _)))⟩
  · refine LdI.mk oo rfl (info_new (h1.h.H c hc) ok fun s e w4 hI hsz e4 => Pn.mk ((h1.ext0 e4).ldQu (Bm.mk (fun hq => ?_) fun hq => done e4)))
    have e4d : Ext [] w1 w4.drew := e4.trans (Ext.drew _ _)
    have h4 := h1.ext0 e4d
    have o4 := e4d.own oo (by simp)
    have fin : ∀ {s2 : Nat} {e2 : Int} {w5 : World}, InfoR w5 s2 (m.H c) o1 e2 → Ext [] w4.drew w5 → hostlaw_World_Observe.B1 s e s2 e2 w5 R := fun {s2 e2 w5} hI2 e5 => by
      have E5 : Ext [] w4 w5 := (Ext.drew [] _).trans e5
      unfold hostlaw_World_Observe.B1
      cases hgt : Sk.getE (m.H c).t.K.E o1 with
      | none =>
        obtain ⟨rfl, os⟩ := hI.no hgt
        obtain ⟨rfl, os2⟩ := hI2.no hgt
        have os := E5.own os (by simp)
        refine Bm.neg rfl (LdI.mk os rfl (LdI.mk os rfl (LdI.mk os rfl (LdI.mk os rfl (LdI.mk os rfl (LdI.mk os rfl (LdI.mk os rfl (LdB.mk os rfl (LdI.mk os2 rfl (LdI.mk os2 rfl (LdI.mk os2 rfl (LdI.mk os2 rfl (LdI.mk os2 rfl (LdI.mk os2 rfl (LdI.mk os2 rfl (LdB.mk os2 rfl (sameEntry_ok (e := Sk.zE) fun w6 e6 => ?_)))))))))))))))))
        unfold hostlaw_World_Observe.B2
        exact Bm.neg rfl (LdP.mk (e6.own os (by simp)) rfl (LdP.mk (e6.own os2 (by simp)) rfl (sameConn_nil (done ((e4.trans E5).trans e6)))))
      | some x =>
        obtain ⟨rfl, ib, hia, os⟩ := hI.yes x hgt
        obtain ⟨rfl, ib2, hia2, os2⟩ := hI2.yes x hgt
        have os := E5.own os (by simp)
        have hia : InAt w5 ib (infoC (m.H c).t x) := E5.own hia (by simp)
        refine Bm.neg rfl (LdI.mk os rfl (LdI.mk os rfl (LdI.mk os rfl (LdI.mk os rfl (LdI.mk os rfl (LdI.mk os rfl (LdI.mk os rfl (LdB.mk os rfl (LdI.mk os2 rfl (LdI.mk os2 rfl (LdI.mk os2 rfl (LdI.mk os2 rfl (LdI.mk os2 rfl (LdI.mk os2 rfl (LdI.mk os2 rfl (LdB.mk os2 rfl (sameEntry_ok (e := x.1) fun w6 e6 => ?_)))))))))))))))))
        unfold hostlaw_World_Observe.B2
        exact Bm.neg rfl (LdP.mk (e6.own os (by simp)) rfl (LdP.mk (e6.own os2 (by simp)) rfl (sameConn_ok (C := infoC (m.H c).t x) (e6.own hia (by simp)) (e6.own hia2 (by simp)) fun w7 e7 => done (((e4.trans E5).trans e6).trans e7))))
    refine Pn.mk ⟨⟨by omega, by omega⟩, h4.ldQ hc hq (LdI.mk o4 rfl ⟨?_, ?_⟩)⟩
    · exact info_new (hhq hq e4d) ok fun s2 e2 w5 hI2 hs2 e5 => fin hI2 e5
    · refine New.mk fun s2 w8 es2 hs8 os8 he8 => ⟨(he8.own o4 (by simp)).cell rfl, ?_, info_at (hhq hq (e4d.trans he8)) ok os8 fun e2 w9 hI2 e9 => fin hI2 (he8.trans' e9 (fun y hy hl => by simp at hy; omega))⟩
      rw [addC]
      refine ((h4.ext0 he8).own).cell (by
        rw [fnArr_get _ (by omega)]
        unfold lawF
        rw [if_neg (by omega), if_neg (by omega), if_pos (by omega), if_pos hq, show 24 + c - 24 = c by omega])
  · have hE6 := rows6' ok.sk
    have hlen : (sdsE (m.H c).t.K.E).length = (m.H c).t.K.E.length := by simp [sdsE]
    have hcI := hg.cnt.I
    refine socks_ok (h1.h.H c hc) ok fun sb w2 hsb hs2 e2 => Pn.mk ((h1.ext0 e2).ldQu (Bm.mk (fun hq => ?_) fun hq => ?_))
    · refine Pn.mk ⟨⟨by omega, by omega⟩, (h1.ext0 e2).ldQ hc hq (socks_ok (hhq hq e2) ok fun sb2 w3 hsb3 hs3 e3 => ?_)⟩
      refine sameInts_ok (iat_row (hs2.ext e3 (by simp))) (iat_row hs3) (by omega) fun w4 e4 => ?_
      have E4 := (e2.trans e3).trans e4
      have h4 := h1.ext0 E4
      have z1 := he1.size
      have z2 := e2.size
      have hz := hL.sz
      refine lawOwnInts_ok h4 (by omega) (hs3.ext e4 (by simp)) (fun y => ((h1.ext0 e2).r.fresh hsb3).2.2 y) (by omega) rfl (by omega) fun I' w5 h5 n5 k5 e5 => ?_
      have hne : sb ≠ sb2 := by have := hs2.lt; omega
      have hs5 : Sk.IAt w5 sb (sdsE (m.H c).t.K.E) := ((hs2.ext e3 (by simp)).ext e4 (by simp)).ext e5 (fun y => by
        rcases List.mem_cons.1 y with y | y
        · exact hne y
        rcases List.mem_cons.1 y with y | y
        · exact Own.ne_type hs2 (h1.ext0 e2).own (by decide) y
        · obtain ⟨cs, o⟩ := (h1.ext0 e2).r.I.row.ty y
          exact Own.ne_type hs2 o (by decide) rfl)
      refine lawOwnInts_ok h5 (by show I'.n ≤ _; omega) hs5 (fun y => ?_) (by omega) rfl (by omega) fun I2 w6 h6 n6 k6 e6 => hR _ w6 h6 (g4.ints (by have : I2.n ≤ I'.n + 1 := n6; omega))
      rcases y with y | ⟨d, hd, y⟩
      · rcases k5 sb y with y | y
        · exact (h1.r.fresh hsb).2.2 (.inl y)
        · exact hne y
      · exact (h1.r.fresh hsb).2.2 (.inr ⟨d, hd, y⟩)
    · have z1 := he1.size
      have hz := hL.sz
      exact lawOwnInts_ok (h1.ext0 e2) (by omega) hs2 (fun y => (h1.r.fresh hsb).2.2 y) (by omega) rfl (by omega) fun I' w5 h5 n5 k5 e5 => hR _ w5 h5 (g4.ints (by omega))
  · have h1d := h1.drew
    obtain ⟨G, X, Lg, M, pw, rs, gb⟩ := hg.pw
    have hclk := (pw.lk c hc).clk
    refine Pn.mk (h1d.ldI (v := k.tk) (by omega) rfl (clock_ok (h1d.h.H c hc) ⟨?_, ?_⟩))
    · rw [addA]
      exact h1d.own.cell (by rw [fnArr_get _ (by omega)]; rfl)
    rw [hclk]
    refine Bm.neg (bne_self' _) (Pn.mk (h1d.ldQu (Bm.mk (fun hq => ?_) fun hq => done (Ext.drew [] _))))
    have h2d := h1d.drew
    refine Pn.mk ⟨⟨by omega, by omega⟩, h2d.ldQ hc hq (Pn.mk (h2d.ldI (v := k.tk) (by omega) rfl (clock_ok (hhq hq ((Ext.drew [] _).trans (Ext.drew [] _))) ⟨?_, ?_⟩)))⟩
    · rw [addA]
      exact h2d.own.cell (by rw [fnArr_get _ (by omega)]; rfl)
    rw [hclk, beq_self'']
    exact done ((Ext.drew [] _).trans (Ext.drew [] _))
  · refine lost_ok (h1.h.H c hc) (Pn.mk (h1.ldQu (Bm.mk (fun hq => ?_) fun hq => done (Ext.refl _ _))))
    refine Pn.mk ⟨⟨by omega, by omega⟩, h1.ldQ hc hq (lost_ok (hhq hq (Ext.refl _ _)) ?_)⟩
    rw [beq_self'']
    exact done (Ext.refl _ _)
  · obtain ⟨G, X, Lg, M, pw, rs, gb⟩ := hg.pw
    have hcs := chk_of pw.sys hc (h := m.H c) rfl
    refine check_ok (h1.h.H c hc) ok hcs fun w2 e2 => Bm.neg rfl (Pn.mk ((h1.ext0 e2).ldQu (Bm.mk (fun hq => ?_) fun hq => done e2)))
    exact Pn.mk ⟨⟨by omega, by omega⟩, (h1.ext0 e2).ldQ hc hq (check_ok (hhq hq e2) ok hcs fun w3 e3 => done (e2.trans e3))⟩
end
end Go.Proofs.Qxb6500424aGreat
