/-
  hostlaw: Send.
-/
import Derived.Test.Qxb6500424aGreatHmU
set_option linter.unusedVariables false
set_option linter.unusedSimpArgs false
open Go.Vc
namespace Go.Proofs.Qxb6500424aGreat
theorem sendF_e0 {P : List Int} {x : CS} (h : (sendF P x).2.e ≠ 0) : (sendF P x).1 = 0 := by
  unfold sendF at h ⊢
  split
  · rfl
  split
  · rfl
  split
  · rfl
  split
  · rfl
  split
  · rfl
  · rename_i h1 h2 h3 h4 h5
    rw [if_neg h1, if_neg h2, if_neg h3, if_neg h4, if_neg h5] at h
    exact absurd rfl h
theorem sendF_16 (P : List Int) (x : CS) : (sendF P x).1 ≤ 16 := by
  unfold sendF
  split
  · show (0 : Int) ≤ 16; omega
  split
  · show (0 : Int) ≤ 16; omega
  split
  · show (0 : Int) ≤ 16; omega
  split
  · show (0 : Int) ≤ 16; omega
  split
  · show (0 : Int) ≤ 16; omega
  · show ((min P.length (16 - x.S.D.length) : Nat) : Int) ≤ 16
    omega
theorem sendF_G (P : List Int) (x : CS) : (sendF P x).2.G.length ≤ 2 := by
  unfold sendF
  split
  · simp
  split
  · simp
  split
  · simp
  split
  · simp
  split
  · simp
  · exact pump_len _
section
variable {w0 w w' : World} {a c d q i : Nat} {m m' : LH} {r r' : LR} {k k' : LC} {n n' : Int} {sd rh rp : Int} {P : List Int} {Z : Zf}
theorem sendT_eq {t : TC} {x : Sk.AE} (ho : oursE t.K.E sd = some x) : (sendT sd P t).e = (sendF P (t.C (slotN x))).2.e ∧ (sendT sd P t).v = (sendF P (t.C (slotN x))).1 ∧ (sendT sd P t).G.length ≤ 12 := by
  unfold sendT
  rw [ho]
  show (if (sendF P (t.C (slotN x))).2.e ≠ 0 then _ else _ : CallR Int).e = _ ∧ (if (sendF P (t.C (slotN x))).2.e ≠ 0 then _ else _ : CallR Int).v = _ ∧ (if (sendF P (t.C (slotN x))).2.e ≠ 0 then _ else _ : CallR Int).G.length ≤ 12
  by_cases h : (sendF P (t.C (slotN x))).2.e ≠ 0
  · rw [if_pos h]
    exact ⟨rfl, (sendF_e0 h).symm, by simp⟩
  · rw [if_neg h]
    refine ⟨by show (0 : Int) = _; omega, rfl, ?_⟩
    show ((sendF P (t.C (slotN x))).2.G.map (stampS x.1)).length ≤ 12
    rw [List.length_map]
    have := sendF_G P (t.C (slotN x))
    omega
structure SendOk (Z : Zf) (n : Int) (m : LH) (r : LR) (k : LC) (c : Nat) (sd : Int) (P : List Int) (i : Nat) (y : PEM) (kk : Nat) : Prop where
  e : (sendT sd P (m.H c).t).e = 0
  v : (sendT sd P (m.H c).t).v = (kk : Int)
  le : kk ≤ P.length
  k16 : kk ≤ 16
  at_ : r.N[i]? = some y
  find : ∀ (j : Nat) z, r.N[j]? = some z → (z.E.h : Int) = (c : Int) → z.E.sd = sd → j = i
  hh : y.E.h = c ∧ y.E.sd = sd
  clo : y.E.clo = false
  st : y.E.st = 3
  S : (y.E.S.length : Int) ≤ n
  nl : 400 * (r.N.length : Int) ≤ n
  co : CallOk Z n m r k c (sendT sd P (m.H c).t) ((r.N.map (·.E)).set i { y.E with S := y.E.S ++ P.take kk })
theorem send_plain {x : Sk.AE} (hg : GoodZ Z n m r k) (h0 : 0 ≤ n) (hc : c < 3) (hP : IsB P) (ho : oursE (m.H c).t.K.E sd = some x) : ((sendT sd P (m.H c).t).e ≠ 0 ∧ (sendT sd P (m.H c).t).t = (m.H c).t ∧ (sendT sd P (m.H c).t).G = [] ∧ (sendT sd P (m.H c).t).v = 0) ∨ ∃ i y kk, SendOk Z n m r k c sd P i y kk := by
  obtain ⟨G, X, Lg, M, pw, rs, gb, fz⟩ := hg.ghost
  rcases pw.sys.send hc ho hP with z | ⟨i, g, g2, kk, N, ro, h3, hwc, e0, ev, hle, af, kp, gS, gR, gw⟩
  · exact .inl z
  right
  have hsd : x.1.sd = sd := (getE_mem (oursE_kind ho).1).2
  obtain ⟨y, hy, yh, ys, dn, fd⟩ := row_find pw.sys rs hc ro
  rw [hsd] at ys fd
  have st := dn.st ro.gone
  have hSy : (y.E.S.length : Int) ≤ n := by rw [dn.S]; exact (gb.S i g ro.at_).1
  have hclo : y.E.clo = false := by
    cases z : y.E.clo with
    | false => rfl
    | true =>
      rcases dn.clo2 z ro.gone with z | z
      · rw [hwc] at z; cases z
      · omega
  have hyE : (r.N.map (·.E))[i]? = some y.E := by rw [List.getElem?_map, hy]; rfl
  have hnl : (r.N.map (·.E)).length = G.length := rs.len
  have hk16 : (kk : Int) ≤ 16 := by
    have h1 := (sendT_eq (P := P) ho).2.1
    have h2 := sendF_16 P ((m.H c).t.C (slotN x))
    have ev' : (sendT sd P (m.H c).t).v = ((kk : Nat) : Int) := ev
    omega
  have hR2 := (gb.S i g ro.at_)
  refine ⟨i, y, kk, e0, ev, hle, by omega, hy, fd, ⟨yh, ys⟩, hclo, by rw [st.1]; exact h3, hSy, by have := gb.len; simp at hnl; omega, ?_⟩
  refine callOk_set hg h0 hc pw rs gb af hyE ro.at_ ro.gone (fun j hj => by unfold updX; rw [if_neg hj]) ⟨?_, fun z => dn.clo1 (by rw [← gw]; exact z), fun z => ?_, by rw [gR]; omega, by rw [gS, List.length_append]; omega⟩ (fun _ => h3) (by rw [gS, List.length_append, List.length_take]; omega) (by rw [gR]; omega) (sendT_eq ho).2.2 ⟨0, by rw [sendT_K]; exact KStep.refl (hg.hs.ok c hc).sk⟩ (by rw [sendT_K]; omega) (hg.hs.why c hc).send fz (fun _ => callF_of ro.at_ ro.gone ro.h (.inl h3) (ClX.send (pw.sys.liv ro.at_ ro.gone).ok h3 (by rw [← ro.C, ← (sendT_eq ho).1]; exact e0)).1 send_ackT (sendT_K ..)) ⟨rfl, rfl⟩
  · show ({ y.E with S := y.E.S ++ P.take kk } : PE) = { y.E with S := g2.S, R := g2.R, clo := y.E.clo }
    rw [gS, gR, ← dn.S, ← dn.R]
  · exact absurd z (by show ¬ y.E.clo = true; rw [hclo]; simp)
theorem lawSend_ok {kd dc : Nat} {z : List Int} {R : Bool → World → Prop} (hL : LawAt w0 w a m r k) (hg : GoodZ Z n m r k) (h0 : 0 ≤ n) (hn : n ≤ 4398046500000) (hc : c < 3) (hD : Bf w kd (P ++ z)) (hdn : ¬ U8F r kd) (hPl : P.length ≤ 140737488351232) (hdc : P.length ≤ dc)
    (hR : ∀ m' r' k' w', LawAt w0 w' a m' r' k' → MidZ Z (n + 400) m' r' k' (K0of m) → R true w') : hostlaw_World_Send.Call (some ⟨a, 0, none⟩) (c : Int) sd (some ⟨kd, 0, none⟩) P.length dc w R := by
  apply hostlaw_World_Send.sound
  unfold hostlaw_World_Send.B0
  have ok := hg.hs.ok c hc
  have hP : IsB P := hD.2.left
  have hcM := hg.cnt.M
  have hcO := hg.cnt.O
  -- the call
  have b1 : ∀ {w1 : World} {wantN want : Int}, LawAt w0 w1 a m r k → Bf w1 kd (P ++ z) → wantN = (sendT sd P (m.H c).t).v → want = (sendT sd P (m.H c).t).e → (((sendT sd P (m.H c).t).e ≠ 0 ∧ (sendT sd P (m.H c).t).t = (m.H c).t ∧ (sendT sd P (m.H c).t).G = [] ∧ (sendT sd P (m.H c).t).v = 0) ∨ ∃ i y kk, SendOk Z n m r k c sd P i y kk) → hostlaw_World_Send.B1 (some ⟨a, 0, none⟩) (c : Int) sd (some ⟨kd, 0, none⟩) P.length dc wantN want w1 R := fun {w1 wantN want} h1 d1 hwn hw pl => by
    unfold hostlaw_World_Send.B1
    refine copyBytes_ok d1.rd rfl (by omega) fun k1 w2 hk1 hs2 hf2 he2 => ?_
    have h2 := h1.ext0 he2
    have d2 := d1.ext0 he2
    have hz := h1.sz
    have hkd := d1.lt
    have nU : ¬ U8F r k1 := (h1.r.fresh (by omega)).1
    have z2 := he2.size
    refine Pn.mk ⟨⟨by omega, by omega⟩, h2.ldH hc (send_call_ok (h2.h.H c hc) ok (by omega) hf2 (by omega) ?_)⟩
    rcases pl with ⟨pe, pt', pG, pv⟩ | ⟨i, y, kk, so⟩
    · -- it fails
      refine ⟨fun _ w3 hh3 he3 hf3 => ?_, fun y => absurd y pe⟩
      have h3 : LawAt w0 w3 a m r k := by
        rw [pt'] at hh3
        have := h2.host hc hh3 he3
        rw [show (m.setH c { m.H c with t := (m.H c).t }) = m from setH_same m c] at this
        exact this
      have d3 : Bf w3 kd (P ++ z) := ⟨ownT he3 (h2.h.H c hc).tys d2.1 (by decide), d2.2⟩
      refine scribble_ok hf3 (Nat.le_refl _) (by omega) fun w4 hs4 _ he4 => ?_
      have h4 := h3.one he4 (by omega) hf3.1 (by decide) (h3.r.ofU8 hf3.1 nU)
      have d4 := d3.ext he4 (by simp; omega)
      have fin : ∀ {w5 : World} {r5 : LR}, LawAt w0 w5 a m r5 k → KeepR r r5 → (r5.M.n : Int) ≤ n + 400 → (r5.O.n : Int) ≤ n + 400 → ∀ tt : Bool, tt = false → hostlaw_World_Send.B3 (some ⟨a, 0, none⟩) (c : Int) sd (some ⟨kd, 0, none⟩) P.length dc (sendT sd P (m.H c).t).v none 0 0 (sendT sd P (m.H c).t).e tt w5 R := fun {w5 r5} h5 kr hM5 hO5 tt ht => by
        unfold hostlaw_World_Send.B3
        exact Bm.neg ht (Bm.pos (by simpa using pe) (hR m r5 k w5 h5 (hg.midK h0 kr hM5 hO5)))
      refine Pn.mk (h4.ldQu (Bm.mk (fun hq => ?_) fun hq => ?_))
      · have eJ := hg.tw hq c hc
        refine copyBytes_ok d4.rd rfl (by omega) fun k2 w5 hk2 hs5 hf5 he5 => ?_
        have h5 := h4.ext0 he5
        have hh5 : HostAt w5 (m.BQ c) (m.H c) := by have := h5.h.J hq c hc; rw [← eJ]; exact this
        have nU2 : ¬ U8F r k2 := (h4.r.fresh (by omega)).1
        have z4 := he4.size
        have z3 := he3.size
        refine Pn.mk ⟨⟨by omega, by omega⟩, h5.ldQ hc hq (send_call_ok hh5 ok (by omega) hf5 (by omega) ⟨fun _ w6 hh6 he6 hf6 => ?_, fun y => absurd y pe⟩)⟩
        have h6 : LawAt w0 w6 a m r k := by
          rw [pt'] at hh6
          have := h5.twin hc hq hh6 he6
          rw [show (m.setJ c { m.H c with t := (m.H c).t }) = m from by have := setJ_same m c; rw [eJ] at this; exact this] at this
          exact this
        refine scribble_ok hf6 (Nat.le_refl _) (by omega) fun w7 hs7 _ he7 => ?_
        have h7 := h6.one he7 (by omega) hf6.1 (by decide) (h6.r.ofU8 hf6.1 nU2)
        refine Bm.neg (bne_self' _) (Bm.neg (bne_self' _) (sameFrames_ok (F := []) (G := []) (FrL.nil w7 0) (FrL.nil w7 0) rfl (by omega) (fun e he => by cases he) fun w8 e8 => ?_))
        unfold hostlaw_World_Send.B2
        refine Bm.neg rfl (ownAll_ok (h7.ext0 e8) (F := []) (lo := w0.heap.size) (FrL.nil w8 _) (Nat.le_refl _) (by omega) (by omega) (by omega) (fun e he => by cases he) (fun y hy => by cases hy) fun r9 w9 h9 m9 o9 ow => ?_)
        exact Bm.neg (by rw [hw]; exact bne_self' _) (fin h9 ow.kr (by omega) (by omega) _ (by rw [hwn]; exact bne_self' _))
      · exact Bm.neg (by rw [hw]; exact bne_self' _) (fin h4 (KeepR.refl r) (by omega) (by omega) _ (by rw [hwn]; exact bne_self' _))
    · -- it goes well
      have e0 := so.e
      refine ⟨fun y => absurd e0 y, fun _ => fun b l cc F w3 fr3 eF0 hh3 he3 hf3 => ?_⟩
      have eF : F.map (·.1) = (callH (m.H c) (sendT sd P (m.H c).t)).2 := by simpa using eF0
      have h3 := h2.host hc hh3 he3
      have ff := h2.freshF fr3
      have d3 : Bf w3 kd (P ++ z) := ⟨ownT he3 (h2.h.H c hc).tys d2.1 (by decide), d2.2⟩
      refine scribble_ok hf3 (Nat.le_refl _) (by omega) fun w4 hs4 _ he4 => ?_
      have h4 := h3.one he4 (by omega) hf3.1 (by decide) (h3.r.ofU8 hf3.1 nU)
      have d4 := d3.ext he4 (by simp; omega)
      have fr4 := fr3.keep he4 (fun y hy => .inl (by simp at hy; have := hf2.lt; omega))
      have hFl : l ≤ 36 := by
        have h1 := so.co.len
        rw [← eF] at h1
        have := fr3.len
        simp at h1
        omega
      have hsm : ∀ e ∈ F, e.1.length ≤ 1000 := fun e he => so.co.sm e.1 (by rw [← eF]; exact List.mem_map.2 ⟨e, he, rfl⟩)
      have fin : ∀ {w5 : World} {m5 : LH} {r5 : LR}, LawAt w0 w5 a m5 r5 k → m5.H = updS m.H c (callH (m.H c) (sendT sd P (m.H c).t)).1 → (m5.qu = true → m.qu = true ∧ m5.J = updS m.J c (callH (m.H c) (sendT sd P (m.H c).t)).1) → KeepR r r5 → (r5.M.n : Int) ≤ n + 40 → (r5.O.n : Int) ≤ n + 40 → FrL w5 b l cc w2.heap.size F → (∀ e ∈ F, ¬ U8F r5 e.2) → (∀ y ∈ rowBlk b, ¬ F81 r5 y) → Bf w5 kd (P ++ z) → ∀ tt : Bool, tt = false → hostlaw_World_Send.B3 (some ⟨a, 0, none⟩) (c : Int) sd (some ⟨kd, 0, none⟩) P.length dc (sendT sd P (m.H c).t).v b l cc 0 tt w5 R := fun {w5 m5 r5} h5 hH5 hJ5 kr hM5 hO5 f5 u5 v5 d5 tt ht => by
        unfold hostlaw_World_Send.B3
        obtain ⟨M5, O5, tok5, rfl⟩ := kr
        have hnl := so.nl
        have hsl := so.S
        have hk16 := so.k16
        refine Bm.neg ht (Bm.neg rfl (Pn.mk (h5.ldN (nFind_ok h5.r.N (by show r.N.length ≤ _; omega) (fun j zz hj h1 h2 => ?_) (fun hno => absurd ⟨by rw [so.hh.1], so.hh.2⟩ (hno i y so.at_))))))
        have ej := so.find j zz hj h1 h2
        subst ej
        refine Pn.mk (h5.ldN ?_)
        rw [so.v]
        refine took_ok h5.r.N so.at_ so.clo so.st d5.rd rfl hdc so.le (by omega) fun nb nc w6 h6 hnb t6 => Bm.neg rfl ?_
        have h7 := h5.net h6 (t6.mono (by decide)) (fun x hx q hq => by
          rcases List.mem_or_eq_of_mem_set hx with zx | zx
          · exact .inl (.inr (.inr ⟨x, zx, hq⟩))
          · subst zx
            rcases hq with hq | hq
            · exact .inr (hnb q hq)
            · exact .inl (.inr (.inr ⟨y, List.mem_of_getElem? so.at_, .inr hq⟩)))
        have f7 := f5.keepL t6 (by decide) (by decide)
        have nU7 : ∀ e ∈ F, ¬ U8F { r with N := r.N.set j { y with E := { y.E with S := y.E.S ++ P.take kk }, sb := nb, sc := nc }, M := M5, O := O5, tok := tok5 } e.2 := fun e he zz => by
          rcases zz with (zz | zz | ⟨x, hx, zz⟩) | zz
          · exact u5 e he (.inl (.inl zz))
          · exact u5 e he (.inl (.inr (.inl zz)))
          · rcases List.mem_or_eq_of_mem_set hx with zx | zx
            · exact u5 e he (.inl (.inr (.inr ⟨x, zx, zz⟩)))
            · subst zx
              rcases zz with zz | zz
              · have := hnb e.2 zz
                have := f5.lt e he
                omega
              · exact u5 e he (.inl (.inr (.inr ⟨y, List.mem_of_getElem? so.at_, .inr zz⟩)))
          · exact u5 e he (.inr zz)
        exact putCall hg h0 hn hc so.co h7 (by rw [List.map_set]) hH5 hJ5 hM5 hO5 f7 (by omega) eF nU7 v5 hR
      refine Pn.mk (h4.ldQu (Bm.mk (fun hq0 => ?_) fun hq0 => ?_))
      · have hq : m.qu = true := hq0
        have eJ := hg.tw hq c hc
        refine copyBytes_ok d4.rd rfl (by omega) fun k2 w5 hk2 hs5 hf5 he5 => ?_
        have h5 := h4.ext0 he5
        have d5 := d4.ext0 he5
        have hh5 : HostAt w5 (m.BQ c) (m.H c) := by have := h5.h.J hq c hc; rw [← eJ]; exact this
        have nU2 : ¬ U8F r k2 := (h4.r.fresh (by omega)).1
        have z4 := he4.size
        have z3 := he3.size
        have z5 := he5.size
        refine Pn.mk ⟨⟨by omega, by omega⟩, h5.ldQ hc hq (send_call_ok hh5 ok (by omega) hf5 (by omega) ⟨fun y => absurd e0 y, fun _ => fun b2 l2 cc2 F2 w6 fr6 eF20 hh6 he6 hf6 => ?_⟩)⟩
        have h6 := h5.twin hc hq hh6 he6
        have d6 : Bf w6 kd (P ++ z) := ⟨ownT he6 hh5.tys d5.1 (by decide), d5.2⟩
        have eF2 : F2.map (·.1) = (callH (m.H c) (sendT sd P (m.H c).t)).2 := by simpa using eF20
        have eFF : F.map (·.1) = F2.map (·.1) := by rw [eF, eF2]
        have fr6a := (fr4.ext0 he5).keepT he6 hh5.tys (by decide) (by decide)
        have z6 := he6.size
        refine scribble_ok hf6 (Nat.le_refl _) (by omega) fun w7 hs7 _ he7 => ?_
        have h7 := h6.one he7 (by omega) hf6.1 (by decide) (h6.r.ofU8 hf6.1 nU2)
        have d7 := d6.ext he7 (by simp; omega)
        have fr7 := fr6.keep he7 (fun y hy => .inl (by simp at hy; have := hf5.lt; omega))
        have fr7a : FrL w7 b l cc w2.heap.size F := by
          refine ⟨fr6a.row.ext he7 (fun y hy zz => ?_), fun e he => (fr6a.dat e he).ext he7 (fun zz => ?_), fr6a.asc, fr6a.ge, fr6a.blk, fr6a.cap⟩
          · have : y = k2 := by simpa using zz
            have := fr4.row.lt y hy
            omega
          · have : e.2 = k2 := by simpa using zz
            have := fr4.lt e he
            omega
        have hF2l : l2 ≤ 36 := by
          have h1 := congrArg List.length eFF
          have := fr3.len
          have := fr6.len
          simp at h1
          omega
        refine Bm.neg (bne_self' _) (Bm.neg rfl (sameFrames_ok fr7a fr7 eFF (by omega) (fun e he => by have := hsm e he; omega) fun w8 e8 => ?_))
        unfold hostlaw_World_Send.B2
        have ff2 := h5.freshF fr6
        refine Bm.neg rfl (own2_ok (h7.ext0 e8) (fr7a.ext0 e8) (fr7.ext0 e8) (by omega) (fun e he => by have := fr4.lt e he; omega) (fun y hy => by have := fr4.row.lt y hy; omega) (by omega) (by omega) (by omega) ff.1 ff.2 (fun e he => ⟨ff2.1 e he, ?_⟩) ff2.2 fun r9 w9 h9 kr m9 o9 fr9 u9 v9 e9 => ?_)
        · have := so.co.sm e.1 (by rw [← eF2]; exact List.mem_map.2 ⟨e, he, rfl⟩)
          omega
        · have d8 := d7.ext0 e8
          have d9 : Bf w9 kd (P ++ z) := d8.ext e9.ext (fun zz => by
            rcases List.mem_append.1 zz with zz | zz
            · obtain ⟨e, he, zz⟩ := List.mem_map.1 zz
              have := fr6.ge e he
              omega
            rcases List.mem_append.1 zz with zz | zz
            · obtain ⟨cs2, o2⟩ := (fr7.ext0 e8).row.ty zz
              exact Own.ne_type d8.1 o2 (by decide) rfl
            rcases List.mem_cons.1 zz with zz | zz
            · exact Own.ne_type d8.1 (h7.ext0 e8).own (by decide) zz
            rcases List.mem_append.1 zz with zz | zz
            · obtain ⟨cs2, o2⟩ := (h7.ext0 e8).r.M.row.ty zz
              exact Own.ne_type d8.1 o2 (by decide) rfl
            · obtain ⟨cs2, o2⟩ := (h7.ext0 e8).r.O.row.ty zz
              exact Own.ne_type d8.1 o2 (by decide) rfl)
          exact Bm.neg (by rw [hw, e0]; rfl) (fin h9 rfl (fun _ => ⟨hq, rfl⟩) kr (by omega) (by omega) fr9 u9 v9 d9 _ (by rw [hwn]; exact bne_self' _))
      · have hq : m.qu = false := hq0
        refine Bm.neg (by rw [hw, e0]; rfl) (fin h4 rfl (fun zz => ?_) (KeepR.refl r) (by omega) (by omega) fr4 ff.1 ff.2 d4 _ (by rw [hwn]; exact bne_self' _))
        have z' : m.qu = true := zz
        rw [hq] at z'
        cases z'
  -- what is wanted
  refine lawOurs_ok hL hc ok (fun hno w1 e1 => ?_) (fun x hx ib w1 hia e1 => ?_)
  · refine New.mk fun s w2 es hs2 os2 he2 => Sts.full (vs := [.int .i64 0, .int .i64 0, .int .i64 0, .int .i64 0, .int .i64 0, .int .i64 0, .int .i64 0, .bool false, .pointer none]) os2 rfl rfl fun w3 hs3 o3 he3 => Bm.neg rfl ?_
    have E3 : Ext [] w w3 := (e1.trans he2).trans' he3 (fun y hy hl => by simp at hy; have := e1.size; omega)
    have hn : oursE (m.H c).t.K.E sd = none := by unfold oursE; rw [hno]
    have ev : sendT sd P (m.H c).t = ⟨0, 21, (m.H c).t, []⟩ := by unfold sendT; rw [hn]
    exact b1 (hL.ext0 E3) (hD.ext0 E3) (by rw [ev]) (by rw [ev]) (.inl (by rw [ev]; exact ⟨by show (21 : Int) ≠ 0; decide, rfl, rfl, rfl⟩))
  · refine New.mk fun s w2 es hs2 os2 he2 => Sts.full (vs := [.int .i64 x.1.sd, .int .i64 x.1.kind, .int .i64 x.1.lp, .int .i64 x.1.rh, .int .i64 x.1.rp, .int .i64 x.1.slot, .int .i64 x.1.par, .bool x.1.rdy, .pointer (some ⟨ib, 0, none⟩)]) os2 rfl rfl fun w3 hs3 o3 he3 => ?_
    have z1 := e1.size
    have E3 : Ext [] w w3 := (e1.trans he2).trans' he3 (fun y hy hl => by simp at hy; omega)
    have E13 : Ext [] w1 w3 := he2.trans' he3 (fun y hy hl => by simp at hy; omega)
    cases hour : oursE (m.H c).t.K.E sd with
    | none =>
      have ev : sendT sd P (m.H c).t = ⟨0, 21, (m.H c).t, []⟩ := by unfold sendT; rw [hour]
      exact Bm.neg rfl (b1 (hL.ext0 E3) (hD.ext0 E3) (by rw [ev]) (by rw [ev]) (.inl (by rw [ev]; exact ⟨by show (21 : Int) ≠ 0; decide, rfl, rfl, rfl⟩)))
    | some x' =>
      obtain ⟨hx', hk2, hp0⟩ := oursE_kind hour
      rw [hx] at hx'
      cases hx'
      have ei : infoC (m.H c).t x = (m.H c).t.C (slotN x) := by unfold infoC; rw [if_pos hk2]
      rw [ei] at hia
      have hia3 : InAt w3 ib ((m.H c).t.C (slotN x)) := E13.own hia (by simp)
      have hxm := (getE_mem hx).1
      have hsl := slot_lt ok.sk hxm hk2
      have hcs := ok.cs (slotN x) (by unfold slotN; omega)
      have hst : ((m.H c).t.C (slotN x)).st ≠ 0 := by
        obtain ⟨G, X, Lg, M, pw, rs, gb⟩ := hg.pw
        exact ((chk_of pw.sys hc (h := m.H c) rfl).row x hxm hk2).1
      obtain ⟨q1, q2, _⟩ := sendT_eq (P := P) hour
      refine Bm.pos rfl (LdP.mk o3 rfl (wantSend_ok (P := P) hia3 hcs hst ?_))
      exact b1 (hL.ext0 E3) (hD.ext0 E3) q2.symm q1.symm (send_plain hg h0 hc hP hour)
end
end Go.Proofs.Qxb6500424aGreat
