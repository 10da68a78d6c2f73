/-
  hostlaw: Recv, the walk.
-/
import Derived.Test.Qxb6500424aGreatHmW
set_option linter.unusedVariables false
set_option linter.unusedSimpArgs false
open Go.Vc
namespace Go.Proofs.Qxb6500424aGreat
section
variable {w0 w w' : World} {a c d q i : Nat} {m m' : LH} {r r' : LR} {k k' : LC} {n n' : Int} {sd mx : Int} {Z : Zf}
/-- A list of frames beside a slice that the law keeps. -/
theorem FrL.own1 {b : Option Addr} {l cc lo kb : Nat} {F : List (List Int × Nat)} {v : List Int} (fr : FrL w b l cc lo F) (hL : LawAt w0 w a m r k) (hb : Bf w kb v) (he : Ext (kb :: a :: rowBlk r.M.b) w w') (h1 : ∀ e ∈ F, e.2 ≠ kb) (h2 : ∀ y ∈ rowBlk b, ¬ F81 r y) : FrL w' b l cc lo F := by
  refine ⟨fr.row.ext he (fun y hy z => ?_), fun e hm => (fr.dat e hm).ext he (fun z => ?_), fr.asc, fr.ge, fr.blk, fr.cap⟩
  · obtain ⟨cs, oy⟩ := fr.row.ty hy
    rcases List.mem_cons.1 z with z | z
    · exact Own.ne_type oy hb.1 (by decide) z
    rcases List.mem_cons.1 z with z | z
    · exact Own.ne_type oy hL.own (by decide) z
    · exact h2 y hy (.inl z)
  · have oy := (fr.dat e hm).1
    rcases List.mem_cons.1 z with z | z
    · exact h1 e hm z
    rcases List.mem_cons.1 z with z | z
    · exact Own.ne_type oy hL.own (by decide) z
    · obtain ⟨cs, o2⟩ := hL.r.M.row.ty z
      exact Own.ne_type oy o2 (by decide) rfl
theorem bf_own1 {kb kg : Nat} {v u : List Int} (hL : LawAt w0 w a m r k) (hg : Bf w kg u) (he : Ext (kb :: a :: rowBlk r.M.b) w w') (hne : kg ≠ kb) : Bf w' kg u := hg.ext he (fun z => by
  rcases List.mem_cons.1 z with z | z
  · exact hne z
  rcases List.mem_cons.1 z with z | z
  · exact Own.ne_type hg.1 hL.own (by decide) z
  · obtain ⟨cs, o2⟩ := hL.r.M.row.ty z
    exact Own.ne_type hg.1 o2 (by decide) rfl)
theorem bf_own2 {kg : Nat} {u : List Int} {b : Option Addr} {l cc lo : Nat} {F : List (List Int × Nat)} (hL : LawAt w0 w a m r k) (fr : FrL w b l cc lo F) (hg : Bf w kg u) (ow : OwnedR w w' a r r' b F) (hne : ∀ e ∈ F, kg ≠ e.2) : Bf w' kg u := hg.ext ow.ext (fun z => by
  rcases List.mem_append.1 z with z | z
  · obtain ⟨e, he, z⟩ := List.mem_map.1 z
    exact hne e he z.symm
  rcases List.mem_append.1 z with z | z
  · obtain ⟨cs2, o2⟩ := fr.row.ty z
    exact Own.ne_type hg.1 o2 (by decide) rfl
  rcases List.mem_cons.1 z with z | z
  · exact Own.ne_type hg.1 hL.own (by decide) z
  rcases List.mem_append.1 z with z | z
  · obtain ⟨cs2, o2⟩ := hL.r.M.row.ty z
    exact Own.ne_type hg.1 o2 (by decide) rfl
  · obtain ⟨cs2, o2⟩ := hL.r.O.row.ty z
    exact Own.ne_type hg.1 o2 (by decide) rfl)
/-- Behind the calls: the network reads, the law keeps, the frames go out. -/
theorem recvTail {R : Bool → World → Prop} {b : Option Addr} {l cc lo kg i j : Nat} {y yp : PEM} {F : List (List Int × Nat)} {m1 : LH} {r1 : LR} (hg : GoodZ Z n m r k) (h0 : 0 ≤ n) (hn : n ≤ 4398046500000) (hc : c < 3) (ro : RecvOk Z n m r k c sd mx i j y yp)
    (h1 : LawAt w0 w a m1 r1 k) (hH : m1.H = updS m.H c (callH (m.H c) (recvT sd mx (m.H c).t)).1) (hJ : m1.qu = true → m.qu = true ∧ m1.J = updS m.J c (callH (m.H c) (recvT sd mx (m.H c).t)).1) (kr : KeepR r r1) (hM : (r1.M.n : Int) ≤ n + 38) (hO : (r1.O.n : Int) ≤ n + 40)
    (fr : FrL w b l cc lo F) (hlo : w0.heap.size ≤ lo) (eF : F.map (·.1) = (callH (m.H c) (recvT sd mx (m.H c).t)).2) (u1 : ∀ e ∈ F, ¬ U8F r1 e.2) (v1 : ∀ y ∈ rowBlk b, ¬ F81 r1 y)
    (gk : Bf w kg (recvT sd mx (m.H c).t).v) (ug : ¬ U8F r1 kg) (hge : w0.heap.size ≤ kg) (hgF : ∀ e ∈ F, e.2 ≠ kg)
    (hR : ∀ m' r' k' w', LawAt w0 w' a m' r' k' → MidZ Z (n + 400) m' r' k' (K0of m) → R true w') {tt : Bool} (ht : tt = false) : hostlaw_World_Recv.B3 (some ⟨a, 0, none⟩) (c : Int) sd (some ⟨kg, 0, none⟩) (recvT sd mx (m.H c).t).v.length (recvT sd mx (m.H c).t).v.length b l cc 0 tt w R := by
  obtain ⟨M1, O1, tok1, rfl⟩ := kr
  have hM' : (M1.n : Int) ≤ n + 38 := hM
  have hO' : (O1.n : Int) ≤ n + 40 := hO
  have hnl := ro.nl
  have hRl := ro.Rl
  have hv16 := ro.pos
  unfold hostlaw_World_Recv.B3
  refine Bm.neg ht (Pn.mk (h1.ldN (nFind_ok h1.r.N (by show r.N.length ≤ _; omega) (fun jj zz hj q1 q2 => ?_) (fun hno => absurd ⟨by rw [ro.hh.1], ro.hh.2⟩ (hno i y ro.at_)))))
  have ej := ro.find jj zz hj q1 q2
  subst ej
  refine Bm.neg rfl (Bm.neg rfl (Pn.mk (h1.ldN ?_)))
  have hyc : yp.E.S.length ≤ yp.sc := (h1.r.N.S yp (List.mem_of_getElem? ro.atp)).row.2.1
  refine read_ok h1.r.N ro.at_ ro.peer ro.atp ro.ne gk.rd0 rfl ro.pos.1 (by omega) hyc ro.pre fun nb nc w2 h2 hnb t2 => Bm.neg rfl ?_
  have h3 := h1.net h2 (t2.mono (by decide)) (fun x hx q hq => by
    rcases List.mem_or_eq_of_mem_set hx with zx | zx
    · exact .inl (.inr (.inr ⟨x, zx, hq⟩))
    · subst zx
      rcases hq with hq | hq
      · exact .inl (.inr (.inr ⟨y, List.mem_of_getElem? ro.at_, .inl hq⟩))
      · exact .inr (hnb q hq))
  have f3 := fr.keepL t2 (by decide) (by decide)
  have g3 : Bf w2 kg (recvT sd mx (m.H c).t).v := ⟨t2.own gk.1 (by decide), gk.2⟩
  have nU : ∀ q, q < w.heap.size → ¬ U8F { r with M := M1, O := O1, tok := tok1 } q → ¬ U8F { r with M := M1, O := O1, tok := tok1, N := r.N.set jj { y with E := { y.E with R := y.E.R ++ (recvT sd mx (m.H c).t).v }, rb := nb, rc := nc }, del := r.del } q := fun q hq hu zz => by
    rcases zz with (zz | zz | ⟨x, hx, zz⟩) | zz
    · exact hu (.inl (.inl zz))
    · exact hu (.inl (.inr (.inl zz)))
    · rcases List.mem_or_eq_of_mem_set hx with zx | zx
      · exact hu (.inl (.inr (.inr ⟨x, zx, zz⟩)))
      · subst zx
        rcases zz with zz | zz
        · exact hu (.inl (.inr (.inr ⟨y, List.mem_of_getElem? ro.at_, .inl zz⟩)))
        · have := hnb q zz
          omega
    · exact hu (.inr zz)
  refine lawOwn_ok h3 (by show M1.n ≤ _; omega) g3 (nU kg gk.lt ug) hge rfl (by omega) fun M4 w4 h4 n4 k4 r4 e4 => ?_
  have n4' : M4.n ≤ M1.n + 1 := n4
  have f4 : FrL w4 b l cc lo F := f3.own1 h3 g3 e4 hgF v1
  refine putCall hg h0 hn hc ro.co h4 (by rw [List.map_set]) hH hJ (by omega) hO' f4 hlo eF (fun e he zz => ?_) (fun q hq zz => ?_) hR
  · have hu := nU e.2 (fr.lt e he) (u1 e he)
    rcases zz with (zz | zz) | zz
    · rcases k4 e.2 zz with zz | zz
      · exact hu (.inl (.inl zz))
      · exact hgF e he zz
    · exact hu (.inl (.inr zz))
    · exact hu (.inr zz)
  · rcases zz with zz | zz
    · rcases r4 q zz with zz | zz
      · exact v1 q hq (.inl zz)
      · have := f3.row.lt q hq
        omega
    · exact v1 q hq (.inr zz)
theorem lawRecv_ok {R : Bool → World → Prop} (hL : LawAt w0 w a m r k) (hg : GoodZ Z n m r k) (h0 : 0 ≤ n) (hn : n ≤ 4398046500000) (hc : c < 3)
    (hR : ∀ m' r' k' w', LawAt w0 w' a m' r' k' → MidZ Z (n + 400) m' r' k' (K0of m) → R true w') : hostlaw_World_Recv.Call (some ⟨a, 0, none⟩) (c : Int) sd mx w R := by
  apply hostlaw_World_Recv.sound
  unfold hostlaw_World_Recv.B0
  have ok := hg.hs.ok c hc
  have hcM := hg.cnt.M
  have hcO := hg.cnt.O
  have hnN : 400 * (r.N.length : Int) ≤ n := by
    obtain ⟨G, X, Lg, M, pw, rs, gb⟩ := hg.pw
    have := rs.len
    have := gb.len
    simp at *
    omega
  have b1 : ∀ {w1 : World} {wantN want : Int}, LawAt w0 w1 a m r k → wantN = ((recvT sd mx (m.H c).t).v.length : Int) → want = (recvT sd mx (m.H c).t).e → RecvC Z n m r k c sd mx → hostlaw_World_Recv.B1 (some ⟨a, 0, none⟩) (c : Int) sd mx wantN want w1 R := fun {w1 wantN want} h1 hwn hw pl => by
    unfold hostlaw_World_Recv.B1
    have hz := h1.sz
    refine Pn.mk ⟨⟨by omega, by omega⟩, h1.ldH hc ?_⟩
    rcases pl with ⟨pe, pt', pv, peof⟩ | ⟨i, j, y, yp, ro⟩
    · -- it fails
      refine recv_call_ok (h1.h.H c hc) ok (by omega) (fun _ w3 hh3 he3 => ?_) (fun z => absurd z pe)
      have h3 : LawAt w0 w3 a m r k := by
        rw [pt'] at hh3
        have := h1.host hc hh3 he3
        rw [show (m.setH c { m.H c with t := (m.H c).t }) = m from setH_same m c] at this
        exact this
      have fin : ∀ {w5 : World} {r5 : LR}, LawAt w0 w5 a m r5 k → KeepR r r5 → (r5.M.n : Int) ≤ n + 400 → (r5.O.n : Int) ≤ n + 400 → ∀ tt : Bool, tt = false → hostlaw_World_Recv.B3 (some ⟨a, 0, none⟩) (c : Int) sd none 0 0 none 0 0 (recvT sd mx (m.H c).t).e tt w5 R := fun {w5 r5} h5 kr hM5 hO5 tt ht => by
        unfold hostlaw_World_Recv.B3
        obtain ⟨M5, O5, tok5, rfl⟩ := kr
        have md := hg.midK h0 ⟨M5, O5, tok5, rfl⟩ hM5 hO5
        have rest : ∀ (x : Int), ((recvT sd mx (m.H c).t).e = 16 → ∃ (i j : Nat) (y yp : PEM), x = (i : Int) ∧ EofOk n r c sd i j y yp) → Bm ((recvT sd mx (m.H c).t).e == (16 : Int)) (Bm (((0 : Nat) : Int) == (0 : Int)) (Pn (some (⟨a, 0, none⟩ : Addr)) fun a_1 => LdP (a_1.add 30) w5 fun x109 => hostm_Net_EOF.Call x109 x w5 fun r111 w2 => R r111 w2) (R false w5)) (Bm ((recvT sd mx (m.H c).t).e != (0 : Int)) (R (((0 : Nat) : Int) == (0 : Int)) w5) (Pn (some (⟨a, 0, none⟩ : Addr)) fun a_2 => LdP (a_2.add 30) w5 fun x121 => hostm_Net_Read.Call x121 x none 0 0 w5 fun r124 w3 => Bm (!r124) (R false w3) (hostlaw_World_Own.Call (some ⟨a, 0, none⟩) none 0 0 w3 fun w4 => hostlaw_World_Put.Call (some ⟨a, 0, none⟩) (c : Int) none 0 0 w4 fun w5 => R true w5))) := fun x hx => by
          refine Bm.mk (fun z => Bm.pos rfl (Pn.mk (h5.ldN ?_))) fun z => Bm.pos (by simpa using pe) (hR m _ k w5 h5 md)
          obtain ⟨i, j, y, yp, rfl, eo⟩ := hx (beqT z)
          have := eo.Rl
          exact eof_ok h5.r.N eo.at_ eo.peer eo.atp eo.clo eo.eq (by omega) fun w6 e6 => hR m _ k w6 (h5.ext0 e6) md
        refine Bm.neg ht (Pn.mk (h5.ldN (nFind_ok h5.r.N (by show r.N.length ≤ _; omega) (fun jj zz hj q1 q2 => rest _ fun e16 => ?_) (fun hno => rest _ fun e16 => ?_))))
        · obtain ⟨i, j, y, yp, eo⟩ := peof e16
          have ej := eo.find jj zz hj q1 q2
          exact ⟨i, j, y, yp, by rw [ej], eo⟩
        · obtain ⟨i, j, y, yp, eo⟩ := peof e16
          exact absurd ⟨by rw [eo.hh.1], eo.hh.2⟩ (hno i y eo.at_)
      have hl0 : (recvT sd mx (m.H c).t).v.length = 0 := by rw [pv]; rfl
      refine Pn.mk (h3.ldQu (Bm.mk (fun hq => ?_) fun hq => ?_))
      · have eJ := hg.tw hq c hc
        have hh5 : HostAt w3 (m.BQ c) (m.H c) := by have := h3.h.J hq c hc; rw [← eJ]; exact this
        refine Pn.mk ⟨⟨by omega, by omega⟩, h3.ldQ hc hq (recv_call_ok hh5 ok (by omega) (fun _ w6 hh6 he6 => ?_) (fun z => absurd z pe))⟩
        have h6 : LawAt w0 w6 a m r k := by
          rw [pt'] at hh6
          have := h3.twin hc hq hh6 he6
          rw [show (m.setJ c { m.H c with t := (m.H c).t }) = m from by have := setJ_same m c; rw [eJ] at this; exact this] at this
          exact this
        refine Bm.neg (bne_self' _) (sameBytes_ok (u := []) (v := []) (Rd.nil _ _) (Rd.nil _ _) rfl rfl (by omega) fun w7 e7 _ => ?_)
        unfold hostlaw_World_Recv.B2
        refine Bm.neg rfl (sameFrames_ok (F := []) (G := []) (FrL.nil w7 0) (FrL.nil w7 0) rfl (by omega) (fun e he => by cases he) fun w8 e8 => Bm.neg rfl ?_)
        refine ownAll_ok ((h6.ext0 e7).ext0 e8) (F := []) (lo := w0.heap.size) (FrL.nil w8 _) (Nat.le_refl _) (by omega) (by omega) (by omega) (fun e he => by cases he) (fun y hy => by cases hy) fun r9 w9 h9 m9 o9 ow => lawOwn_nil ?_
        refine Bm.neg (by rw [hw]; exact bne_self' _) (fin h9 ow.kr (by omega) (by omega) _ ?_)
        rw [hwn, hl0]; rfl
      · refine Bm.neg (by rw [hw]; exact bne_self' _) (fin h3 (KeepR.refl r) (by omega) (by omega) _ ?_)
        rw [hwn, hl0]; rfl
    · -- it goes well
      have e0 := ro.e
      refine recv_call_ok (h1.h.H c hc) ok (by omega) (fun z => absurd e0 z) (fun _ gb gl gc b l cc F w3 fr3 eF hh3 he3 got hgF => ?_)
      rcases got with ⟨_, _, _, z⟩ | ⟨kg, rfl, rfl, rfl, hkg, gk3⟩
      · have := ro.pos.1
        rw [z] at this
        simp at this
      have h3 := h1.host hc hh3 he3
      have ff := h1.freshF fr3
      have ug : ¬ U8F r kg := (h1.r.fresh hkg).1
      have hgF' : ∀ e ∈ F, e.2 ≠ kg := fun e he => by have := hgF kg rfl e he; omega
      have hFl : l ≤ 36 := by
        have h1 := ro.co.len
        rw [← eF] at h1
        have := fr3.len
        simp at h1
        omega
      have hsm : ∀ e ∈ F, e.1.length ≤ 1000 := fun e he => ro.co.sm e.1 (by rw [← eF]; exact List.mem_map.2 ⟨e, he, rfl⟩)
      refine Pn.mk (h3.ldQu (Bm.mk (fun hq0 => ?_) fun hq0 => ?_))
      · have hq : m.qu = true := hq0
        have eJ := hg.tw hq c hc
        have hh5 : HostAt w3 (m.BQ c) (m.H c) := by have := h3.h.J hq c hc; rw [← eJ]; exact this
        refine Pn.mk ⟨⟨by omega, by omega⟩, h3.ldQ hc hq (recv_call_ok hh5 ok (by omega) (fun z => absurd e0 z) (fun _ gb2 gl2 gc2 b2 l2 cc2 F2 w4 fr4 eF2 hh4 he4 got2 hgF2 => ?_))⟩
        rcases got2 with ⟨_, _, _, z⟩ | ⟨kg2, rfl, rfl, rfl, hkg2, gk4⟩
        · have := ro.pos.1
          rw [z] at this
          simp at this
        have h4 := h3.twin hc hq hh4 he4
        have fr4a := fr3.keepT he4 hh5.tys (by decide) (by decide)
        have gk4a : Bf w4 kg (recvT sd mx (m.H c).t).v := ⟨ownT he4 hh5.tys gk3.1 (by decide), gk3.2⟩
        have eFF : F.map (·.1) = F2.map (·.1) := by rw [eF, eF2]
        have z3 := he3.size
        have z4 := he4.size
        have hkl := gk3.lt
        have hv16 := ro.pos
        have hF2l : l2 ≤ 36 := by
          have h1 := congrArg List.length eFF
          have := fr3.len
          have := fr4.len
          simp at h1
          omega
        refine Bm.neg rfl (sameBytes_ok gk4a.rd0 gk4.rd0 rfl rfl (by omega) fun w5 e5 _ => ?_)
        rw [decide_eq_true rfl]
        unfold hostlaw_World_Recv.B2
        have h5 := h4.ext0 e5
        refine Bm.neg rfl (sameFrames_ok (fr4a.ext0 e5) (fr4.ext0 e5) eFF (by omega) (fun e he => by have := hsm e he; omega) fun w6 e6 => Bm.neg rfl ?_)
        have h6 := h5.ext0 e6
        have E6 := e5.trans e6
        have ff2 := h3.freshF fr4
        have ug2 : ¬ U8F r kg2 := (h3.r.fresh hkg2).1
        have hgF2' : ∀ e ∈ F2, kg2 ≠ e.2 := fun e he => by have := hgF2 kg2 rfl e he; omega
        refine own2_ok h6 (fr4a.ext0 E6) (fr4.ext0 E6) (by omega) (fun e he => fr3.lt e he) (fun y hy => fr3.row.lt y hy) (by omega) (by omega) (by omega) ff.1 ff.2 (fun e he => ⟨ff2.1 e he, ?_⟩) ff2.2 fun r7 w7 h7 kr m7 o7 fr7 u7 v7 ow => ?_
        · have := ro.co.sm e.1 (by rw [← eF2]; exact List.mem_map.2 ⟨e, he, rfl⟩)
          omega
        have gk6 := gk4a.ext0 E6
        have gk6b := gk4.ext0 E6
        have gk7 := bf_own2 h6 (fr4.ext0 E6) gk6 ow (fun e he => by have := fr4.ge e he; omega)
        have gk7b := bf_own2 h6 (fr4.ext0 E6) gk6b ow hgF2'
        have ug7 : ∀ q, q < w6.heap.size → ¬ U8F r q → (∀ e ∈ F2, e.2 ≠ q) → ¬ U8F r7 q := fun q hq hu hF zz => by
          rcases ow.u8 q zz with zz | ⟨e, he, zz⟩ | zz
          · exact hu zz
          · exact hF e he zz
          · omega
        have uk := ug7 kg gk6.lt ug (fun e he => by have := fr4.ge e he; omega)
        have uk2 := ug7 kg2 gk6b.lt ug2 (fun e he => by have := hgF2' e he; omega)
        have hz6 := h6.sz
        refine lawOwn_ok h7 (by omega) gk7b uk2 (by omega) rfl (by omega) fun M8 w8 h8 n8 k8 r8 e8 => ?_
        have fr8 := fr7.own1 h7 gk7b e8 (fun e he => by have := fr3.lt e he; omega) v7
        have gk8 : Bf w8 kg (recvT sd mx (m.H c).t).v := bf_own1 (v := []) h7 gk7 e8 (by omega)
        have kr8 : KeepR r { r7 with M := M8 } := by
          obtain ⟨M7, O7, tok7, rfl⟩ := kr
          exact ⟨M8, O7, tok7, rfl⟩
        have u8 : ∀ q, ¬ U8F r7 q → q ≠ kg2 → ¬ U8F { r7 with M := M8 } q := fun q hu hne zz => by
          rcases zz with (zz | zz) | zz
          · rcases k8 q zz with zz | zz
            · exact hu (.inl (.inl zz))
            · exact hne zz
          · exact hu (.inl (.inr zz))
          · exact hu (.inr zz)
        refine Bm.neg (by rw [hw, e0]; rfl) (recvTail hg h0 hn hc ro h8 rfl (fun _ => ⟨hq, rfl⟩) kr8 (by show (M8.n : Int) ≤ _; omega) (by show (r7.O.n : Int) ≤ _; omega) fr8 (by omega) eF (fun e he => u8 e.2 (u7 e he) (by have := fr3.lt e he; omega)) (fun q hq2 zz => ?_) gk8 (u8 kg uk (by omega)) (by omega) hgF' hR (by rw [hwn]; exact bne_self' _))
        rcases zz with zz | zz
        · rcases r8 q zz with zz | zz
          · exact v7 q hq2 (.inl zz)
          · have := fr7.row.lt q hq2
            omega
        · exact v7 q hq2 (.inr zz)
      · have hq : m.qu = false := hq0
        refine Bm.neg (by rw [hw, e0]; rfl) (recvTail hg h0 hn hc ro h3 rfl (fun zz => ?_) (KeepR.refl r) (by omega) (by omega) fr3 (by omega) eF ff.1 ff.2 gk3 ug (by omega) hgF' hR (by rw [hwn]; exact bne_self' _))
        have z' : m.qu = true := zz
        rw [hq] at z'
        cases z'
  -- what is wanted
  have bad : ∀ {w1 : World}, LawAt w0 w1 a m r k → oursE (m.H c).t.K.E sd = none → hostlaw_World_Recv.B1 (some ⟨a, 0, none⟩) (c : Int) sd mx 0 21 w1 R := fun {w1} h1 hn => by
    have ev : recvT sd mx (m.H c).t = ⟨[], 21, (m.H c).t, []⟩ := by unfold recvT; rw [hn]
    refine b1 h1 (by rw [ev]; rfl) (by rw [ev]) (.bad (by rw [ev]; show (21 : Int) ≠ 0; decide) (by rw [ev]) (by rw [ev]) (fun z => ?_))
    rw [ev] at z
    exact absurd z (by show ¬ (21 : Int) = 16; decide)
  refine lawOurs_ok hL hc ok (fun hno w1 e1 => ?_) (fun x hx ib w1 hia e1 => ?_)
  · refine New.mk fun s w2 es hs2 os2 he2 => Sts.full (vs := [.int .i64 0, .int .i64 0, .int .i64 0, .int .i64 0, .int .i64 0, .int .i64 0, .int .i64 0, .bool false, .pointer none]) os2 rfl rfl fun w3 hs3 o3 he3 => Bm.neg rfl ?_
    have E3 : Ext [] w w3 := (e1.trans he2).trans' he3 (fun y hy hl => by simp at hy; have := e1.size; omega)
    exact bad (hL.ext0 E3) (by unfold oursE; rw [hno])
  · refine New.mk fun s w2 es hs2 os2 he2 => Sts.full (vs := [.int .i64 x.1.sd, .int .i64 x.1.kind, .int .i64 x.1.lp, .int .i64 x.1.rh, .int .i64 x.1.rp, .int .i64 x.1.slot, .int .i64 x.1.par, .bool x.1.rdy, .pointer (some ⟨ib, 0, none⟩)]) os2 rfl rfl fun w3 hs3 o3 he3 => ?_
    have z1 := e1.size
    have E3 : Ext [] w w3 := (e1.trans he2).trans' he3 (fun y hy hl => by simp at hy; omega)
    have E13 : Ext [] w1 w3 := he2.trans' he3 (fun y hy hl => by simp at hy; omega)
    cases hour : oursE (m.H c).t.K.E sd with
    | none => exact Bm.neg rfl (bad (hL.ext0 E3) hour)
    | some x' =>
      obtain ⟨hx', hk2, hp0⟩ := oursE_kind hour
      rw [hx] at hx'
      cases hx'
      have ei : infoC (m.H c).t x = (m.H c).t.C (slotN x) := by unfold infoC; rw [if_pos hk2]
      rw [ei] at hia
      have hia3 : InAt w3 ib ((m.H c).t.C (slotN x)) := E13.own hia (by simp)
      have hxm := (getE_mem hx).1
      have hsl := slot_lt ok.sk hxm hk2
      have hcs := ok.cs (slotN x) (by unfold slotN; omega)
      have hst : ((m.H c).t.C (slotN x)).st ≠ 0 := by
        obtain ⟨G, X, Lg, M, pw, rs, gb⟩ := hg.pw
        exact ((chk_of pw.sys hc (h := m.H c) rfl).row x hxm hk2).1
      obtain ⟨q1, q2, _⟩ := recvT_eq (mx := mx) hour
      refine Bm.pos rfl (LdP.mk o3 rfl (wantRecv_ok hia3 hcs hst fun w4 e4 => ?_))
      exact b1 ((hL.ext0 E3).ext0 e4) (by rw [q2]) q1.symm (recv_plain hg h0 hc hour)
end
end Go.Proofs.Qxb6500424aGreat
