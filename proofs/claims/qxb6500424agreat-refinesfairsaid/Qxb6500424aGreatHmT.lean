/-
  hostlaw: Connect.
-/
import Derived.Test.Qxb6500424aGreatHmS
set_option linter.unusedVariables false
set_option linter.unusedSimpArgs false
open Go.Vc
namespace Go.Proofs.Qxb6500424aGreat
section
variable {w0 w w' : World} {a c d q : Nat} {m m' : LH} {r r' : LR} {k k' : LC} {n n' : Int} {sd rh rp : Int} {Z : Zf}
/-- Behind Info: the four-tuple is nobody else's; the network is told; the frames go out. -/
theorem conTail {R : Bool → World → Prop} {b : Option Addr} {l cc lo s ib : Nat} {F : List (List Int × Nat)} {x : Sk.AE} {m1 : LH} {r1 : LR} (hg : GoodZ Z n m r k) (h0 : 0 ≤ n) (hn : n ≤ 4398046500000) (hc : c < 3) (co : ConOk Z n m r k c rh rp x)
    (h1 : LawAt w0 w a m1 r1 k) (hH : m1.H = updS m.H c (callH (m.H c) (connectT k.tk rh rp (m.H c).t)).1) (hJ : m1.qu = true → m.qu = true ∧ m1.J = updS m.J c (callH (m.H c) (connectT k.tk rh rp (m.H c).t)).1) (kr : KeepR r r1) (hM : (r1.M.n : Int) ≤ n + 40) (hO : (r1.O.n : Int) ≤ n + 40)
    (fr : FrL w b l cc lo F) (hlo : w0.heap.size ≤ lo) (eF : F.map (·.1) = (callH (m.H c) (connectT k.tk rh rp (m.H c).t)).2) (u1 : ∀ e ∈ F, ¬ U8F r1 e.2) (v1 : ∀ y ∈ rowBlk b, ¬ F81 r1 y)
    (os : Own w s (siArr x.1 (some ⟨ib, 0, none⟩)) 69) (hia : InAt w ib (infoC (connectT k.tk rh rp (m.H c).t).t x))
    (hR : ∀ m' r' k' w', LawAt w0 w' a m' r' k' → MidZ Z (n + 400) m' r' k' (K0of m) → R true w') : hostlaw_World_Connect.B5 (some ⟨a, 0, none⟩) (c : Int) rh rp b l cc s false w R := by
  obtain ⟨M1, O1, tok1, rfl⟩ := kr
  have hM' : (M1.n : Int) ≤ n + 40 := hM
  have hO' : (O1.n : Int) ≤ n + 40 := hO
  have ok := hg.hs.ok c hc
  have e3 := co.hrh
  have e4 := co.hrp
  have e5 := co.lp
  have hsn := hg.seen c hc
  have hE6 := rows6' ok.sk
  unfold hostlaw_World_Connect.B5
  refine Bm.neg rfl (LdI.mk os rfl (Bm.neg (by rw [e3]; exact bne_self' _) (LdI.mk os rfl (Bm.neg (by rw [e4]; exact bne_self' _) (LdI.mk os rfl (Bm.neg (decide_eq_false (by omega)) (LdI.mk os rfl ?_)))))))
  unfold hostlaw_World_Connect.B6
  refine Bm.neg (decide_eq_false (by omega)) ?_
  unfold hostlaw_World_Connect.L1
  have eHc : m1.H c = (callH (m.H c) (connectT k.tk rh rp (m.H c).t)).1 := by rw [hH, updS_at]
  have et : (callH (m.H c) (connectT k.tk rh rp (m.H c).t)).1.t = (connectT k.tk rh rp (m.H c).t).t := by unfold callH; rw [(sendAllH_t _ _).1]
  have okc : HsOk (n + 60) (m1.H c) := by rw [eHc]; exact co.ok
  have hl : (r.sn c).length = (m.H c).t.K.E.length := by rw [hsn]; simp [sdsE]
  refine ⟨fun mm a' c' rh' rp' b' l' cc' s' i w' => ∃ q : Nat, q ≤ (r.sn c).length ∧ mm = (r.sn c).length - q ∧ some ⟨a, 0, none⟩ = a' ∧ (c : Int) = c' ∧ rh = rh' ∧ rp = rp' ∧ b = b' ∧ l = l' ∧ cc = cc' ∧ s = s' ∧ i = (q : Int) ∧ Ext [] w w', (r.sn c).length, ⟨0, by omega, rfl, rfl, rfl, rfl, rfl, rfl, rfl, rfl, rfl, rfl, Ext.refl _ _⟩, ?_⟩
  rintro mm a' c' rh' rp' b' l' cc' s' i w' ⟨q, hq, rfl, rfl, rfl, rfl, rfl, rfl, rfl, rfl, rfl, rfl, he'⟩
  unfold hostlaw_World_Connect.L1b
  have h' := h1.ext0 he'
  refine Pn.mk ⟨⟨by omega, by omega⟩, h'.ldSeen hc ?_⟩
  show Bm (decide ((q : Int) < (((r.sn c).length : Nat) : Int))) _ _
  refine Bm.ite (fun hlt => ?_) fun hge => ?_
  · obtain ⟨so, hso⟩ : ∃ so, (r.sn c)[q]? = some so := ⟨_, List.getElem?_eq_getElem (by omega)⟩
    have hsom := List.mem_of_getElem? hso
    rw [hsn] at hsom
    obtain ⟨ao, hao, eao⟩ := List.mem_map.1 hsom
    have hlt2 := (ok.sk.ei.sd ao hao).2
    have eao' : ao.1.sd = so := eao
    refine seenInfo h'.drew hc okc hso fun s2 e w5 hI e5x => ?_
    have E5 := (he'.trans (Ext.drew [] _)).trans e5x
    have next : ∀ tt : Bool, tt = false → hostlaw_World_Connect.B8 (some ⟨a, 0, none⟩) (c : Int) rh rp b l cc s (q : Int) tt w5 (fun a' c' rh' rp' b' l' cc' s' i w' => ∃ m', m' < (r.sn c).length - q ∧ ∃ q : Nat, q ≤ (r.sn c).length ∧ m' = (r.sn c).length - q ∧ some ⟨a, 0, none⟩ = a' ∧ (c : Int) = c' ∧ rh = rh' ∧ rp = rp' ∧ b = b' ∧ l = l' ∧ cc = cc' ∧ s = s' ∧ i = (q : Int) ∧ Ext [] w w') R := fun tt ht => by
      unfold hostlaw_World_Connect.B8
      exact Bm.neg ht ⟨(r.sn c).length - (q + 1), by omega, q + 1, by omega, rfl, rfl, rfl, rfl, rfl, rfl, rfl, rfl, rfl, by rw [w64 (by omega) (by omega)]; omega, E5⟩
    unfold hostlaw_World_Connect.B7
    cases hgt : Sk.getE (m1.H c).t.K.E so with
    | none =>
      obtain ⟨rfl, os2⟩ := hI.no hgt
      exact Bm.neg rfl (next false rfl)
    | some y =>
      obtain ⟨rfl, ib2, hia2, os2⟩ := hI.yes y hgt
      have ym := getE_mem hgt
      have os5 := E5.own os (by simp)
      refine Bm.pos rfl (LdI.mk os2 rfl (Bm.mk (fun z1 => LdI.mk os2 rfl (LdI.mk os5 rfl (Bm.mk (fun z2 => LdI.mk os2 rfl (Bm.mk (fun z3 => LdI.mk os2 rfl (next _ ?_)) fun z3 => next false rfl)) fun z2 => next false rfl))) fun z1 => next false rfl))
      by_cases z4 : y.1.rp = rp
      · exfalso
        have hx := getE_mem co.get
        have k1 := okc.sk.ei
        have hym : y ∈ (m1.H c).t.K.E := ym.1
        have hxm : x ∈ (m1.H c).t.K.E := by rw [eHc, et]; exact hx.1
        have := k1.tup y hym x hxm (beqT z1) co.kind (beqT z2) (by rw [beqT z3, e3]) (by rw [z4, e4])
        have h1 := ym.2
        have h2 := co.sd
        omega
      · simpa using z4
  · have hd := h'.drew
    have E5 := he'.trans (Ext.drew [] _)
    have os5 := E5.own os (by simp)
    have hia5 : InAt w'.drew ib _ := E5.own hia (by simp)
    refine Pn.mk (hd.ldN (LdI.mk os5 rfl (LdI.mk os5 rfl (LdI.mk os5 rfl (LdI.mk os5 rfl (LdI.mk os5 rfl (LdI.mk os5 rfl (LdI.mk os5 rfl (LdB.mk os5 rfl (LdP.mk os5 rfl ?_))))))))))
    have hnl := co.nl
    refine connected_ok (e := x.1) hd.r.N (by show r.N.length ≤ _; omega) (fun j y hy hh => co.no j y hy ⟨hh.1, by rw [hh.2]; exact co.sd⟩) hia5 co.st fun w6 h6 t6 => Bm.neg rfl ?_
    have h7 := hd.net h6 t6 (fun y hy z hz => by
      rcases List.mem_append.1 hy with yy | yy
      · exact .inl (.inr (.inr ⟨y, yy, hz⟩))
      · rw [List.mem_singleton.1 yy] at hz
        simp [rowBlk] at hz)
    have f7 := (fr.ext0 E5).keepL t6 (by decide) (by decide)
    have hFl : l ≤ 36 := by
      have h1 := co.len
      rw [← eF] at h1
      have := fr.len
      simp at h1
      omega
    have hcsp := hg.cnt.sp
    have hout := hg.out c hc
    have hcr := ok.cr
    have nU : ∀ e ∈ F, ¬ U8F { r with M := M1, O := O1, tok := tok1, N := r.N ++ [⟨conE c x.1, none, 0, none, 0⟩], del := r.del } e.2 := fun e he z => by
      rcases z with (z | z | ⟨y, hy, z⟩) | z
      · exact u1 e he (.inl (.inl z))
      · exact u1 e he (.inl (.inr (.inl z)))
      · rcases List.mem_append.1 hy with yy | yy
        · exact u1 e he (.inl (.inr (.inr ⟨y, yy, z⟩)))
        · rw [List.mem_singleton.1 yy] at z
          simp [rowBlk] at z
      · exact u1 e he (.inr z)
    refine put_ok h7 hc f7 hlo (by omega) (by show M1.n + l ≤ _; omega) (by show O1.n ≤ _; omega) (fun e he => ⟨nU e he, by have := co.sm e.1 (by rw [← eF]; exact List.mem_map.2 ⟨e, he, rfl⟩); omega⟩) v1 (by rw [eF]; exact co.nf) (by omega) (by omega) fun r8 sp8 w8 h8 pr n8 o8 s1 s2 => ?_
    obtain ⟨W8, M8, O8, tok8, rfl⟩ := pr.eq
    have n8' : M8.n ≤ M1.n + l := n8
    have o8' : O8.n ≤ O1.n + 1 := o8
    have cn := hg.cnt
    have hW8 : ∀ e ∈ W8, e ∈ r.W ∨ ∃ F' ∈ (callH (m.H c) (connectT k.tk rh rp (m.H c).t)).2, e.1 = ⟨F', 0, false⟩ := fun e he => by
      rcases pr.W e he with z | ⟨f, hf, z⟩
      · exact .inl z
      · exact .inr ⟨f.1, by rw [← eF]; exact List.mem_map.2 ⟨f, hf, rfl⟩, z⟩
    refine hR m1 _ _ w8 h8 (co.mid hH hJ (by show (r.N ++ [(⟨conE c x.1, none, 0, none, 0⟩ : PEM)]).map (·.E) = _; rw [List.map_append]; rfl) rfl hW8 rfl rfl ⟨rfl, rfl, rfl, rfl⟩ (by rw [eF]) ⟨by have := cn.R; show (r.R.length : Int) ≤ _; omega, by have := cn.I; show (r.I.n : Int) ≤ _; omega, by show (O8.n : Int) ≤ _; omega, by show (M8.n : Int) ≤ _; omega, by show 0 ≤ sp8 ∧ sp8 ≤ _; omega, by have := cn.tk; show 0 ≤ k.tk ∧ k.tk ≤ _; omega, fun c hc => by have := cn.del c hc; show 0 ≤ r.del c ∧ r.del c ≤ _; omega, fun e he => ?_⟩ ⟨s1, fun z => ?_⟩ rfl)
    · rcases hW8 e he with z | ⟨F', _, z⟩
      · exact cn.age e z
      · rw [z]; show (0 : Int) ≤ 5; omega
    · have al := pr.all z
      have ef : (callH (m.H c) (connectT k.tk rh rp (m.H c).t)).2.map flF = F.map fun f => (⟨f.1, 0, false⟩ : FL) := by
        rw [← eF, List.map_map]
        rfl
      rw [ef]
      exact al
theorem lawConnect_ok {R : Bool → World → Prop} (hL : LawAt w0 w a m r k) (hg : GoodZ Z n m r k) (h0 : 0 ≤ n) (hn : n ≤ 4398046500000) (hc : c < 3) (hzc : Z.on m k → (∀ (j : Nat) y, r.N[j]? = some y → y.E.gone = true) ∧ ∃ d, d < 3 ∧ d ≠ c ∧ rh = (d : Int) + 1 ∧ Sk.lisE (m.H d).t.K.E rp ≠ 0)
    (hR : ∀ m' r' k' w', LawAt w0 w' a m' r' k' → MidZ Z (n + 400) m' r' k' (K0of m) → R true w') : hostlaw_World_Connect.Call (some ⟨a, 0, none⟩) (c : Int) rh rp w R := by
  apply hostlaw_World_Connect.sound
  unfold hostlaw_World_Connect.B0
  have ok := hg.hs.ok c hc
  have hsn := hg.seen c hc
  obtain ⟨G, X, Lg, M, pw, rs, gb⟩ := hg.pw
  have hclk := (pw.lk c hc).clk
  have hcM := hg.cnt.M
  have hcO := hg.cnt.O
  have md0 : ∀ {r1 : LR}, KeepR r r1 → (r1.M.n : Int) ≤ n + 400 → (r1.O.n : Int) ≤ n + 400 → MidZ Z (n + 400) m r1 k (K0of m) := fun {r1} kr h1 h2 => by
    obtain ⟨M1, O1, tok1, rfl⟩ := kr
    have g2 : GoodZ Z (n + 400) m { r with M := M1, O := O1, tok := tok1 } k := by
      have g1 := hg.mono (n' := n + 400) (by omega)
      exact ⟨⟨g1.pw, g1.hs, g1.tw, g1.seen, g1.top, g1.lost, g1.out, g1.fl, g1.rdy, g1.rlt, ⟨g1.cnt.R, g1.cnt.I, h2, h1, g1.cnt.sp, g1.cnt.tk, g1.cnt.del, g1.cnt.age⟩⟩, g1.zb, g1.zx, g1.fz⟩
    exact g2.mid
  have b2 : ∀ {want : Int} {w1 : World}, LawAt w0 w1 a m r k → want = (Sk.connectA rh rp (m.H c).t.K).1.2 → hostlaw_World_Connect.B2 (some ⟨a, 0, none⟩) (c : Int) rh rp want w1 R := fun {want w1} h1 hw => by
    unfold hostlaw_World_Connect.B2
    have hz := h1.sz
    refine Pn.mk ⟨⟨by omega, by omega⟩, h1.ldH hc (connect_ok (h1.h.H c hc) ok (by omega) ?_)⟩
    rw [hclk]
    by_cases hcon : (Sk.connectA rh rp (m.H c).t.K).1.2 = 0
    · -- it goes well
      obtain ⟨x, co⟩ := con_plain hg h0 hc hcon hzc
      have e1 := co.e
      refine ⟨fun z => absurd e1 z, fun _ => fun b l cc F w2 fr2 eF0 hh2 he2 => ?_⟩
      have eF : F.map (·.1) = (callH (m.H c) (connectT k.tk rh rp (m.H c).t)).2 := by simpa using eF0
      have h2 := h1.host hc hh2 he2
      have ff := h1.freshF fr2
      rw [co.v]
      have hFl : l ≤ 36 := by
        have h1 := co.len
        rw [← eF] at h1
        have := fr2.len
        simp at h1
        omega
      have hsm : ∀ e ∈ F, e.1.length ≤ 1000 := fun e he => co.sm e.1 (by rw [← eF]; exact List.mem_map.2 ⟨e, he, rfl⟩)
      -- behind the calls
      have tail : ∀ {w3 : World} {m3 : LH} {r3 : LR}, LawAt w0 w3 a m3 r3 k → m3.H = updS m.H c (callH (m.H c) (connectT k.tk rh rp (m.H c).t)).1 → (m3.qu = true → m.qu = true ∧ m3.J = updS m.J c (callH (m.H c) (connectT k.tk rh rp (m.H c).t)).1) → KeepR r r3 → (r3.M.n : Int) ≤ n + 40 → (r3.O.n : Int) ≤ n + 40 → FrL w3 b l cc w1.heap.size F → (∀ e ∈ F, ¬ U8F r3 e.2) → (∀ y ∈ rowBlk b, ¬ F81 r3 y) →
          Pn (some (⟨a, 0, none⟩ : Addr)) fun a_3 => (0 ≤ (c : Int) ∧ (c : Int) < ((3 : Nat) : Int)) ∧ LdP (Addr.add a_3 ((c : Int).toNat * 1)) w3 fun x101 =>
          host_Host_Info.Call x101 (m.H c).t.K.nsd w3 fun r0 r1 r2 r3 r4 r5 r6 r7 r8 e w4 =>
          New (.cells #[.int .i64 (0 : Int), .int .i64 (0 : Int), .int .i64 (0 : Int), .int .i64 (0 : Int), .int .i64 (0 : Int), .int .i64 (0 : Int), .int .i64 (0 : Int), .bool false, .pointer none] 69) w4 fun s_ w5 =>
          Sts [.int .i64 r0, .int .i64 r1, .int .i64 r2, .int .i64 r3, .int .i64 r4, .int .i64 r5, .int .i64 r6, .bool r7, .pointer r8] ⟨s_, 0, none⟩ 0 w5 fun w6 =>
          Pn (some (⟨a, 0, none⟩ : Addr)) fun a_4 => (0 ≤ (c : Int) ∧ (c : Int) < ((3 : Nat) : Int)) ∧ LdI .i64 (Addr.add (a_4.add 31) ((c : Int).toNat * 1)) w6 fun x112 =>
          Bm (decide ((m.H c).t.K.nsd ≤ x112)) (hostlaw_World_Connect.B5 (some ⟨a, 0, none⟩) (c : Int) rh rp b l cc s_ true w6 R)
            (Bm (e != (0 : Int)) (hostlaw_World_Connect.B5 (some ⟨a, 0, none⟩) (c : Int) rh rp b l cc s_ true w6 R)
              (LdI .i64 ⟨s_, 1, none⟩ w6 fun x121 => Bm (x121 != (2 : Int)) (hostlaw_World_Connect.B5 (some ⟨a, 0, none⟩) (c : Int) rh rp b l cc s_ true w6 R)
                (LdI .i64 ⟨s_, 6, none⟩ w6 fun x127 => hostlaw_World_Connect.B5 (some ⟨a, 0, none⟩) (c : Int) rh rp b l cc s_ (x127 != (0 : Int)) w6 R))) := fun {w3 m3 r3} h3 hH hJ kr hM3 hO3 f3 u3 v3 => by
        have eHc : m3.H c = (callH (m.H c) (connectT k.tk rh rp (m.H c).t)).1 := by rw [hH, updS_at]
        have et : (callH (m.H c) (connectT k.tk rh rp (m.H c).t)).1.t = (connectT k.tk rh rp (m.H c).t).t := by unfold callH; rw [(sendAllH_t _ _).1]
        have okc : HsOk (n + 60) (m3.H c) := by rw [eHc]; exact co.ok
        refine Pn.mk ⟨⟨by omega, by omega⟩, h3.ldH hc (info_new (h3.h.H c hc) okc fun s e w4 hI hsz e4 => Pn.mk ⟨⟨by omega, by omega⟩, (h3.ext0 e4).ldTop hc ?_⟩)⟩
        have ht := hg.top c hc
        have hgx : Sk.getE (m3.H c).t.K.E (m.H c).t.K.nsd = some x := by rw [eHc, et]; exact co.get
        obtain ⟨rfl, ib, hia, os⟩ := hI.yes x hgx
        have hia' : InAt w4 ib (infoC (connectT k.tk rh rp (m.H c).t).t x) := by rw [eHc, et] at hia; exact hia
        have hk2 := co.kind
        have hp0 := co.par
        refine Bm.neg (decide_eq_false (by omega)) (Bm.neg rfl (LdI.mk os rfl (Bm.neg (by rw [hk2]; rfl) (LdI.mk os rfl ?_))))
        show hostlaw_World_Connect.B5 _ _ _ _ _ _ _ _ (x.1.par != 0) _ _
        rw [hp0]
        exact conTail hg h0 hn hc co (h3.ext0 e4) hH hJ kr hM3 hO3 (f3.ext0 e4) (by omega) eF u3 v3 os hia' hR
      refine Pn.mk (h2.ldQu (Bm.mk (fun hq0 => ?_) fun hq0 => ?_))
      · have hq : m.qu = true := hq0
        have eJ := hg.tw hq c hc
        have hh3 : HostAt w2 (m.BQ c) (m.H c) := by have := h2.h.J hq c hc; rw [← eJ]; exact this
        refine Pn.mk ⟨⟨by omega, by omega⟩, h2.ldQ hc hq (connect_ok hh3 ok (by omega) ?_)⟩
        rw [hclk]
        refine ⟨fun z => absurd e1 z, fun _ => fun b2 l2 cc2 F2 w3 fr3 eF20 hh4 he4 => ?_⟩
        have h4 := h2.twin hc hq hh4 he4
        have eF2 : F2.map (·.1) = (callH (m.H c) (connectT k.tk rh rp (m.H c).t)).2 := by simpa using eF20
        have eFF : F.map (·.1) = F2.map (·.1) := by rw [eF, eF2]
        have fr2a := fr2.keepT he4 hh3.tys (by decide) (by decide)
        have hF2l : l2 ≤ 36 := by
          have h1 := congrArg List.length eFF
          have := fr2.len
          have := fr3.len
          simp at h1
          omega
        rw [co.v]
        have z2 := he2.size
        refine Bm.neg (bne_self' _) (Bm.neg rfl (sameFrames_ok fr2a fr3 eFF (by omega) (fun e he => by have := hsm e he; omega) fun w4 e4 => ?_))
        unfold hostlaw_World_Connect.B4
        have ff2 := h2.freshF fr3
        refine Bm.neg rfl (own2_ok (h4.ext0 e4) (fr2a.ext0 e4) (fr3.ext0 e4) (by omega) (fun e he => fr2.lt e he) (fun y hy => fr2.row.lt y hy) (by omega) (by omega) (by omega) ff.1 ff.2 (fun e he => ⟨ff2.1 e he, ?_⟩) ff2.2 fun r5 w5 h5 kr m5 o5 fr5 u5 v5 _ => Bm.neg (by rw [hw, hcon]; rfl) (Bm.neg rfl (tail h5 rfl (fun _ => ⟨hq, rfl⟩) kr (by omega) (by omega) fr5 u5 v5)))
        have := co.sm e.1 (by rw [← eF2]; exact List.mem_map.2 ⟨e, he, rfl⟩)
        omega
      · have hq : m.qu = false := hq0
        refine Bm.neg (by rw [hw, hcon]; rfl) (Bm.neg rfl (tail h2 rfl (fun z => ?_) (KeepR.refl r) (by omega) (by omega) fr2 ff.1 ff.2))
        have z' : m.qu = true := z
        rw [hq] at z'
        cases z'
    · -- it fails
      have ev := connectA_v0 hcon k.tk (m.H c).t rfl
      rw [ev]
      refine ⟨fun _ w2 hh2 he2 => ?_, fun z => absurd z hcon⟩
      have h2 : LawAt w0 w2 a m r k := by have := h1.host hc hh2 he2; rw [show (m.setH c { m.H c with t := (m.H c).t }) = m from setH_same m c] at this; exact this
      show Pn _ _
      refine Pn.mk (h2.ldQu (Bm.mk (fun hq => ?_) fun hq => ?_))
      · have eJ := hg.tw hq c hc
        have hh3 : HostAt w2 (m.BQ c) (m.H c) := by have := h2.h.J hq c hc; rw [← eJ]; exact this
        refine Pn.mk ⟨⟨by omega, by omega⟩, h2.ldQ hc hq (connect_ok hh3 ok (by omega) ?_)⟩
        rw [hclk, ev]
        refine ⟨fun _ w3 hh4 he4 => ?_, fun z => absurd z hcon⟩
        have h4 : LawAt w0 w3 a m r k := by
          have := h2.twin hc hq hh4 he4
          rw [show (m.setJ c { m.H c with t := (m.H c).t }) = m from by have := setJ_same m c; rw [eJ] at this; exact this] at this
          exact this
        refine Bm.neg (bne_self' _) (Bm.neg (bne_self' _) (sameFrames_ok (F := []) (G := []) (FrL.nil w3 0) (FrL.nil w3 0) rfl (by omega) (fun e he => by cases he) fun w4 e4 => ?_))
        unfold hostlaw_World_Connect.B4
        refine Bm.neg rfl (ownAll_ok (h4.ext0 e4) (F := []) (lo := w0.heap.size) (FrL.nil w4 _) (Nat.le_refl _) (by omega) (by omega) (by omega) (fun e he => by cases he) (fun y hy => by cases hy) fun r5 w5 h5 m5 o5 ow => ?_)
        refine Bm.neg (by rw [hw]; exact bne_self' _) (Bm.pos (by simpa using hcon) (Bm.pos rfl ?_))
        exact hR m r5 k w5 h5 (md0 ow.kr (by omega) (by omega))
      · refine Bm.neg (by rw [hw]; exact bne_self' _) (Bm.pos (by simpa using hcon) (Bm.pos rfl ?_))
        exact hR m r k w2 h2 (md0 (KeepR.refl r) (by omega) (by omega))
  -- what is wanted
  have hwant := connectA_want rh rp (m.H c).t.K
  by_cases hr1 : rh < 1 ∨ 255 < rh
  · rw [if_pos hr1] at hwant
    by_cases h1 : rh < 1
    · refine Bm.pos (decide_eq_true h1) ?_
      unfold hostlaw_World_Connect.B1
      exact Bm.pos rfl (b2 hL hwant.symm)
    · refine Bm.neg (decide_eq_false h1) ?_
      unfold hostlaw_World_Connect.B1
      exact Bm.pos (decide_eq_true (by omega)) (b2 hL hwant.symm)
  · rw [if_neg hr1] at hwant
    refine Bm.neg (decide_eq_false (by omega)) ?_
    unfold hostlaw_World_Connect.B1
    refine Bm.neg (decide_eq_false (by omega)) ?_
    by_cases hp1 : rp < 1 ∨ 15 < rp
    · rw [if_pos hp1] at hwant
      by_cases h1 : rp < 1
      · refine Bm.pos (decide_eq_true h1) ?_
        unfold hostlaw_World_Connect.B3
        exact Bm.pos rfl (b2 hL hwant.symm)
      · refine Bm.neg (decide_eq_false h1) ?_
        unfold hostlaw_World_Connect.B3
        exact Bm.pos (decide_eq_true (by omega)) (b2 hL hwant.symm)
    · rw [if_neg hp1] at hwant
      refine Bm.neg (decide_eq_false (by omega)) ?_
      unfold hostlaw_World_Connect.B3
      refine Bm.neg (decide_eq_false (by omega)) (count_ok hL hc ok hsn fun w1 e1 => ?_)
      by_cases z : Sk.lowE (m.H c).t.K.E = -1
      · rw [if_pos z] at hwant
        rw [(con4 ok.sk).2 z]
        exact Bm.pos rfl (b2 (hL.ext0 e1) hwant.symm)
      · rw [if_neg z] at hwant
        refine Bm.neg ?_ (b2 (hL.ext0 e1) hwant.symm)
        have : ¬ ((m.H c).t.K.E.filter fun x => decide (x.1.kind = 2)).length = 4 := fun y => z ((con4 ok.sk).1 y)
        simp
        omega
end
end Go.Proofs.Qxb6500424aGreat
