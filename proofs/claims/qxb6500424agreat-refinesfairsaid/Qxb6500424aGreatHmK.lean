/-
  hostlaw: Look, all of it.
-/
import Derived.Test.Qxb6500424aGreatHmJ
set_option linter.unusedVariables false
set_option linter.unusedSimpArgs false
open Go.Vc
namespace Go.Proofs.Qxb6500424aGreat
section
variable {w0 w w' : World} {a c : Nat} {m : LH} {r : LR} {k : LC} {n : Int} {T : Int} {G : List GE} {X : Nat → CS} {Lg : List LE} {i s ib lb q ln : Nat} {g : GE} {ar : Sk.AE} {L : List Int} {K0 : Nat → Sk.SkS}
theorem lookTo_len {E : Nat → List Sk.AE} (h : ∀ c, c < 3 → (E c).length ≤ 6) : ∀ (c : Nat) (R : List Wt), c ≤ 3 → (lookTo E c R).length ≤ R.length + 6 * c
  | 0, R, _ => by simp [lookTo]
  | c + 1, R, hc => by
    have h1 := lookTo_len h c R (by omega)
    have h2 := lookR_len (c := c) (E c) (lookTo E c R)
    have h3 := h c (by omega)
    show (lookR c (E c) (lookTo E c R)).length ≤ _
    omega
/-- All rows of one host, then its list, then the ends that have gone. -/
theorem lookHost {N0 : List PE} {N1 : Option Addr → Int → World → Prop} {R : Bool → World → Prop} (hL : LawAt w0 w a m r k) (hs : Sys T (fun d => (m.H d).t) G X Lg) (hI : LookJ G X r.del N0 (r.N.map (·.E))) (hG : GB0 n G) (hn : n ≤ 4398046510000) (hc : c < 3) (ok : HsOk n (m.H c)) (hb : (r.R.length : Int) ≤ n + 100) (hIn : (r.I.n : Int) ≤ n + 100)
    (hD : ∀ d, d < c → HDone G X (r.N.map (·.E)) d ∧ LDone G X (r.N.map (·.E)) d)
    (hk0 : Sk.SkOk (K0 c)) (hsn : r.sn c = sdsE (K0 c).E) (htop : k.top c < (K0 c).nsd) (hst : ∃ s, KStep s (K0 c) (m.H c).t.K)
    (hN : ∀ N' I' b cc sb' sc' top' w', LawAt w0 w' a m { r with N := N', I := I', R := lookR c (m.E c) r.R, rb := b, rc := cc, sb := sb', sn := fun d => if d = c then sdsE (m.E c) else r.sn d, sc := sc' } { k with top := top' } → LookJ G X r.del N0 (N'.map (·.E)) → (∀ d, d < c + 1 → HDone G X (N'.map (·.E)) d ∧ LDone G X (N'.map (·.E)) d) → top' c < (m.H c).t.K.nsd → (∀ d, d ≠ c → top' d = k.top d) → I'.n ≤ r.I.n + 1 → N1 (some ⟨a, 0, none⟩) (IntKind.i64.wrap ((c : Int) + 1)) w') :
    hostlaw_World_Look.B1 (some ⟨a, 0, none⟩) (c : Int) (some ⟨(m.BH c).hp, 0, none⟩) w N1 R := by
  unfold hostlaw_World_Look.B1
  have hE6 := rows6' ok.sk
  have hK6 := rows6' hk0
  obtain ⟨sx, ks⟩ := hst
  refine socks_ok (hL.h.H c hc) ok fun sb w1 hsb hs1 e1 => ?_
  have hlen : (sdsE (m.H c).t.K.E).length = (m.H c).t.K.E.length := by simp [sdsE]
  have hsnl : (r.sn c).length ≤ 6 := by rw [hsn]; simp [sdsE]; exact hK6
  refine copyInts_ok (iat_row hs1) (by omega) fun lb w2 hlb hl2 e2 => ?_
  have h2 := hL.ext0 (e1.trans e2)
  have hs2 := hs1.ext e2 (by simp)
  have z1 := e1.size
  have z2 := e2.size
  have hz := hL.sz
  have hlbl := hl2.lt
  have nIF : ¬ IF r sb := fun z => (hL.r.fresh hsb).2.2 z
  refine lawOwnInts_ok h2 (by show r.I.n ≤ _; omega) hs2 nIF (by omega) rfl (by omega) fun I' w3 h3 n3 k3 e3 => ?_
  have hl3 : Sk.IAt w3 lb (sdsE (m.H c).t.K.E) := hl2.ext e3 (fun z => by
    rcases List.mem_cons.1 z with z | z
    · have := hs1.lt; omega
    rcases List.mem_cons.1 z with z | z
    · have := hL.own.lt; omega
    · have := hL.r.I.row.lt lb z; omega)
  rw [hlen]
  generalize hln : (m.H c).t.K.E.length = ln at *
  unfold hostlaw_World_Look.L2
  have top0 : ∀ b ∈ (m.H c).t.K.E, b.1.sd ∉ r.sn c → k.top c < b.1.sd := fun b hb hnin => by
    rcases ks.sd b hb with ⟨a0, h0, e0⟩ | z
    · exfalso
      apply hnin
      rw [hsn]
      exact List.mem_map.2 ⟨a0, h0, e0⟩
    · omega
  refine ⟨fun mm a' c' h0' b' l' cc' i w' => ∃ (q : Nat) (N' : List PEM) (rb' : Option Addr) (rc' : Nat) (top' : Nat → Int), q ≤ ln ∧ mm = ln - q ∧ some ⟨a, 0, none⟩ = a' ∧ (c : Int) = c' ∧ some ⟨(m.BH c).hp, 0, none⟩ = h0' ∧ some ⟨lb, 0, none⟩ = b' ∧ ln = l' ∧ ln = cc' ∧ i = (q : Int) ∧ LawAt w0 w' a m { r with N := N', I := I', R := lookR c ((m.E c).take q) r.R, rb := rb', rc := rc' } { k with top := top' } ∧ Sk.IAt w' lb (sdsE (m.H c).t.K.E) ∧ LookJ G X r.del N0 (N'.map (·.E)) ∧ (∀ d, d < c → HDone G X (N'.map (·.E)) d ∧ LDone G X (N'.map (·.E)) d) ∧ (∀ b ∈ (m.E c).take q, b.1.kind = 2 → ∀ i g, RowOk c (m.H c).t G X b i g → DoneAt G X (N'.map (·.E)) i) ∧ top' c < (m.H c).t.K.nsd ∧ (∀ d, d ≠ c → top' d = k.top d) ∧ (∀ b ∈ (m.E c).drop q, b.1.sd ∉ r.sn c → top' c < b.1.sd), ln,
    ⟨0, r.N, r.rb, r.rc, k.top, by omega, rfl, rfl, rfl, rfl, rfl, rfl, rfl, rfl, h3, hl3, hI, hD, fun b hb => by simp at hb, by have := ks.nsd; omega, fun d _ => rfl, fun b hb => top0 b (List.mem_of_mem_drop hb)⟩, ?_⟩
  rintro mm a' c' h0' b' l' cc' i w' ⟨q, N', rb', rc', top', hq, rfl, rfl, rfl, rfl, rfl, rfl, rfl, rfl, h', hl', hI', hD', hdn, ht1, ht2, ht3⟩
  have hlr : (lookR c ((m.E c).take q) r.R).length ≤ r.R.length + 6 := by
    have h1 := lookR_len (c := c) ((m.E c).take q) r.R
    have h2 : ((m.E c).take q).length ≤ ln := by rw [List.length_take]; unfold LH.E; omega
    omega
  by_cases hlt : q < ln
  · obtain ⟨ar, har⟩ : ∃ ar, (m.H c).t.K.E[q]? = some ar := ⟨_, List.getElem?_eq_getElem (by omega)⟩
    have har' : (m.E c)[q]? = some ar := har
    have hdr : (m.E c).drop q = ar :: (m.E c).drop (q + 1) := by
      rw [List.drop_eq_getElem_cons (show q < (m.E c).length by unfold LH.E; omega), (List.getElem?_eq_some_iff.1 har').2]
    refine lookRow h' hs hI'.toLookI hG (by omega) hc ok hl' hln har (by show (lookR c ((m.E c).take q) r.R).length ≤ _; omega) (by show (r.sn c).length ≤ _; omega) (fun z => ht3 ar (by rw [hdr]; exact List.mem_cons_self ..) z) fun N2 b2 cc2 top2 w2 h2 rd tt t2 => ?_
    have etk : (m.E c).take (q + 1) = (m.E c).take q ++ [ar] := by rw [List.take_add_one, har']; rfl
    have hR2 : look1R c ar (lookR c ((m.E c).take q) r.R) = lookR c ((m.E c).take (q + 1)) r.R := by rw [etk, lookR_snoc]
    have hsdl := (ok.sk.ei.sd ar (List.mem_of_getElem? har)).2
    have asc := List.pairwise_iff_getElem.1 ok.sk.asc
    have hgt : ∀ b ∈ (m.E c).drop (q + 1), ar.1.sd < b.1.sd := fun b hb => by
      obtain ⟨j, hj⟩ := List.mem_iff_getElem?.1 hb
      rw [List.getElem?_drop] at hj
      have hj' : (m.H c).t.K.E[q + 1 + j]? = some b := hj
      have hp := asc q (q + 1 + j) (by omega) (List.getElem?_eq_some_iff.1 hj').1 (by omega)
      rw [(List.getElem?_eq_some_iff.1 hj').2, (List.getElem?_eq_some_iff.1 har).2] at hp
      have hp' : ar.1.sd.toNat < b.1.sd.toNat := hp
      have := (ok.sk.ei.sd ar (List.mem_of_getElem? har)).1
      omega
    have topc : top2 c < (m.H c).t.K.nsd ∧ (∀ d, d ≠ c → top2 d = k.top d) ∧ (∀ b ∈ (m.E c).drop (q + 1), b.1.sd ∉ r.sn c → top2 c < b.1.sd) := by
      rcases tt with rfl | ⟨rfl, _⟩
      · exact ⟨ht1, ht2, fun b hb => ht3 b (by rw [hdr]; exact List.mem_cons_of_mem _ hb)⟩
      · refine ⟨by rw [updI_at]; exact hsdl, fun d hd => by rw [updI_ne hd]; exact ht2 d hd, fun b hb _ => by rw [updI_at]; exact hgt b hb⟩
    have newN : LookJ G X r.del N0 (N2.map (·.E)) ∧ (∀ d, d < c → HDone G X (N2.map (·.E)) d ∧ LDone G X (N2.map (·.E)) d) ∧ (∀ b ∈ (m.E c).take (q + 1), b.1.kind = 2 → ∀ i g, RowOk c (m.H c).t G X b i g → DoneAt G X (N2.map (·.E)) i) := by
      by_cases hk2 : ar.1.kind = 2
      · obtain ⟨i, g, ro, sn⟩ := rd.con hk2
        refine ⟨⟨sn.look, hI'.wsn.trans sn.why⟩, fun d hd => ⟨(hD' d hd).1.seen sn ro.at_ (by rw [ro.h]; omega), (hD' d hd).2.seen sn⟩, fun b hb hbk i2 g2 ro2 => ?_⟩
        rw [etk] at hb
        rcases List.mem_append.1 hb with z | z
        · exact sn.old i2 (hdn b z hbk i2 g2 ro2)
        · rw [List.mem_singleton.1 z] at ro2
          have := (hs.tab c hc).uniq i i2 g g2 ro.at_ ro2.at_ ro.h ro2.h (by rw [ro.sd, ro2.sd])
          rw [← this]
          exact sn.done
      · rw [rd.lis hk2]
        refine ⟨hI', hD', fun b hb hbk => ?_⟩
        rw [etk] at hb
        rcases List.mem_append.1 hb with z | z
        · exact hdn b z hbk
        · rw [List.mem_singleton.1 z] at hbk
          exact absurd hbk hk2
    exact ⟨ln - (q + 1), by omega, q + 1, N2, b2, cc2, top2, by omega, rfl, rfl, rfl, rfl, rfl, rfl, rfl, by rw [w64 (by omega) (by omega)]; omega, by rw [← hR2]; exact h2, t2.own hl' (by decide), newN.1, newN.2.1, newN.2.2, topc⟩
  · have hql : q = ln := by omega
    subst hql
    have etk : (m.E c).take q = m.E c := List.take_of_length_le (by unfold LH.E; omega)
    rw [etk] at h' hdn
    unfold hostlaw_World_Look.L2b
    refine Bm.neg (decide_eq_false (by omega)) (Pn.mk ⟨⟨by omega, by omega⟩, h'.stSeen hc hl' (by rw [← hln]; simp [sdsE]) fun w4 hs4 h4 e4 => ?_⟩)
    have hl4 : Sk.IAt w4 lb (sdsE (m.H c).t.K.E) := hl'.ext e4 (fun z => by
      have : lb = a := by simpa using z
      exact Own.ne_type hl' h'.own (by decide) this)
    refine seam_ok h4 hc ok (by simp) fun w5 e5 => Bm.neg rfl ?_
    have hLc : LDone G X (N'.map (·.E)) c := fun i g hg hh hl => by
      obtain ⟨b, hb, hbk, hbs⟩ := (hs.tab c hc).end_ i g hg hh hl
      obtain ⟨i2, g2, ro⟩ := (hs.tab c hc).row b hb hbk
      have := (hs.tab c hc).uniq i i2 g g2 hg ro.at_ hh ro.h (by rw [ro.sd, hbs])
      rw [this]
      exact hdn b hb hbk i2 g2 ro
    refine lookGone (n := n) (h4.ext0 e5) hs hI' hG (by omega) hc (hl4.ext e5 (by simp)) hln hE6 hD' hLc fun N3 w6 h6 hI6 hD6 => ?_
    exact hN N3 I' rb' rc' _ _ top' w6 h6 hI6 hD6 ht1 ht2 n3
theorem look_okX {M : Nat → List DG} {R : Bool → World → Prop} (hL : LawAt w0 w a m r k) (hM : Mid n m r k K0) (pw : PW k.tk m.H (r.W.map (·.1)) G X Lg M) (hI : LookI G X r.del (r.N.map (·.E))) (hG : GB0 n G) (hn : n ≤ 4398046510000)
    (hR : ∀ r' k' w', LawAt w0 w' a m r' k' → Good (n + 50) m r' k' → r'.x = r.x → Rest G X (r'.N.map (·.E)) → r'.W = r.W → k'.sp = k.sp ∧ k'.tk = k.tk → Wsn G X (r.N.map (·.E)) (r'.N.map (·.E)) → R true w') : hostlaw_World_Look.Call (some ⟨a, 0, none⟩) w R := by
  apply hostlaw_World_Look.sound
  unfold hostlaw_World_Look.B0
  have hs := pw.sys
  refine Pn.mk (hL.ldB (v := k.fl) (by omega) rfl ?_)
  rw [hM.fl]
  refine Bm.neg rfl ?_
  have hE6 : ∀ c, c < 3 → (m.E c).length ≤ 6 := fun c hc => rows6' (hM.hs.ok c hc).sk
  have hcR := hM.cnt.R
  have hcI := hM.cnt.I
  unfold hostlaw_World_Look.L1
  refine ⟨fun mm a' cx w' => ∃ (c : Nat) (N' : List PEM) (I' : KL) (rb' : Option Addr) (rc' : Nat) (sb' : Nat → Option Addr) (sn' : Nat → List Int) (sc' : Nat → Nat) (top' lost' : Nat → Int), c ≤ 3 ∧ mm = 3 - c ∧ some ⟨a, 0, none⟩ = a' ∧ cx = (c : Int) ∧ LawAt w0 w' a m { r with N := N', I := I', R := lookTo m.E c r.R, rb := rb', rc := rc', sb := sb', sn := sn', sc := sc' } { k with top := top', lost := lost' } ∧ LookJ G X r.del (r.N.map (·.E)) (N'.map (·.E)) ∧ (∀ d, d < c → HDone G X (N'.map (·.E)) d ∧ LDone G X (N'.map (·.E)) d) ∧ (∀ d, d < 3 → (d < c → sn' d = sdsE (m.E d) ∧ top' d < (m.H d).t.K.nsd ∧ lost' d = (m.H d).lost) ∧ (c ≤ d → sn' d = r.sn d ∧ top' d = k.top d ∧ lost' d = k.lost d)) ∧ I'.n ≤ r.I.n + c, 3,
    ⟨0, r.N, r.I, r.rb, r.rc, r.sb, r.sn, r.sc, k.top, k.lost, by omega, rfl, rfl, rfl, hL, ⟨hI, Wsn.refl _ _ _⟩, fun d hd => by omega, fun d hd => ⟨fun z => by omega, fun _ => ⟨rfl, rfl, rfl⟩⟩, by omega⟩, ?_⟩
  rintro mm a' cx w' ⟨c, N', I', rb', rc', sb', sn', sc', top', lost', hc3, rfl, rfl, rfl, h', hI', hD', hper, hIn⟩
  unfold hostlaw_World_Look.L1b
  have hlt := lookTo_len hE6 c r.R hc3
  refine Bm.ite (fun hlt3 => ?_) fun hge3 => ?_
  · have hc : c < 3 := by omega
    have ok := hM.hs.ok c hc
    obtain ⟨p1, p2, p3⟩ := (hper c hc).2 (Nat.le_refl _)
    have hcs := chk_of hs hc (h := m.H c) rfl
    refine Pn.mk ⟨⟨by omega, by omega⟩, h'.ldH hc (check_ok (h'.h.H c hc) ok hcs fun w1 e1 => Bm.neg rfl ?_)⟩
    have h1 := (h'.ext0 e1).drew
    have hclk := (pw.lk c hc).clk
    refine Pn.mk (h1.ldI (v := k.tk) (by omega) rfl (clock_ok (h1.h.H c hc) ⟨?_, ?_⟩))
    · rw [addA]
      exact h1.own.cell (by rw [fnArr_get _ (by omega)]; rfl)
    rw [hclk]
    refine Bm.neg (bne_self' _) (lost_ok (h1.h.H c hc) (Pn.mk ⟨⟨by omega, by omega⟩, h1.ldLost hc ?_⟩))
    show Bm (decide ((m.H c).lost < lost' c)) _ _
    rw [p3]
    obtain ⟨hl1, hl2⟩ := hM.lost c hc
    refine Bm.neg (decide_eq_false (by omega)) (Pn.mk ⟨⟨by omega, by omega⟩, h1.ldLost hc ?_⟩)
    show Bm (decide ((m.H c).lost > lost' c)) _ _
    rw [p3]
    have fin : ∀ {w2 : World} {lost2 : Nat → Int}, LawAt w0 w2 a m { r with N := N', I := I', R := lookTo m.E c r.R, rb := rb', rc := rc', sb := sb', sn := sn', sc := sc' } { k with top := top', lost := lost2 } → lost2 c = (m.H c).lost → (∀ d, d ≠ c → lost2 d = lost' d) → hostlaw_World_Look.B1 (some ⟨a, 0, none⟩) (c : Int) (some ⟨(m.BH c).hp, 0, none⟩) w2 (fun a' cx w' => ∃ m', m' < 3 - c ∧ ∃ (c : Nat) (N' : List PEM) (I' : KL) (rb' : Option Addr) (rc' : Nat) (sb' : Nat → Option Addr) (sn' : Nat → List Int) (sc' : Nat → Nat) (top' lost' : Nat → Int), c ≤ 3 ∧ m' = 3 - c ∧ some ⟨a, 0, none⟩ = a' ∧ cx = (c : Int) ∧ LawAt w0 w' a m { r with N := N', I := I', R := lookTo m.E c r.R, rb := rb', rc := rc', sb := sb', sn := sn', sc := sc' } { k with top := top', lost := lost' } ∧ LookJ G X r.del (r.N.map (·.E)) (N'.map (·.E)) ∧ (∀ d, d < c → HDone G X (N'.map (·.E)) d ∧ LDone G X (N'.map (·.E)) d) ∧ (∀ d, d < 3 → (d < c → sn' d = sdsE (m.E d) ∧ top' d < (m.H d).t.K.nsd ∧ lost' d = (m.H d).lost) ∧ (c ≤ d → sn' d = r.sn d ∧ top' d = k.top d ∧ lost' d = k.lost d)) ∧ I'.n ≤ r.I.n + c) R := fun {w2 lost2} h2 el1 el2 => by
      refine lookHost (n := n) (K0 := K0) h2 hs hI' hG hn hc ok (by show ((lookTo m.E c r.R).length : Int) ≤ _; omega) (by show (I'.n : Int) ≤ _; omega) hD' (hM.k0 c hc) (by show sn' c = _; rw [p1]; exact hM.seen c hc) (by show top' c < _; rw [p2]; exact hM.top c hc) (hM.kst c hc) fun N3 I3 b3 cc3 sb3 sc3 top3 w3 h3 hI3 hD3 t1 t2 n3 => ?_
      refine ⟨3 - (c + 1), by omega, c + 1, N3, I3, b3, cc3, sb3, _, sc3, top3, lost2, by omega, rfl, rfl, by rw [w64 (by omega) (by omega)]; omega, h3, hI3, hD3, fun d hd => ⟨fun z => ?_, fun z => ?_⟩, by have : I3.n ≤ I'.n + 1 := n3; omega⟩
      · by_cases e : d = c
        · subst e
          exact ⟨by simp, t1, el1⟩
        · obtain ⟨q1, q2, q3⟩ := (hper d hd).1 (by omega)
          refine ⟨by simp [e, q1], by rw [t2 d e]; exact q2, by rw [el2 d e]; exact q3⟩
      · have e : d ≠ c := by omega
        obtain ⟨q1, q2, q3⟩ := (hper d hd).2 (by omega)
        exact ⟨by simp [e, q1], by rw [t2 d e]; exact q2, by rw [el2 d e]; exact q3⟩
    refine Bm.ite (fun z => ?_) fun z => ?_
    · have hcr := hl2 (by omega)
      have ho := hM.out c hc
      rw [hcr] at ho
      refine Pn.mk ⟨⟨by omega, by omega⟩, h1.ldOut hc ?_⟩
      show Bm (k.out c != 24) _ _
      rw [ho]
      refine Bm.neg rfl (Pn.mk ⟨⟨by omega, by omega⟩, h1.stLost hc fun w2 hs2 h2 e2 => ?_⟩)
      exact fin h2 (updI_at _ _ _) (fun d hd => updI_ne hd)
    · exact fin h1 (by rw [p3]; omega) (fun d _ => rfl)
  · have hc : c = 3 := by omega
    subst hc
    have rl := ready_look (K := K0) (K' := fun c => (m.H c).t.K) (R := r.R) hM.k0 (fun c hc => (hM.hs.ok c hc).sk) hM.kst hM.rdy hM.rlt
    have h3' : ∀ x ∈ lookTo m.E 3 r.R, x.1 < 3 := by
      have sp : ∀ (c : Nat), c ≤ 3 → ∀ x ∈ lookTo m.E c r.R, x.1 < 3 := fun c => by
        induction c with
        | zero => exact fun _ => hM.rlt
        | succ c ih =>
          intro hc x hx
          obtain ⟨⟨Lx, eL, hLx, _⟩, _⟩ := lookR_spec (c := c) (m.E c) (lookTo m.E c r.R)
          have hx' : x ∈ lookR c (m.E c) (lookTo m.E c r.R) := hx
          rw [eL] at hx'
          rcases List.mem_append.1 hx' with z | z
          · exact ih (by omega) x z
          · have := (hLx x z).1; omega
      exact sp 3 (by omega)
    refine sweep_ok (n := n) h' hM.hs (by show (lookTo m.E 3 r.R).length ≤ _; omega) h3' fun b cc w2 h2 t2 => ?_
    have hsl : (sweepR m.E (lookTo m.E 3 r.R)).length ≤ (lookTo m.E 3 r.R).length := List.length_filter_le _ _
    have hrest : Rest G X (N'.map (·.E)) := by
      have hlen : (N'.map (·.E)).length = G.length := by
        rcases hI'.len with z | ⟨z, y, p, fr⟩
        · exact z
        · exfalso
          have hh := hs.hlt _ y fr.at_
          obtain ⟨E, g, h1, h2, _⟩ := (hD' y.h (by omega)).2 _ y fr.at_ rfl fr.gone
          rw [List.getElem?_eq_none (Nat.le_refl _)] at h1
          cases h1
      refine ⟨hlen, fun i E g hE hg => ?_⟩
      have hh := hs.hlt i g hg
      obtain ⟨E', g', h1, h2, dn⟩ := (hD' g.h (by omega)).1 i g hg rfl (List.getElem?_eq_some_iff.1 hE).1
      rw [hE] at h1
      rw [hg] at h2
      cases h1
      cases h2
      exact dn
    have hc := hM.cnt
    refine hR _ _ w2 h2 ?_ rfl hrest rfl ⟨rfl, rfl⟩ hI'.wsn
    refine ⟨⟨G, X, Lg, M, pw, hrest, ⟨by have := hG.len; omega, fun i g hg => by have := hG.S i g hg; omega⟩⟩, ⟨fun c hc => (hM.hs.ok c hc).mono (by omega), hM.hs.why⟩, hM.tw, fun c hc => ((hper c hc).1 hc).1, fun c hc => ((hper c hc).1 hc).2.1, fun c hc => ((hper c hc).1 hc).2.2, hM.out, hM.fl, rl.1, rl.2, ?_⟩
    exact ⟨by show ((sweepR m.E (lookTo m.E 3 r.R)).length : Int) ≤ _; omega, by show (I'.n : Int) ≤ _; omega, by have := hc.O; show (r.O.n : Int) ≤ _; omega, by have := hc.M; show (r.M.n : Int) ≤ _; omega, by have := hc.sp; show 0 ≤ k.sp ∧ k.sp ≤ _; omega, by have := hc.tk; show 0 ≤ k.tk ∧ k.tk ≤ _; omega, fun c h => by have := hc.del c h; show 0 ≤ r.del c ∧ r.del c ≤ _; omega, hc.age⟩
theorem look_ok {R : Bool → World → Prop} (hL : LawAt w0 w a m r k) (hM : Mid n m r k K0) (hn : n ≤ 4398046510000)
    (hR : ∀ r' k' w', LawAt w0 w' a m r' k' → Good (n + 50) m r' k' → r'.x = r.x → R true w') : hostlaw_World_Look.Call (some ⟨a, 0, none⟩) w R := by
  obtain ⟨G, X, Lg, M, pw, hI, hG⟩ := hM.pw
  exact look_okX hL hM pw hI hG hn fun r' k' w' a b c _ _ _ _ => hR r' k' w' a b c
end
end Go.Proofs.Qxb6500424aGreat
