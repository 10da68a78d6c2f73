/-
  connlaw: Seam, LikeInfo, LikePeek, Alike; both sides called; Feed, Passive.
-/
import Derived.Test.Qxb6500422aGreatCnR
set_option linter.unusedVariables false
set_option linter.unusedSimpArgs false
open Go.Vc
namespace Go.Proofs.Qxb6500422aGreat
section
variable {w0 w : World} {a : Nat} {D : DS} {K : KS} {dr : Hd} {qu : Bool} {N c : Nat}
theorem likeInfo_ok {R : Bool → World → Prop} (hc : c < 2) (h : LX w0 w a D K dr qu N) (hR : ∀ w', Ext [] w w' → R true w') : connlaw_World_LikeInfo.Call (some ⟨a, 0, none⟩) (c : Int) w R := by
  apply connlaw_World_LikeInfo.sound
  unfold connlaw_World_LikeInfo.B0
  have ok := h.duo.ok c hc
  refine Pn.mk ⟨⟨by omega, by omega⟩, h.ldX hc (cInfo_ok (h.duo.cr c hc) ok.S ok.B fun x w1 hx i1 he1 => Pn.mk ⟨⟨by omega, by omega⟩, (h.ext0 he1).ldM hc (mInfo_ok ((h.ext0 he1).duo.mm c hc) ok.S fun y w2 hy i2 he2 => ?_)⟩)⟩
  exact sameInfo_ok (he2.own i1 (by simp)) i2 fun w3 he3 => hR w3 ((he1.trans he2).trans he3)
theorem likePeek_ok {R : Bool → World → Prop} (hc : c < 2) (h : LX w0 w a D K dr qu N) (hN : N ≤ 999999900) (hR : ∀ K' w', LX w0 w' a D K' dr qu (N + 3) → R true w') : connlaw_World_LikePeek.Call (some ⟨a, 0, none⟩) (c : Int) w R := by
  apply connlaw_World_LikePeek.sound
  unfold connlaw_World_LikePeek.B0
  have ok := h.duo.ok c hc
  have l1 := ok.S.len
  have l2 := ok.B.len
  have hsz := h.sz
  refine Pn.mk ⟨⟨by omega, by omega⟩, h.ldX hc (cPeek_ok (h.duo.cr c hc) ok.S ok.B fun k1 k2 k3 w1 hk1 hk12 hk23 b1 b2 i3 he1 => Pn.mk ⟨⟨by omega, by omega⟩, (h.ext0 he1).ldM hc (mPeek_ok ((h.ext0 he1).duo.mm c hc) ok.S ok.B fun q1 q2 q3 w2 hq1 hq2 hq3 e1 e2 e3 he2 => ?_)⟩)⟩
  refine sameBytes_ok (b1.ext0 he2).rd0 e1.rd0 rfl rfl (by omega) fun w3 he3 _ => ?_
  rw [decide_eq_true rfl]
  refine Bm.neg rfl (sameBytes_ok ((b2.ext0 he2).ext0 he3).rd0 (e2.ext0 he3).rd0 rfl rfl (by omega) fun w4 he4 _ => ?_)
  rw [decide_eq_true rfl]
  refine Bm.neg rfl (sameInts_ok (L := aheadL ((D.C c).B)) (((i3.ext he2 (by simp)).ext he3 (by simp)).ext he4 (by simp)) ((e3.ext he3 (by simp)).ext he4 (by simp)) (aheadL_len _) (by omega) fun w5 he5 => ?_)
  have E5 : Ext [] w1 w5 := ((he2.trans he3).trans he4).trans he5
  have h5 := h.ext0 (he1.trans E5)
  have f1 : ¬ LF a D K k1 := h.fresh hk1
  have f2 : ¬ LF a D K k2 := h.fresh (by omega)
  have f3 : ¬ LF a D K k3 := h.fresh (by omega)
  have z1 := (b1.ext0 E5).lt
  have z2 := (b2.ext0 E5).lt
  have i5 : Own w5 k3 _ T_int := E5.own i3 (by simp)
  have z3 := i5.lt
  refine lawOwn_ok h5 (by omega) (b1.ext0 E5) f1 (by omega) rfl (by omega) fun M1 w6 h6 g6 wr6 => ?_
  have hz6 := wr6.size
  have b26 : Bf w6 k2 _ := wr6.bf (b2.ext0 E5) (fun q => q.elim (fun e => by omega) (fun u => f2 u.1))
  have i6 := wr6.own i5 (fun q => q.elim (fun e => by omega) (fun u => f3 u.1))
  have f26 : ¬ LF a D { K with M := M1 } k2 := fun q => by
    rcases g6 _ q with z | z | z
    · exact f2 z
    · omega
    · omega
  have f36 : ¬ LF a D { K with M := M1 } k3 := fun q => by
    rcases g6 _ q with z | z | z
    · exact f3 z
    · omega
    · omega
  refine lawOwn_ok h6 (by omega) b26 f26 (by omega) rfl (by omega) fun M2 w7 h7 g7 wr7 => ?_
  have i7 := wr7.own i6 (fun q => q.elim (fun e => by omega) (fun u => f36 u.1))
  have f37 : ¬ LF a D { K with M := M2 } k3 := fun q => by
    rcases g7 _ q with z | z | z
    · exact f36 z
    · omega
    · omega
  exact lawOwnInts_ok (L := aheadL ((D.C c).B)) h7 (by omega) i7 f37 (by omega) (aheadL_len _) (by omega) fun I' w8 h8 => hR _ w8 h8
theorem seam_ok {R : Bool → World → Prop} (hc : c < 2) (h : LX w0 w a D K dr qu N) (hR : ∀ w', Ext [] w w' → R true w') : connlaw_World_Seam.Call (some ⟨a, 0, none⟩) (c : Int) w R := by
  apply connlaw_World_Seam.sound
  unfold connlaw_World_Seam.B0
  have ok := h.duo.ok c hc
  have l1 := ok.S.len
  have l2 := ok.B.len
  refine Pn.mk ⟨⟨by omega, by omega⟩, h.ldM hc (mPeek_ok (h.duo.mm c hc) ok.S ok.B fun q1 q2 q3 w1 hq1 hq2 hq3 e1 e2 e3 he1 => Pn.mk ⟨⟨by omega, by omega⟩, (h.ext0 he1).ldP hc (sBytes_ok ((h.ext0 he1).duo.cr c hc).s ok.S fun k w2 hk b2 he2 => ?_)⟩)⟩
  refine sameBytes_ok (e1.ext0 he2).rd0 b2.rd0 rfl rfl (by omega) fun w3 he3 _ => ?_
  rw [decide_eq_true rfl]
  have E3 := (he1.trans he2).trans he3
  refine Bm.neg rfl (Pn.mk ⟨⟨by omega, by omega⟩, (h.ext0 E3).ldR hc (rBytes_ok ((h.ext0 E3).duo.cr c hc).b ok.B.toRbW fun k2 w4 hk2 b4 he4 => ?_)⟩)
  refine sameBytes_ok (((e2.ext0 he2).ext0 he3).ext0 he4).rd0 b4.rd0 rfl rfl (by omega) fun w5 he5 _ => ?_
  rw [decide_eq_true rfl]
  have E5 := (E3.trans he4).trans he5
  refine Bm.neg rfl (Pn.mk ⟨⟨by omega, by omega⟩, (h.ext0 E5).ldR hc (rAhead_ok ((h.ext0 E5).duo.cr c hc).b ok.B.toRbW fun k3 w6 hk3 i6 he6 => ?_)⟩)
  exact sameInts_ok (L := aheadL ((D.C c).B)) (((((e3.ext he2 (by simp)).ext he3 (by simp)).ext he4 (by simp)).ext he5 (by simp)).ext he6 (by simp)) i6 (aheadL_len _) (by omega) fun w7 he7 => hR w7 ((E5.trans he6).trans he7)
theorem alike_ok {R : Bool → World → Prop} (h : LX w0 w a D K dr qu N) (hN : N ≤ 999999800) (hR : ∀ K' w', LX w0 w' a D K' dr qu (N + 6) → R true w') : connlaw_World_Alike.Call (some ⟨a, 0, none⟩) w R := by
  apply connlaw_World_Alike.sound
  unfold connlaw_World_Alike.B0 connlaw_World_Alike.L1
  refine ⟨fun mm a' k w' => ∃ (n : Nat) (K' : KS), n ≤ 2 ∧ mm = 2 - n ∧ some ⟨a, 0, none⟩ = a' ∧ k = (n : Int) ∧ LX w0 w' a D K' dr qu (N + 3 * n), _, ⟨0, K, by omega, rfl, rfl, rfl, h⟩, ?_⟩
  rintro mm a' k w' ⟨n, K', hn, rfl, rfl, rfl, h'⟩
  unfold connlaw_World_Alike.L1b
  refine Bm.ite (fun hlt => ?_) fun hge => hR K' w' (h'.mono (by omega))
  have hn2 : n < 2 := by omega
  refine likeInfo_ok hn2 h' fun w1 he1 => Bm.neg rfl (likePeek_ok hn2 (h'.ext0 he1) (by omega) fun K2 w2 h2 => Bm.neg rfl (Pn.mk ⟨⟨by omega, by omega⟩, h2.ldX hn2 (cCheck_ok (h2.duo.cr n hn2) (h2.duo.ok n hn2) fun w3 he3 => Bm.neg rfl ?_)⟩))
  exact ⟨2 - (n + 1), by omega, n + 1, K2, by omega, rfl, rfl, by rw [w64 (by omega) (by omega)]; omega, (h2.ext0 he3).mono (by omega)⟩
/-! ### both sides called -/
structure Both (w0 w2 : World) (a : Nat) (D : DS) (K : KS) (dr : Hd) (qu : Bool) (N lo hi : Nat) (ab bb : Option Addr) (al ac bl bc : Nat) (A B : List (SegV × Nat)) : Prop where
  h : LX w0 w2 a D K dr qu N
  sa : SL w2 ab al ac lo A
  sb : SL w2 bb bl bc hi B
  hE : A.map (·.1) = B.map (·.1)
  hs : Short (A.map (·.1))
  hal : al ≤ 10
  hlo : w0.heap.size ≤ lo
  hlh : lo ≤ hi
  sep : ∀ e ∈ A, e.2 < hi
  fa : ∀ e ∈ A, ¬ LF a D K e.2
  far : ∀ k ∈ rowBlk ab, ¬ LF a D K k
  fbr : ∀ k ∈ rowBlk bb, ¬ LF a D K k
theorem Both.out {lo hi al ac bl bc : Nat} {ab bb : Option Addr} {A B : List (SegV × Nat)} {R : Bool → World → Prop} (q : Both w0 w a D K dr qu N lo hi ab bb al ac bl bc A B) (hN : N ≤ 999999900) (hR : ∀ D' K' w', LX w0 w' a D' K' dr qu (N + 21) → R true w') : connlaw_World_Out.Call (some ⟨a, 0, none⟩) ab al ac bb bl bc w R :=
  out_ok q.h hN q.sa q.sb q.hE q.hs q.hal q.hlo q.sep q.fa q.far q.fbr fun K' w' h' => hR D K' w' h'
theorem Both.ext0 {w' : World} {lo hi al ac bl bc : Nat} {ab bb : Option Addr} {A B : List (SegV × Nat)} (q : Both w0 w a D K dr qu N lo hi ab bb al ac bl bc A B) (he : Ext [] w w') : Both w0 w' a D K dr qu N lo hi ab bb al ac bl bc A B :=
  ⟨q.h.ext0 he, q.sa.ext0 he, q.sb.ext0 he, q.hE, q.hs, q.hal, q.hlo, q.hlh, q.sep, q.fa, q.far, q.fbr⟩
theorem Both.keep {w' : World} {k lo hi al ac bl bc : Nat} {ab bb : Option Addr} {A B : List (SegV × Nat)} (q : Both w0 w a D K dr qu N lo hi ab bb al ac bl bc A B) (he : Ext [k] w w') (h1 : w0.heap.size ≤ k) (h2 : k < lo) (h3 : ¬ LF a D K k) : Both w0 w' a D K dr qu N lo hi ab bb al ac bl bc A B :=
  ⟨q.h.keep he (fun y hy _ => by simp at hy; subst hy; exact h3) (fun y hy => by simp at hy; omega), q.sa.keep he (fun y hy => by simp at hy; omega), q.sb.keep he (fun y hy => by have := q.hlh; simp at hy; omega), q.hE, q.hs, q.hal, q.hlo, q.hlh, q.sep, q.fa, q.far, q.fbr⟩
/-- Between the two calls. -/
theorem mid {w1 : World} (hc : c < 2) (h : LX w0 w a D K dr qu N) (he1 : Ext [D.x c, D.p c, D.r c] w w1) : Own w1 a (lcells D K dr qu) T_connlaw_World ∧ MM w1 (D.m c) (D.X c) (D.C c) ∧ (∀ {b : Nat} {cs : Array Value} {t : TypeId}, Own w b cs t → t ∉ [T_conn_Conn, T_seg_SendBuf, T_seg_RecvBuf] → Own w1 b cs t) :=
  ⟨ownT he1 (h.duo.cr c hc).tys h.own (by decide), (h.duo.mm c hc).extT he1 (h.duo.cr c hc).tys (by decide), fun ho ht => ownT he1 (h.duo.cr c hc).tys ho ht⟩
theorem ownM {R : Option Addr → Prop} (hc : c < 2) (h : Own w a (lcells D K dr qu) T_connlaw_World) (hk : R (some ⟨D.m c, 0, none⟩)) : LdP (Addr.add (Addr.add ⟨a, 0, none⟩ 2) ((c : Int).toNat * 1)) w R := by
  rw [add_mk, addr_k]
  have : c = 0 ∨ c = 1 := by omega
  rcases this with rfl | rfl
  · exact LdP.mk h rfl hk
  · exact LdP.mk h rfl hk
theorem both_mk {w1 w2 wm : World} {C' : CS} {G : List SegV} {X' : MC} {al ac bl bc : Nat} {ab bb : Option Addr} {A B : List (SegV × Nat)} (hc : c < 2) (h : LX w0 w a D K dr qu N) (ok : CsOk C') (hs : Short G)
    (sa : SL w1 ab al ac w.heap.size A) (hA : A.map (·.1) = G) (cr : CnR w1 (D.x c) (D.p c) (D.r c) C') (he1 : Ext [D.x c, D.p c, D.r c] w w1) (hal : al ≤ 10) (hd : Ext [] w1 wm)
    (sb : SL w2 bb bl bc wm.heap.size B) (hB : B.map (·.1) = G) (mm : MM w2 (D.m c) X' C') (hb : ∀ k ∈ X'.blks, k ∈ (D.X c).blks ∨ wm.heap.size ≤ k) (he2 : Ext [D.m c] wm w2) :
    Both w0 w2 a (D.upd c C' X') K dr qu N w.heap.size wm.heap.size ab bb al ac bl bc A B ∧ (∀ y, LF a (D.upd c C' X') K y → LF a D K y ∨ wm.heap.size ≤ y) := by
  have hz1 := he1.size
  have hzd := hd.size
  have hm1 := (mid hc h he1).2.1.ext0 hd
  have tm : Tys wm [D.m c] [T_connm_Conn] := Tys.one hm1.own
  have grow : ∀ y, LF a (D.upd c C' X') K y → LF a D K y ∨ wm.heap.size ≤ y := fun y hy => by
    rcases hy with q | q | q
    · exact .inl (.inl q)
    · rcases DS.upd_foot hc q with q | q
      · exact .inl (.inr (.inl q))
      · rcases hb y q with z | z
        · exact .inl (.inr (.inl ⟨c, hc, .inr (.inr (.inr (.inr z)))⟩))
        · exact .inr z
    · exact .inl (.inr (.inr q))
  have hmlt := (h.duo.mm c hc).lt
  have sa2 : SL w2 ab al ac w.heap.size A := (sa.ext0 hd).keep he2 (fun y hy => by simp at hy; omega)
  refine ⟨⟨?_, sa2, sb, by rw [hA, hB], by rw [hA]; exact hs, hal, h.sz, by omega, fun e he => ?_, fun e he q => ?_, fun k hk q => ?_, fun k hk q => ?_⟩, grow⟩
  · refine h.turn hc ((cr.ext0 hd).extT he2 tm (by decide)) ok mm (fun k hk => (hb k hk).imp id (fun z => by omega)) ?_
    have e1 : Ext [D.x c, D.p c, D.r c, D.m c] w wm := (he1.mono (fun y hy _ => by simp only [List.mem_cons, List.not_mem_nil, or_false] at hy ⊢; rcases hy with q | q | q <;> simp [q])).trans hd.nil
    exact e1.trans (he2.mono (fun y hy _ => by simp at hy; simp [hy]))
  · have := (sa.dat e he).lt
    omega
  · have h1 := sa.ge e he
    have h2 := (sa.dat e he).lt
    rcases grow _ q with z | z
    · have := h.lt z; omega
    · omega
  · have h1 := sa.blk k hk
    have h2 := sa.row.lt k hk
    rcases grow _ q with z | z
    · have := h.lt z; omega
    · omega
  · have h1 := sb.blk k hk
    rcases q with q | q | q
    · have := h.lt (.inl q); omega
    · rcases DS.upd_foot hc q with q | q
      · have := h.lt (.inr (.inl q)); omega
      · obtain ⟨cs, ho⟩ := mm.blty q
        obtain ⟨cs', ho'⟩ := sb.row.ty hk
        exact Own.ne_type ho ho' (by decide) rfl
    · have := h.lt (.inr (.inr q)); omega
/-! ### a segment's copies -/
theorem ldSeg7 {s : Nat} {g : SegV} {k : Nat} {T : TypeId} {Q : Int → Int → Int → Int → Int → Int → Option Addr → Nat → Nat → Prop} (h : Own w s (segC (g, k)).toArray T) (hk : Q g.1.sp g.1.dp g.1.sq g.1.ak g.1.fl g.1.wn (some ⟨k, 0, none⟩) g.2.length g.2.length) :
    LdI .i64 ⟨s, 0, none⟩ w fun x0 => LdI .i64 ⟨s, 1, none⟩ w fun x1 => LdI .i64 ⟨s, 2, none⟩ w fun x2 => LdI .i64 ⟨s, 3, none⟩ w fun x3 => LdI .i64 ⟨s, 4, none⟩ w fun x4 => LdI .i64 ⟨s, 5, none⟩ w fun x5 => LdL ⟨s, 6, none⟩ w fun x6 x7 x8 => Q x0 x1 x2 x3 x4 x5 x6 x7 x8 :=
  LdI.mk h rfl (LdI.mk h rfl (LdI.mk h rfl (LdI.mk h rfl (LdI.mk h rfl (LdI.mk h rfl (LdL.mk h rfl hk))))))
theorem twoCopies {H : Hd} {b : Option Addr} {l cc : Nat} {V : List Int} {Q : Nat → Nat → World → Prop} (hD : Rd w b V) (hl : V.length = l) (hb : l ≤ 281474976710656)
    (hQ : ∀ s1 s2 k1 k2 w', w.heap.size ≤ s1 → w.heap.size ≤ s2 → w.heap.size ≤ k1 → w.heap.size ≤ k2 → k1 ≠ k2 → Own w' s1 (segC ((H, V), k1)).toArray T_api_Segment → Own w' s2 (segC ((H, V), k2)).toArray T_api_Segment → Bf w' k1 V → Bf w' k2 V → Ext [] w w' → Q s1 s2 w') :
    New (.cells #[.int .i64 H.sp, .int .i64 H.dp, .int .i64 H.sq, .int .i64 H.ak, .int .i64 H.fl, .int .i64 H.wn, .slice b l cc] 45) w fun s_ w1 =>
    LdI .i64 ⟨s_, 0, none⟩ w1 fun x0 => LdI .i64 ⟨s_, 1, none⟩ w1 fun x1 => LdI .i64 ⟨s_, 2, none⟩ w1 fun x2 => LdI .i64 ⟨s_, 3, none⟩ w1 fun x3 => LdI .i64 ⟨s_, 4, none⟩ w1 fun x4 => LdI .i64 ⟨s_, 5, none⟩ w1 fun x5 => LdL ⟨s_, 6, none⟩ w1 fun x6 x7 x8 =>
    connlaw_CopySeg.Call x0 x1 x2 x3 x4 x5 x6 x7 x8 w1 fun r0 r1 r2 r3 r4 r5 r6 r7 r8 w2 =>
    New (.cells #[.int .i64 0, .int .i64 0, .int .i64 0, .int .i64 0, .int .i64 0, .int .i64 0, .slice none 0 0] 45) w2 fun s1_ w3 =>
    Sts [.int .i64 r0, .int .i64 r1, .int .i64 r2, .int .i64 r3, .int .i64 r4, .int .i64 r5, .slice r6 r7 r8] ⟨s1_, 0, none⟩ 0 w3 fun w4 =>
    LdI .i64 ⟨s_, 0, none⟩ w4 fun x0 => LdI .i64 ⟨s_, 1, none⟩ w4 fun x1 => LdI .i64 ⟨s_, 2, none⟩ w4 fun x2 => LdI .i64 ⟨s_, 3, none⟩ w4 fun x3 => LdI .i64 ⟨s_, 4, none⟩ w4 fun x4 => LdI .i64 ⟨s_, 5, none⟩ w4 fun x5 => LdL ⟨s_, 6, none⟩ w4 fun x6 x7 x8 =>
    connlaw_CopySeg.Call x0 x1 x2 x3 x4 x5 x6 x7 x8 w4 fun r0 r1 r2 r3 r4 r5 r6 r7 r8 w5 =>
    New (.cells #[.int .i64 0, .int .i64 0, .int .i64 0, .int .i64 0, .int .i64 0, .int .i64 0, .slice none 0 0] 45) w5 fun s2_ w6 =>
    Sts [.int .i64 r0, .int .i64 r1, .int .i64 r2, .int .i64 r3, .int .i64 r4, .int .i64 r5, .slice r6 r7 r8] ⟨s2_, 0, none⟩ 0 w6 fun w7 => Q s1_ s2_ w7 := by
  refine New.mk fun s w1 e1 s1 o1 he1 => LdI.mk o1 rfl (LdI.mk o1 rfl (LdI.mk o1 rfl (LdI.mk o1 rfl (LdI.mk o1 rfl (LdI.mk o1 rfl (LdL.mk o1 rfl ?_))))))
  refine copySeg_ok (H := H) (hD.ext0 he1) hl hb fun k1 w2 hk1 b1 he2 => NewSet.mk rfl rfl fun sa w4 hsa hz4 oa he4 => ?_
  have E4 := (he1.trans he2).trans he4
  have o4 := (he2.trans he4).own o1 (by simp)
  refine LdI.mk o4 rfl (LdI.mk o4 rfl (LdI.mk o4 rfl (LdI.mk o4 rfl (LdI.mk o4 rfl (LdI.mk o4 rfl (LdL.mk o4 rfl ?_))))))
  refine copySeg_ok (H := H) (hD.ext0 E4) hl hb fun k2 w5 hk2 b2 he5 => NewSet.mk rfl rfl fun sb w7 hsb hz7 ob he7 => ?_
  have z1 := he1.size
  have z2 := he2.size
  have z4 := he4.size
  have z5 := he5.size
  have E57 := he5.trans he7
  have b14 := b1.ext0 he4
  have := b14.lt
  exact hQ sa sb k1 k2 w7 (by omega) (by omega) (by omega) (by omega) (by omega) (E57.own oa (by simp)) ob (b14.ext0 E57) (b2.ext0 he7) (E4.trans E57)
theorem feed_ok {H : Hd} {b : Option Addr} {l cc : Nat} {V : List Int} {R : Bool → World → Prop} (hc : c < 2) (h : LX w0 w a D K dr qu N) (hN : N ≤ 999999900) (hD : Rd w b V) (hl : V.length = l) (hb : l ≤ 281474976710656)
    (hR : ∀ D' K' w', LX w0 w' a D' K' dr qu (N + 21) → R true w') : connlaw_World_Feed.Call (some ⟨a, 0, none⟩) (c : Int) H.sp H.dp H.sq H.ak H.fl H.wn b l cc w R := by
  apply connlaw_World_Feed.sound
  unfold connlaw_World_Feed.B0
  refine twoCopies hD hl hb fun s1 s2 k1 k2 w1 hs1 hs2 hk1 hk2 hk12 os1 os2 b1 b2 he1 => ?_
  have h1 := h.ext0 (he1.trans (Ext.drew [] w1))
  have ok := h.duo.ok c hc
  have hV := hD.isB
  have hVl : V.length ≤ 281474976710656 := by omega
  have zz := h.sz
  have os1d : Own w1.drew s1 (segC ((H, V), k1)).toArray T_api_Segment := os1
  have os2d : Own w1.drew s2 (segC ((H, V), k2)).toArray T_api_Segment := os2
  have b1d : Bf w1.drew k1 V := b1
  have b2d : Bf w1.drew k2 V := b2
  refine Pn.mk ⟨⟨by omega, by omega⟩, h1.ldX hc (ldSeg7 os1d (cInput_ok (hd := H) (h1.duo.cr c hc) ok b1d hVl fun ab al ac A w2 sa hA cr he2 hal => ?_))⟩
  obtain ⟨oa2, mm2, up2⟩ := mid hc h1 he2
  have hdr : Ext [] w2 w2.drew := Ext.drew _ _
  have b22 : Bf w2.drew k2 V := ⟨up2 b2d.1 (by decide), hV⟩
  have b12 : Bf w2 k1 V := ⟨up2 b1d.1 (by decide), hV⟩
  have os12 : Own w2 s1 (segC ((H, V), k1)).toArray T_api_Segment := up2 os1d (by decide)
  have os22 : Own w2.drew s2 (segC ((H, V), k2)).toArray T_api_Segment := up2 os2d (by decide)
  refine Pn.mk ⟨⟨by omega, by omega⟩, ownM hc (hdr.own oa2 (by simp)) (ldSeg7 os22 (mInput_ok (hd := H) (mm2.ext0 hdr) ok b22 hVl fun bb bl bc B X' w3 sb hB mm hbk he3 hbl => ?_))⟩
  obtain ⟨q, g⟩ := both_mk hc h1 (inputF_ok (hd := H) ok hV) (input_short ok) sa hA cr he2 hal hdr sb hB mm hbk he3
  have tm : Tys w2.drew [D.m c] [T_connm_Conn] := Tys.one (mm2.ext0 hdr).own
  have os13 := ownT he3 tm (hdr.own os12 (by simp)) (by decide)
  have b13 : Bf w3 k1 V := ⟨ownT he3 tm (hdr.own b12.1 (by simp)) (by decide), hV⟩
  refine LdL.mk os13 rfl (scribble_ok b13 (Nat.le_refl _) (by show V.length ≤ _; omega) fun w4 hs4 _ he4 => ?_)
  have k1lt : k1 < w1.drew.heap.size := b1d.lt
  have z2 := he2.size
  refine (q.keep he4 (by omega) k1lt (fun z => ?_)).out hN hR
  rcases g _ z with z | z
  · exact h.fresh hk1 z
  · have : w2.drew.heap.size = w2.heap.size := rfl
    omega
theorem passive_ok {iss : Int} {H : Hd} {b : Option Addr} {l cc : Nat} {V : List Int} {R : Bool → World → Prop} (hc : c < 2) (h : LX w0 w a D K dr qu N) (hN : N ≤ 999999900) (hD : Rd w b V) (hl : V.length = l) (hb : l ≤ 281474976710656)
    (hR : ∀ D' K' w', LX w0 w' a D' K' dr qu (N + 21) → R true w') : connlaw_World_Passive.Call (some ⟨a, 0, none⟩) (c : Int) iss H.sp H.dp H.sq H.ak H.fl H.wn b l cc w R := by
  apply connlaw_World_Passive.sound
  unfold connlaw_World_Passive.B0
  refine twoCopies hD hl hb fun s1 s2 k1 k2 w1 hs1 hs2 hk1 hk2 hk12 os1 os2 b1 b2 he1 => ?_
  have h1 := h.ext0 (he1.trans (Ext.drew [] w1))
  have ok := h.duo.ok c hc
  have hV := hD.isB
  have hVl : V.length ≤ 281474976710656 := by omega
  have zz := h.sz
  have os1d : Own w1.drew s1 (segC ((H, V), k1)).toArray T_api_Segment := os1
  have os2d : Own w1.drew s2 (segC ((H, V), k2)).toArray T_api_Segment := os2
  have b1d : Bf w1.drew k1 V := b1
  refine Pn.mk ⟨⟨by omega, by omega⟩, h1.ldX hc (ldSeg7 os1d (cOpenP_ok (hd := H) (h1.duo.cr c hc) fun ab al ac A w2 sa hA cr he2 hal => ?_))⟩
  obtain ⟨oa2, mm2, up2⟩ := mid hc h1 he2
  have hdr : Ext [] w2 w2.drew := Ext.drew _ _
  have b12 : Bf w2 k1 V := ⟨up2 b1d.1 (by decide), hV⟩
  have os12 : Own w2 s1 (segC ((H, V), k1)).toArray T_api_Segment := up2 os1d (by decide)
  have os22 : Own w2.drew s2 (segC ((H, V), k2)).toArray T_api_Segment := up2 os2d (by decide)
  refine Pn.mk ⟨⟨by omega, by omega⟩, ownM hc (hdr.own oa2 (by simp)) (ldSeg7 os22 (mOpenP_ok (hd := H) (mm2.ext0 hdr) fun bb bl bc B X' w3 sb hB mm hbk he3 hbl => ?_))⟩
  obtain ⟨q, g⟩ := both_mk hc h1 (openPF_ok (hd := H) ok) openP_short sa hA cr he2 hal hdr sb hB mm hbk he3
  have tm : Tys w2.drew [D.m c] [T_connm_Conn] := Tys.one (mm2.ext0 hdr).own
  have os13 := ownT he3 tm (hdr.own os12 (by simp)) (by decide)
  have b13 : Bf w3 k1 V := ⟨ownT he3 tm (hdr.own b12.1 (by simp)) (by decide), hV⟩
  refine LdL.mk os13 rfl (scribble_ok b13 (Nat.le_refl _) (by show V.length ≤ _; omega) fun w4 hs4 _ he4 => Bm.neg (by simp) ?_)
  have k1lt : k1 < w1.drew.heap.size := b1d.lt
  have z2 := he2.size
  refine (q.keep he4 (by omega) k1lt (fun z => ?_)).out hN hR
  rcases g _ z with z | z
  · exact h.fresh hk1 z
  · have : w2.drew.heap.size = w2.heap.size := rfl
    omega
end
end Go.Proofs.Qxb6500422aGreat
