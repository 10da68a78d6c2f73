/-
  hostlaw: Deliver.
-/
import Derived.Test.Qxb6500424aGreatHmL
import Derived.Test.Qxb6500424aGreatHsO
set_option linter.unusedVariables false
set_option linter.unusedSimpArgs false
open Go.Vc
namespace Go.Proofs.Qxb6500424aGreat
section
variable {w0 w w' : World} {a c d : Nat} {m m' : LH} {r r' : LR} {k k' : LC} {n n' : Int} {G G' : List GE} {X' : Nat → CS} {Lg' : List LE} {M' : Nat → List DG} {h' : HS} {Fs : List (List Int)} {nn : Nat}
theorem Cnt.mono (h : Cnt n r k) (hn : n ≤ n') : Cnt n' r k :=
  ⟨by have := h.R; omega, by have := h.I; omega, by have := h.O; omega, by have := h.M; omega, by have := h.sp; omega, by have := h.tk; omega, fun c hc => by have := h.del c hc; omega, h.age⟩
theorem GB0.mono (h : GB0 n G) (hn : n ≤ n') : GB0 n' G := ⟨by have := h.len; omega, fun i g hg => by have := h.S i g hg; omega⟩
theorem Good.mono (h : Good n m r k) (hn : n ≤ n') : Good n' m r k := by
  obtain ⟨G, X, Lg, M, pw, rs, gb⟩ := h.pw
  exact ⟨⟨G, X, Lg, M, pw, rs, gb.mono hn⟩, ⟨fun c hc => (h.hs.ok c hc).mono hn, h.hs.why⟩, h.tw, h.seen, h.top, h.lost, h.out, h.fl, h.rdy, h.rlt, h.cnt.mono hn⟩
theorem Good.wire {W' : List (FL × Nat)} (h : Good n m r k) (hW : ∀ e ∈ W', e ∈ r.W) : Good n m { r with W := W' } k := by
  obtain ⟨G, X, Lg, M, pw, rs, gb⟩ := h.pw
  refine ⟨⟨G, X, Lg, M, pw.wire fun f hf => ?_, rs, gb⟩, h.hs, h.tw, h.seen, h.top, h.lost, h.out, h.fl, h.rdy, h.rlt, ⟨h.cnt.R, h.cnt.I, h.cnt.O, h.cnt.M, h.cnt.sp, h.cnt.tk, h.cnt.del, fun e he => h.cnt.age e (hW e he)⟩⟩
  obtain ⟨e, he, rfl⟩ := List.mem_map.1 hf
  exact pw.fr e.1 (List.mem_map.2 ⟨e, hW e he, rfl⟩)
theorem gb_step (h : GB0 n G) (sr : SameSR G G') (hl : G'.length = G.length ∨ ∃ y, G' = G ++ [y] ∧ y.S = [] ∧ y.R = []) (h0 : 0 ≤ n) : GB0 (n + 400) G' := by
  refine ⟨?_, fun i g2 hg2 => ?_⟩
  · have := h.len
    rcases hl with z | ⟨y, z, _⟩
    · rw [z]; omega
    · rw [z]; simp; omega
  · rcases hl with z | ⟨y, z, e1, e2⟩
    · have hi : i < G.length := by rw [← z]; exact (List.getElem?_eq_some_iff.1 hg2).1
      obtain ⟨s1, s2, _⟩ := sr i G[i] g2 (List.getElem?_eq_getElem hi) hg2
      have := h.S i G[i] (List.getElem?_eq_getElem hi)
      rw [s1, s2]
      omega
    · by_cases hi : i < G.length
      · obtain ⟨s1, s2, _⟩ := sr i G[i] g2 (List.getElem?_eq_getElem hi) hg2
        have := h.S i G[i] (List.getElem?_eq_getElem hi)
        rw [s1, s2]
        omega
      · rw [z, List.getElem?_append_right (by omega)] at hg2
        have := List.mem_of_getElem? hg2
        rw [List.mem_singleton.1 this, e1, e2]
        simp
        omega
/-- The frames of an answer are fresh. -/
theorem LawAt.freshF {w1 : World} {b : Option Addr} {l cc : Nat} {F : List (List Int × Nat)} (hL : LawAt w0 w a m r k) (hF : FrL w1 b l cc w.heap.size F) : (∀ e ∈ F, ¬ U8F r e.2) ∧ ∀ y ∈ rowBlk b, ¬ F81 r y :=
  ⟨fun e he => (hL.r.fresh (hF.ge e he)).1, fun y hy => (hL.r.fresh (hF.blk y hy)).2.1⟩
theorem Ans.small {T : Int} {H : Nat → HS} {W : List FL} {X : Nat → CS} {Lg : List LE} {M : Nat → List DG} {h0 h1 : HS} (pw : PW T H W G X Lg M) (an : Ans T d h0 h1 Fs M nn) : ∀ F ∈ Fs, F.length ≤ 1000 := fun F hF => by
  obtain ⟨c, n, i, g, fo⟩ := an.fr F hF
  exact FrOk.len (f := ⟨F, 0, false⟩) pw fo
/-- What the law's world is behind a frame that host d was handed. -/
structure DlvX (n : Int) (m m' : LH) (r r' : LR) (k k' : LC) (i : Nat) (e : FL × Nat) (d : Nat) (G' : List GE) (X' : Nat → CS) (Lg' : List LE) (M' : Nat → List DG) : Prop where
  pw : PW k'.tk m'.H (r'.W.map (·.1)) G' X' Lg' M'
  rs : Rest G' X' (r'.N.map (·.E))
  gb : GB0 n G'
  H : m'.H = updS m.H d (inputH (m.H d) e.1.raw).1
  W : k'.sp = k.sp → r'.W.map (·.1) = (delW r.W i).map (·.1) ++ (inputH (m.H d) e.1.raw).2.map flF
  tk : k'.tk = k.tk
  sp : k.sp ≤ k'.sp
  ws : Wsn G' X' (r.N.map (·.E)) (r'.N.map (·.E))
theorem deliver_okX {i : Int} {X : Nat → CS} {Lg : List LE} {M : Nat → List DG} {R : Bool → World → Prop} {Φ : FL × Nat → Nat → List GE → (Nat → CS) → List LE → (Nat → List DG) → Prop} (hL : LawAt w0 w a m r k) (hg : Good n m r k) (pw : PW k.tk m.H (r.W.map (·.1)) G X Lg M) (rs : Rest G X (r.N.map (·.E))) (gb : GB0 n G) (h0 : 0 ≤ n) (hn : n ≤ 4398046500000)
    (hstep : ∀ (e : FL × Nat) (d : Nat), 0 ≤ i → r.W[i.toNat]? = some e → e.1.age ≤ 4 → d < 3 → IsB e.1.raw → e.1.raw[0]? = some ((d : Int) + 1) → ∃ G' X' Lg' M', StpX k.tk m.H d e.1.raw (r.W.map (·.1)) G X G' X' Lg' M' ∧ Φ e d G' X' Lg' M')
    (hno : ∀ r' w', LawAt w0 w' a m r' k → Good (n + 450) m r' k → r'.x = r.x → r'.N = r.N → ((r'.W = r.W ∧ ¬ (0 ≤ i ∧ i < (r.W.length : Int))) ∨ ∃ e, 0 ≤ i ∧ r.W[i.toNat]? = some e ∧ (4 < e.1.age ∨ ∀ d : Nat, d < 3 → e.1.raw[0]? ≠ some ((d : Int) + 1)) ∧ r'.W = delW r.W i.toNat) → R true w')
    (hR : ∀ (e : FL × Nat) (d : Nat) G' X' Lg' M' m' r' k' w', 0 ≤ i → r.W[i.toNat]? = some e → e.1.age ≤ 4 → d < 3 → Φ e d G' X' Lg' M' → DlvX (n + 450) m m' r r' k k' i.toNat e d G' X' Lg' M' → LawAt w0 w' a m' r' k' → Good (n + 450) m' r' k' → r'.x = r.x → R true w') : hostlaw_World_Deliver.Call (some ⟨a, 0, none⟩) i w R := by
  apply hostlaw_World_Deliver.sound
  unfold hostlaw_World_Deliver.B0
  refine Pn.mk (hL.ldW (wTake_ok hL.r.W (fun hnr => ?_) (fun e hi he hage w1 hw1 t1 => ?_) (fun e hi he hage w1 hw1 hraw t1 => ?_)))
  · unfold hostlaw_World_Deliver.B1
    exact Bm.pos rfl (Bm.pos rfl (hno r w hL (hg.mono (by omega)) rfl rfl (.inl ⟨rfl, hnr⟩)))
  · unfold hostlaw_World_Deliver.B1
    have h1 := hL.wire hw1 t1 (fun x hx => .inl ⟨x, delW_mem hx, rfl⟩)
    exact Bm.pos rfl (Bm.pos rfl (hno _ w1 h1 ((hg.wire fun x hx => delW_mem hx).mono (by omega)) rfl rfl (.inr ⟨e, hi, he, .inl hage, rfl⟩)))
  have h1 := hL.wire hw1 t1 (fun x hx => .inl ⟨x, delW_mem hx, rfl⟩)
  have g1 := hg.wire (W' := delW r.W i.toNat) fun x hx => delW_mem hx
  have done : (∀ d : Nat, d < 3 → e.1.raw[0]? ≠ some ((d : Int) + 1)) → R true w1 := fun z => hno _ w1 h1 (g1.mono (by omega)) rfl rfl (.inr ⟨e, hi, he, .inr z, rfl⟩)
  have hem := List.mem_of_getElem? he
  obtain ⟨fc, fn, fi, fg, fo⟩ := pw.fr e.1 (List.mem_map.2 ⟨e, hem, rfl⟩)
  have hlen := fo.len pw
  refine Bm.neg rfl ?_
  unfold hostlaw_World_Deliver.B1
  refine Bm.mk (fun hz => done fun d hd q => ?_) fun hne => ?_
  · have hz' := beqT hz
    have := (List.getElem?_eq_some_iff.1 q).1
    omega
  have hpos : 0 < e.1.raw.length := by have := beqF hne; omega
  obtain ⟨x, hx⟩ : ∃ x, e.1.raw[0]? = some x := ⟨_, List.getElem?_eq_getElem hpos⟩
  have hxb := hraw.2.get hx
  refine Pn.mk ⟨⟨by omega, by omega⟩, LdI.cell (hraw.1.cell (by rw [List.getElem?_toArray, U8_get, hx]; rfl)) ?_⟩
  have ew : IntKind.i64.wrap (IntKind.i64.wrap x - 1) = x - 1 := by rw [w64 (x := x) (by omega) (by omega), w64 (by omega) (by omega)]
  rw [ew]
  have out : (x < 1 ∨ 3 < x) → hostlaw_World_Deliver.B2 (some ⟨a, 0, none⟩) (some ⟨e.2, 0, none⟩) e.1.raw.length e.1.raw.length (x - 1) true w1 R := fun z => by
    unfold hostlaw_World_Deliver.B2
    refine Bm.pos rfl (done fun d hd q => ?_)
    rw [hx] at q
    injection q with q
    omega
  refine Bm.ite (fun z => out (by omega)) fun hx0 => ?_
  by_cases hx3 : x - 1 ≥ 3
  · rw [decide_eq_true hx3]; exact out (by omega)
  rw [decide_eq_false hx3]
  obtain ⟨d, hd⟩ : ∃ d : Nat, x - 1 = (d : Int) := ⟨(x - 1).toNat, by omega⟩
  rw [hd]
  have hd3 : d < 3 := by omega
  unfold hostlaw_World_Deliver.B2
  have h1d := h1.drew
  have hdel := hg.cnt.del d hd3
  refine Bm.neg rfl (Pn.mk (h1d.ldN (Pn.mk ⟨⟨by omega, by omega⟩, LdI.cell (delCell h1d.r.N hd3) (Pn.mk ⟨⟨by omega, by omega⟩, ?_⟩)⟩)))
  show Sts [.int .i64 (IntKind.i64.wrap (r.del d + 1))] _ 0 _ _
  rw [w64 (by omega) (by omega)]
  refine stDel h1d.r.N hd3 fun w2 hN2 t2 hs2 => ?_
  have h2 := h1d.net hN2 (t2.mono (by decide)) (fun x hx y hy => .inl (.inr (.inr ⟨x, hx, hy⟩)))
  have hraw2 : Bf w2 e.2 e.1.raw := ⟨t2.own hraw.1.drew (by decide), hraw.2⟩
  refine copyBytes_ok hraw2.rd0 rfl (by omega) fun k1 w3 hk1 hs3 hf3 he3 => ?_
  have h3 := h2.ext0 he3
  have hraw3 := hraw2.ext0 he3
  have okd := hg.hs.ok d hd3
  have nU : ¬ U8F { r with W := delW r.W i.toNat, N := r.N, del := updI r.del d (r.del d + 1) } k1 := (h2.r.fresh (by omega)).1
  have hz := h2.sz
  refine Pn.mk ⟨⟨by omega, by omega⟩, h3.ldH hd3 (input_ok (h3.h.H d hd3) okd (by omega) hf3 (by omega) fun b l cc F w4 fr4 eF hh4 he4 => ?_)⟩
  have h4 := h3.host hd3 hh4 he4
  have ty4 := (h3.h.H d hd3).tys
  have hf4 : Bf w4 k1 e.1.raw := ⟨ownT he4 ty4 hf3.1 (by decide), hf3.2⟩
  have hraw4 : Bf w4 e.2 e.1.raw := ⟨ownT he4 ty4 hraw3.1 (by decide), hraw3.2⟩
  refine scribble_ok hf4 (Nat.le_refl _) (by omega) fun w5 hs5 _ he5 => ?_
  have h5 := h4.one he5 (by omega) hf4.1 (by decide) (h4.r.ofU8 hf4.1 nU)
  have fr5 := fr4.keep he5 (fun y hy => .inl (by simp at hy; omega))
  have k1raw : e.2 ≠ k1 := by have := hraw2.lt; omega
  have hraw5 := hraw4.ext he5 (by simpa using k1raw)
  -- the plain step
  obtain ⟨G', X', Lg', M', ⟨pw', an, tr, sr, one, hlen'⟩, hΦ⟩ := hstep e d hi he hage hd3 hraw.2 (by rw [hx]; congr 1; omega)
  have hn' : ∀ y p, G' = G ++ [y] ∧ Born k.tk d G y p (X' G.length) → (y.S = [] ∧ y.R = []) := fun y p z => ⟨z.2.z.S, z.2.z.R⟩
  have hll : G'.length = G.length ∨ ∃ y, G' = G ++ [y] ∧ y.S = [] ∧ y.R = [] := hlen'.imp id (fun ⟨y, p, z1, z2⟩ => ⟨y, z1, z2.z.S, z2.z.R⟩)
  have hll2 : G'.length = G.length ∨ ∃ y, G' = G ++ [y] := hlen'.imp id (fun ⟨y, p, z1, _⟩ => ⟨y, z1⟩)
  have hdl : updI r.del d (r.del d + 1) d ≠ 0 := by rw [updI_at]; omega
  have ni : NetI G' X' (updI r.del d (r.del d + 1)) (r.N.map (·.E)) := net_step pw.sys pw'.sys.inv.ends rs tr (hop_seg pw.sys tr one hll2 hdl) rfl (told_same rs tr sr)
  have lk : LookI G' X' (updI r.del d (r.del d + 1)) (r.N.map (·.E)) := by
    rcases hlen' with z | ⟨y, p, z1, z2⟩
    · exact look_same pw'.sys.inv.ends ni (by rw [rs.len, z])
    · subst z1
      exact look_born pw'.sys pw.sys.inv.ends ni rs.len z2 hdl
  have sys' := pw'.sys
  have et' : (fun c => (updS m.H d (inputH (m.H d) e.1.raw).1 c).t) d = (inputH (m.H d) e.1.raw).1.t := by show (updS m.H d (inputH (m.H d) e.1.raw).1 d).t = _; rw [updS_at]
  have hok' : HsOk (n + 20) (inputH (m.H d) e.1.raw).1 := okd.input (by have := (sys'.tab d hd3).sk; rw [updS_at] at this; exact this) (fun s hs => by have := sys'.cs hd3 hs; rw [updS_at] at this; exact this)
  have eF' : F.map (·.1) = (inputH (m.H d) e.1.raw).2 := by simpa using eF
  have hFl : l ≤ 9 := by
    have h1 := inputH_len (m.H d) e.1.raw
    rw [← eF'] at h1
    have := fr4.len
    simp at h1
    omega
  have hsm : ∀ x ∈ F, x.1.length ≤ 1000 := fun x hx => an.small pw' x.1 (by rw [← eF']; exact List.mem_map.2 ⟨x, hx, rfl⟩)
  have hnf : nFirst (F.map (·.1)) ≤ 12 := by rw [eF']; have := an.le; omega
  have hcM := hg.cnt.M
  have hcO := hg.cnt.O
  have hout := hg.out d hd3
  have hcr := okd.cr
  have hcsp := hg.cnt.sp
  -- behind the twin
  have fin : ∀ {w6 : World} {m6 : LH} {r6 : LR}, LawAt w0 w6 a m6 r6 k → FrL w6 b l cc w3.heap.size F → (∀ e ∈ F, ¬ U8F r6 e.2) → (∀ y ∈ rowBlk b, ¬ F81 r6 y) → KeepR { r with W := delW r.W i.toNat, N := r.N, del := updI r.del d (r.del d + 1) } r6 → (r6.M.n : Int) ≤ n + 20 → (r6.O.n : Int) ≤ n + 20 → m6.H = updS m.H d (inputH (m.H d) e.1.raw).1 → (m6.qu = true → m.qu = true ∧ m6.J = updS m.J d (inputH (m.H d) e.1.raw).1) → hostlaw_World_Deliver.B3 (some ⟨a, 0, none⟩) (d : Int) b l cc w6 R := fun {w6 m6 r6} h6 f6 u6 v6 kr hM6 hO6 hH6 hJ6 => by
    unfold hostlaw_World_Deliver.B3
    obtain ⟨Mx, Ox, tokx, rfl⟩ := kr
    refine put_ok h6 hd3 f6 (by omega) (by omega) (by omega) (by omega) (fun x hx => ⟨u6 x hx, by have := hsm x hx; omega⟩) v6 hnf (by omega) (by omega) fun r7 sp7 w7 h7 pr n7 o7 s1 s2 => ?_
    obtain ⟨W7, M7, O7, tok7, rfl⟩ := pr.eq
    have hW7 : ∀ x ∈ W7, x ∈ r.W ∨ ∃ F' ∈ (inputH (m.H d) e.1.raw).2, x.1 = ⟨F', 0, false⟩ := fun x hx => by
      rcases pr.W x hx with z | ⟨f, hf, z⟩
      · exact .inl (delW_mem z)
      · exact .inr ⟨f.1, by rw [← eF']; exact List.mem_map.2 ⟨f, hf, rfl⟩, z⟩
    have n7' : M7.n ≤ Mx.n + l := n7
    have o7' : O7.n ≤ Ox.n + 1 := o7
    have hM6' : (Mx.n : Int) ≤ n + 20 := hM6
    have hO6' : (Ox.n : Int) ≤ n + 20 := hO6
    have cn := hg.cnt
    have md := mid_host (n' := n + 400) (m' := m6) (k' := { k with out := updI k.out d (k.out d + (nFirst (F.map (·.1)) : Int)), sp := sp7 }) (r' := { r with W := W7, N := r.N, del := updI r.del d (r.del d + 1), M := M7, O := O7, tok := tok7 }) hg hd3 pw' an lk (gb_step gb sr hll h0) (hok'.mono (by omega)) (inputH_K _ _ okd.sk) (hg.hs.why d hd3).inputH (by omega) hH6 hJ6 hW7 rfl rfl ⟨rfl, rfl, rfl, rfl⟩ (by rw [eF']) ⟨by have := cn.R; show (r.R.length : Int) ≤ _; omega, by have := cn.I; show (r.I.n : Int) ≤ _; omega, by show (O7.n : Int) ≤ _; omega, by show (M7.n : Int) ≤ _; omega, by show 0 ≤ sp7 ∧ sp7 ≤ _; omega, by have := cn.tk; show 0 ≤ k.tk ∧ k.tk ≤ _; omega, fun c hc => ?_, fun x hx => ?_⟩
    · have pw7 : PW k.tk m6.H (W7.map (·.1)) G' X' Lg' M' := by
        rw [hH6]
        refine pw'.wire fun f hf => ?_
        obtain ⟨e7, he7, rfl⟩ := List.mem_map.1 hf
        rcases hW7 e7 he7 with z | ⟨F', hF', z⟩
        · exact pw'.fr e7.1 (List.mem_map.2 ⟨e7, z, rfl⟩)
        · rw [z]; exact an.fr F' hF'
      have gb7 : GB0 (n + 400) G' := gb_step gb sr hll h0
      refine look_okX h7 md pw7 lk gb7 (by omega) fun r8 k8 w8 h8 g8 ex rst eW ⟨es, et⟩ ws => hR e d G' X' Lg' M' m6 r8 k8 w8 hi he hage hd3 hΦ ⟨by rw [et, eW]; exact pw7, rst, gb7.mono (by omega), hH6, fun z => ?_, et, by rw [es]; exact s1, ws⟩ h8 (g8.mono (by omega)) ex
      rw [eW]
      have al := pr.all (by rw [es] at z; exact z)
      have ef : (inputH (m.H d) e.1.raw).2.map flF = F.map fun f => (⟨f.1, 0, false⟩ : FL) := by
        rw [← eF', List.map_map]
        rfl
      rw [ef]
      exact al
    · show 0 ≤ updI r.del d (r.del d + 1) c ∧ updI r.del d (r.del d + 1) c ≤ _
      by_cases z : c = d
      · rw [z, updI_at]; omega
      · rw [updI_ne z]; have := cn.del c hc; omega
    · rcases hW7 x hx with z | ⟨F', _, z⟩
      · exact cn.age x z
      · rw [z]; show (0 : Int) ≤ 5; omega
  have ff := h3.freshF fr4
  refine Pn.mk (h5.ldQu ?_)
  show Bm m.qu _ _
  cases hq : m.qu with
  | false =>
    refine Bm.neg rfl (fin h5 fr5 ff.1 ff.2 ⟨r.M, r.O, r.tok, rfl⟩ (by show (r.M.n : Int) ≤ _; omega) (by show (r.O.n : Int) ≤ _; omega) rfl (fun z => ?_))
    have z' : m.qu = true := z
    rw [hq] at z'
    cases z'
  | true =>
    refine Bm.pos rfl (copyBytes_ok hraw5.rd0 rfl (by omega) fun k2 w6 hk2 hs6 hf6 he6 => ?_)
    have h6 := h5.ext0 he6
    have fr6 := fr5.ext0 he6
    have eJ := hg.tw hq d hd3
    have hh6 : HostAt w6 (m.BQ d) (m.H d) := by have := h6.h.J hq d hd3; rw [← eJ]; exact this
    refine Pn.mk ⟨⟨by omega, by omega⟩, h6.ldQ hd3 hq (input_ok hh6 okd (by omega) hf6 (by omega) fun b2 l2 cc2 F2 w7 fr7 eF2 hh7 he7 => ?_)⟩
    have h7 := h6.twin hd3 hq hh7 he7
    have ty7 := hh6.tys
    have hf7 : Bf w7 k2 e.1.raw := ⟨ownT he7 ty7 hf6.1 (by decide), hf6.2⟩
    have fr7a := fr6.keepT he7 ty7 (by decide) (by decide)
    have nU2 : ¬ U8F { r with W := delW r.W i.toNat, N := r.N, del := updI r.del d (r.del d + 1) } k2 := (h5.r.fresh (by omega)).1
    have z6 := he6.size
    have z7 := he7.size
    have z4 := he4.size
    refine scribble_ok hf7 (Nat.le_refl _) (by omega) fun w8 hs8 _ he8 => ?_
    have h8 := h7.one he8 (by omega) hf7.1 (by decide) (h7.r.ofU8 hf7.1 nU2)
    have fr8 := fr7.keep he8 (fun y hy => .inl (by simp at hy; omega))
    have fr8a : FrL w8 b l cc w3.heap.size F := by
      refine ⟨fr7a.row.ext he8 (fun y hy z => ?_), fun x hx => (fr7a.dat x hx).ext he8 (fun z => ?_), fr7a.asc, fr7a.ge, fr7a.blk, fr7a.cap⟩
      · have : y = k2 := by simpa using z
        have := fr5.row.lt y hy
        omega
      · have : x.2 = k2 := by simpa using z
        have := fr5.lt x hx
        omega
    have eFF : F.map (·.1) = F2.map (·.1) := by rw [eF', eF2]; simp
    have eF2' : F2.map (·.1) = (inputH (m.H d) e.1.raw).2 := by simpa using eF2
    have hF2l : l2 ≤ 9 := by
      have h1 := congrArg List.length eFF
      have := fr7.len
      have := fr4.len
      simp at h1
      omega
    refine sameFrames_ok fr8a fr8 eFF (by omega) (fun x hx => by have := hsm x hx; omega) fun w9 he9 => Bm.neg rfl ?_
    have ff2 := h6.freshF fr7
    refine own2_ok (h8.ext0 he9) (fr8a.ext0 he9) (fr8.ext0 he9) (by omega) (fun x hx => by have := fr5.lt x hx; omega) (fun y hy => by have := fr5.row.lt y hy; omega) (by omega) (by show r.M.n + l2 ≤ _; omega) (by show r.O.n ≤ _; omega) ff.1 ff.2 (fun x hx => ⟨ff2.1 x hx, ?_⟩) ff2.2 fun r10 w10 h10 kr m10 o10 fr10 u10 v10 _ => ?_
    · have hx' : x.1 ∈ F2.map (·.1) := List.mem_map.2 ⟨x, hx, rfl⟩
      rw [← eFF] at hx'
      obtain ⟨y, hy, e1⟩ := List.mem_map.1 hx'
      have := hsm y hy
      have e1' : y.1 = x.1 := e1
      rw [← e1']
      omega
    · have m10' : r10.M.n ≤ r.M.n + l2 := m10
      have o10' : r10.O.n ≤ r.O.n + 1 := o10
      exact fin h10 fr10 u10 v10 kr (by omega) (by omega) rfl (fun _ => ⟨hq, rfl⟩)
theorem deliver_ok {i : Int} {R : Bool → World → Prop} (hL : LawAt w0 w a m r k) (hg : Good n m r k) (h0 : 0 ≤ n) (hn : n ≤ 4398046500000)
    (hR : ∀ m' r' k' w', LawAt w0 w' a m' r' k' → Good (n + 450) m' r' k' → r'.x = r.x → R true w') : hostlaw_World_Deliver.Call (some ⟨a, 0, none⟩) i w R := by
  obtain ⟨G, X, Lg, M, pw, rs, gb⟩ := hg.pw
  refine deliver_okX (Φ := fun _ _ _ _ _ _ => True) hL hg pw rs gb h0 hn (fun e d _ he hage hd _ _ => ?_) (fun r' w' a b c _ _ => hR m r' k w' a b c) (fun _ _ _ _ _ _ m' r' k' w' _ _ _ _ _ _ a b c => hR m' r' k' w' a b c)
  have hfr := pw.fr e.1 (List.mem_map.2 ⟨e, List.mem_of_getElem? he, rfl⟩)
  obtain ⟨G', X', Lg', M', q1, q2, q3, q4, q5, q6⟩ := pw.input hd hfr hage
  exact ⟨G', X', Lg', M', ⟨q1, q2, q3, q4, q5, q6⟩, trivial⟩
end
end Go.Proofs.Qxb6500424aGreat
