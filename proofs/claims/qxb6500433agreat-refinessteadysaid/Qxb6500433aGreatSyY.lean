/-
  synclaw: the end of a step.
-/
import Derived.Test.Qxb6500433aGreatSyX
set_option linter.unusedVariables false
set_option linter.unusedSimpArgs false
open Go.Vc
namespace Go.Proofs.Qxb6500433aGreat
theorem slB0 (b : Option Addr) (m : Int) (n : Nat) : slBase b ((0 : Nat) : Int) m n = b := by
  cases b with
  | none => simp [slBase]
  | some a =>
    simp only [slBase]
    split
    · rfl
    · simp [Addr.add]
structure LawI (w0 w : World) (N : Int) (ρ : MR) (ω : WR) (idv : Int) (x l t d e : Nat) (D : DiskS) (F : List Nat) (A : AbsS) (s q me : Nat) (M : MSt) (Y : YS) (L0 : LogS) (S : List LogS) : Prop where
  sd : Sides w x l t d e D F A s q me M Y L0 S N w0.heap.size
  mc : MemC w w0.heap.size d l ρ
  wx : Was w w0.heap.size ρ ω
  ow : Own w ρ.ws ω.cells T_synclaw_Sent
  id : Y.e.id = (El.newF idv).id
  ext : Ext [] w0 w
section
variable {w0 w w' : World} {N : Int} {ρ : MR} {ω ω' : WR} {idv : Int} {x l t d e : Nat} {D : DiskS} {F : List Nat} {A : AbsS} {s q me : Nat} {M : MSt} {Y : YS} {L0 : LogS} {S : List LogS} {lo : Nat}
theorem LawI.ext0 (h : LawI w0 w N ρ ω idv x l t d e D F A s q me M Y L0 S) (he : Ext [] w w') : LawI w0 w' N ρ ω idv x l t d e D F A s q me M Y L0 S :=
  ⟨h.sd.ext0 he, h.mc.ext0 he, h.wx.ext0 he, he.own h.ow (by simp), h.id, h.ext.trans he⟩
theorem LawI.mono {N' : Int} (h : LawI w0 w N ρ ω idv x l t d e D F A s q me M Y L0 S) (hn : N ≤ N') : LawI w0 w N' ρ ω idv x l t d e D F A s q me M Y L0 S := ⟨h.sd.mono hn, h.mc, h.wx, h.ow, h.id, h.ext⟩
/-- Idle, Steps, Seen. -/
theorem tail_ok {quiet : Bool} {i : Int} {R : Int → Int → World → Prop} {Q : World → Prop} (h : LawI w0 w N ρ ω idv x l t d e D F A s q me M Y L0 S) (hi : M.H = [] → D.log = []) (hQ : ∀ w', Ext [] w w' → Q w') :
    LdP ⟨ρ.bb, 0, none⟩ w fun x260_0 => LdP ⟨ρ.bb, 1, none⟩ w fun x260_1 => synclaw_Idle.Call x260_0 x260_1 (some ⟨s, 0, none⟩) w fun r262 w2 => Bm (!r262) (R i i w2) (LdP ⟨ρ.bb, 0, none⟩ w2 fun x266_0 => LdP ⟨ρ.bb, 1, none⟩ w2 fun x266_1 => synclaw_Steps.Call x266_0 x266_1 w2 fun r267 w3 => Bm (!quiet) (LdP ⟨ρ.bb, 0, none⟩ w3 fun x272_0 => LdP ⟨ρ.bb, 1, none⟩ w3 fun x272_1 => synclaw_Seen.Call (some ⟨x, 0, none⟩) (some ⟨s, 0, none⟩) x272_0 x272_1 r267 w3 fun r274 w4 => Bm (!r274) (R i i w4) (Q w4)) (Q w3)) := by
  refine LdP.mk h.mc.ob rfl (LdP.mk h.mc.ob rfl (wIdle_ok h.sd.rest.real.st.dk h.sd.mrest hi fun w2 he2 => Bm.neg rfl ?_))
  have h2 := h.ext0 he2
  refine LdP.mk h2.mc.ob rfl (LdP.mk h2.mc.ob rfl (wSteps_ok h2.sd.rest.real.st.dk fun w3 he3 => ?_))
  have h3 := h2.ext0 he3
  refine Bm.mk (fun _ => LdP.mk h3.mc.ob rfl (LdP.mk h3.mc.ob rfl (wSeen_ok h3.sd.rest h3.sd.mrest h3.sd.ok fun w4 he4 => Bm.neg rfl (hQ w4 ((he2.trans he3).trans he4))))) fun _ => hQ w3 (he2.trans he3)
/-- The messages of now become those of the event before. -/
theorem MemC.stW {Q : World → Prop} (h : MemC w lo d l ρ) (hQ : ∀ w', MemC w' lo d l ρ → Own w' ρ.ws ω'.cells T_synclaw_Sent → Ext [ρ.ws] w w' → Tys w [ρ.ws] [T_synclaw_Sent] → Q w') : Sts [.slice ω'.xb ω'.EX.length ω'.xc, .slice ω'.yb ω'.EM.length ω'.yc] ⟨ρ.ws, 0, none⟩ 0 w Q := by
  obtain ⟨csw, ow, hsw⟩ := h.ow
  refine Sts.full ow (by rw [hsw]; rfl) rfl fun w' hs o he => ?_
  have t := Tys.one ow
  refine hQ w' ⟨ownT he t h.ob (by decide), ownT he t h.orr (by decide), rowT h.ea he t (by decide), h.rl, ⟨_, o, rfl⟩, rowT h.nrow he t (by decide), fun I hI => (h.kp I hI).ext he (fun y hy hl hf => ?_), h.kl, h.drk, h.ge⟩ o he t
  simp at hy
  subst hy
  obtain ⟨cs, T, ho, hT⟩ := (h.kp I hI).ty hf
  rw [(ho.unique ow).2] at hT
  exact absurd hT (by decide)
abbrev NW := Option Addr → Nat → Nat → Bool → Bool → Int → Nat → Option Addr → Option Addr → Nat → Nat → Option Addr → Nat → Nat → Int → World → Prop
/-- What the walk goes on with. -/
def LawE (w0 : World) (bb rg ws : Nat) (N idv : Int) (x s : Nat) (nb : Option Addr) (nl nc : Nat) (w : World) : Prop :=
  ∃ ρ ω l t d e D F A q me M Y L0 S, ρ.bb = bb ∧ ρ.rg = rg ∧ ρ.ws = ws ∧ ρ.nb = nb ∧ ρ.K.length = nl ∧ ρ.nc = nc ∧ LawI w0 w N ρ ω idv x l t d e D F A s q me M Y L0 S
variable {sb : Option Addr} {n c : Nat} {steady quiet : Bool} {i : Int} {N1 : NW} {R : Int → Int → World → Prop}
theorem b8_ok {now nl : Nat} (hi0 : 0 ≤ i ∧ i < 4398046511104) (sd : Sides w x l t d e D F A s q me M Y L0 S N w0.heap.size) (hidle : M.H = [] → D.log = []) (mc : MemC w w0.heap.size d l ρ) (wn : Was w w0.heap.size ρ ω') (on : Own w now ω'.cells T_synclaw_Sent) (hid : Y.e.id = (El.newF idv).id) (hext : Ext [] w0 w) (hnl : ρ.K.length = nl)
    (hgo : ∀ {w9 : World} {idv : Int} {x s : Nat} {nb : Option Addr} {nl nc : Nat}, LawE w0 ρ.bb ρ.rg ρ.ws N idv x s nb nl nc w9 → N1 sb n c steady quiet idv ρ.bb (some ⟨x, 0, none⟩) (some ⟨s, 0, none⟩) ρ.rg ρ.ws nb nl nc (i + 1) w9) :
    synclaw_walk.B8 sb n c steady quiet idv ρ.bb (some ⟨x, 0, none⟩) (some ⟨s, 0, none⟩) ρ.rg ρ.ws ρ.nb nl ρ.nc i now w N1 R := by
  unfold synclaw_walk.B8
  refine LdL.mk on rfl (LdL.mk on rfl (mc.stW (ω' := ω') fun w1 mc1 ow1 he1 t1 => ?_))
  have x1 : ExtT w w1 [T_synclaw_Sent] := ExtT.of he1 t1
  have hwsge := mc.ge ρ.ws (.inr (.inr (.inl rfl)))
  have h1 : LawI w0 w1 N ρ ω' idv x l t d e D F A s q me M Y L0 S := ⟨sd.extT x1 (by decide), mc1, wn.extT x1 (by decide) (by decide), ow1, hid, hext.trans' he1 (fun y hy hl => by simp at hy; omega)⟩
  refine tail_ok h1 hidle fun w2 he2 => ?_
  unfold synclaw_walk.B3
  rw [w64 (by omega) (by omega)]
  exact hgo ⟨ρ, ω', l, t, d, e, D, F, A, q, me, M, Y, L0, S, rfl, rfl, rfl, rfl, hnl, rfl, h1.ext0 he2⟩
theorem Row.short {b : Option Addr} {l l' c sz : Nat} {T : TypeId} {vs : List Value} (h : Row w b l c sz T vs) (hl : l' ≤ l) : Row w b l' c sz T (vs.take (l' * sz)) := by
  have hm : l' * sz ≤ l * sz := Nat.mul_le_mul_right _ hl
  refine ⟨by rw [List.length_take, h.1]; omega, Nat.le_trans hl h.2.1, ?_⟩
  rcases h.2.2 with z | ⟨k, cs, hb, ho, hs, ht⟩
  · exact .inl z
  · refine .inr ⟨k, cs, hb, ho, hs, ?_⟩
    rw [← ht, List.take_take, Nat.min_eq_left hm]
/-- The stamped list is kept. -/
theorem keep_ok {I : KI} {k now : Nat} (hi0 : 0 ≤ i ∧ i < 4398046511104) (sd : Sides w x l t d e D F A s q me M Y L0 S N w0.heap.size) (hidle : M.H = [] → D.log = []) (mc : MemC w w0.heap.size d l ρ) (wn : Was w w0.heap.size ρ ω') (on : Own w now ω'.cells T_synclaw_Sent) (hid : Y.e.id = (El.newF idv).id) (hext : Ext [] w0 w)
    (ok : Own w k (kiC I).toArray T_synclaw_Kept) (hkn : k ∉ rowBlk ρ.nb) (hI : KpAt w I) (hIr : ∀ k, I.foot k → ¬ ρ.RB k) (hIg : ∀ k, I.foot k → w0.heap.size ≤ k) (hIw : ∀ k, ω'.XB k → ¬ I.foot k)
    (hgo : ∀ {w9 : World} {idv : Int} {x s : Nat} {nb : Option Addr} {nl nc : Nat}, LawE w0 ρ.bb ρ.rg ρ.ws N idv x s nb nl nc w9 → N1 sb n c steady quiet idv ρ.bb (some ⟨x, 0, none⟩) (some ⟨s, 0, none⟩) ρ.rg ρ.ws nb nl nc (i + 1) w9) :
    Bm (decide ((ρ.K.length : Int) ≥ 8)) (synclaw_walk.L2 sb n c steady quiet idv ρ.bb (some ⟨x, 0, none⟩) (some ⟨s, 0, none⟩) ρ.rg ρ.ws ρ.nb ρ.K.length ρ.nc i now k 0 w N1 R)
      (LdL ⟨k, 0, none⟩ w fun x256_0_b x256_0_l x256_0_c => LdL ⟨k, 1, none⟩ w fun x256_1_b x256_1_l x256_1_c => New (.cells #[.slice x256_0_b x256_0_l x256_0_c, .slice x256_1_b x256_1_l x256_1_c] 64) w fun b257 w6 => Append 64 (.agg #[.slice none 0 0, .slice none 0 0]) 2 48 ρ.nb ρ.K.length ρ.nc (some ⟨b257, 0, none⟩) 1 w6 fun b258 c258 w7 => synclaw_walk.B8 sb n c steady quiet idv ρ.bb (some ⟨x, 0, none⟩) (some ⟨s, 0, none⟩) ρ.rg ρ.ws b258 (ρ.K.length + 1) c258 i now w7 N1 R) := by
  have kl := mc.kl
  have hz := hext.size
  -- behind the append
  have fin : ∀ {w6 w7 : World} {K0 : List KI} {nb' : Option Addr} {nc' nl : Nat}, Ext (rowBlk ρ.nb) w w6 → (∀ J ∈ K0, J ∈ ρ.K) → K0.length ≤ 7 → nl = K0.length + 1 → Row w7 nb' (K0.length + 1) nc' 2 T_synclaw_Kept ((K0 ++ [I]).flatMap kiC) → Ext (rowBlk ρ.nb) w6 w7 → (∀ y ∈ rowBlk nb', y ∈ rowBlk ρ.nb ∨ w6.heap.size ≤ y) → synclaw_walk.B8 sb n c steady quiet idv ρ.bb (some ⟨x, 0, none⟩) (some ⟨s, 0, none⟩) ρ.rg ρ.ws nb' nl nc' i now w7 N1 R := fun {w6 w7 K0 nb' nc' nl} he6 hsub hk7 hnl hr he7 hnb => by
    have E7 : Ext (rowBlk ρ.nb) w w7 := he6.trans he7
    have t := Tys.row mc.nrow
    have x7 : ExtT w w7 [T_synclaw_Kept] := ExtT.of E7 t
    have z6 := he6.size
    have mc7 : MemC w7 w0.heap.size d l { ρ with nb := nb', nc := nc', K := K0 ++ [I] } := mc.push E7 (fun J hJ => by
      rcases List.mem_append.1 hJ with z | z
      · exact .inl (hsub J z)
      · simp at z; exact .inr z) hI hIr hIg (by simpa using hr) (by simp; omega) (fun y hy => by
      rcases hnb y hy with z | z
      · exact .inl z
      · exact .inr (by omega)) (by omega)
    have wn7 := wn.extT x7 (by decide) (by decide)
    have wn7' : Was w7 w0.heap.size { ρ with nb := nb', nc := nc', K := K0 ++ [I] } ω' := ⟨wn7.mx, wn7.my, wn7.same, wn7.ent, wn7.xl, wn7.dxy, fun y hy => ⟨(wn7.dx y hy).1, fun hkb => by
      obtain ⟨J, hJ, hf⟩ := hkb
      rcases List.mem_append.1 hJ with z | z
      · exact (wn7.dx y hy).2 ⟨J, hsub J z, hf⟩
      · simp at z; subst z; exact hIw y hy hf⟩, wn7.dy⟩
    refine b8_ok (ρ := { ρ with nb := nb', nc := nc', K := K0 ++ [I] }) (nl := nl) hi0 (sd.extT x7 (by decide)) hidle mc7 wn7' (x7.own on (by decide)) hid (hext.trans' E7 (fun y hy hl => by have := mc.ge y (.inr (.inr (.inr (.inl hy)))); omega)) (by simp; omega) hgo
  refine Bm.ite (fun h8 => ?_) fun h8 => ?_
  rotate_left
  · refine LdL.mk ok rfl (LdL.mk ok rfl (New.mk fun nbk w6 hnbk hs6 on6 he6 => ?_))
    have row6 := Row.ext mc.nrow he6 (fun _ _ z => by cases z)
    refine Vc.Append.mk (e := T_synclaw_Kept) (news := kiC I) row6 (CellsAt.own on6 (fun j v hj => by simpa [kiC] using hj)) rfl rfl rfl (by omega) (by omega) fun b' c' w7 hr he7 hb7 => ?_
    exact fin (w6 := w6) (K0 := ρ.K) he6.nil (fun J hJ => hJ) (by omega) rfl (by rw [List.flatMap_append]; simpa using hr) he7 (fun y hy => (hb7 y hy).imp id (fun z => z.1))
  · -- the oldest is let go
    have hK8 : ρ.K.length = 8 := by omega
    unfold synclaw_walk.L2
    refine ⟨fun mm sb' n' c' st' qu' id' b' x' m' rg' ws' nb' nl' nc' i' now' k' j w' => ∃ p : Nat, p ≤ 7 ∧ mm = 7 - p ∧ sb = sb' ∧ n = n' ∧ c = c' ∧ steady = st' ∧ quiet = qu' ∧ idv = id' ∧ ρ.bb = b' ∧ some ⟨x, 0, none⟩ = x' ∧ some ⟨s, 0, none⟩ = m' ∧ ρ.rg = rg' ∧ ρ.ws = ws' ∧ ρ.nb = nb' ∧ ρ.K.length = nl' ∧ ρ.nc = nc' ∧ i = i' ∧ now = now' ∧ k = k' ∧ j = (p : Int) ∧ Row w' ρ.nb ρ.K.length ρ.nc 2 T_synclaw_Kept ((ρ.K.tail.take p ++ ρ.K.drop p).flatMap kiC) ∧ Ext (rowBlk ρ.nb) w w', _,
      ⟨0, by omega, rfl, rfl, rfl, rfl, rfl, rfl, rfl, rfl, rfl, rfl, rfl, rfl, rfl, rfl, rfl, rfl, rfl, rfl, rfl, by simpa using mc.nrow, Ext.refl _ _⟩, ?_⟩
    rintro mm sb' n' c' st' qu' id' b' x' m' rg' ws' nb' nl' nc' i' now' k' j w1 ⟨p, hp, rfl, rfl, rfl, rfl, rfl, rfl, rfl, rfl, rfl, rfl, rfl, rfl, rfl, rfl, rfl, rfl, rfl, rfl, rfl, row1, he1⟩
    unfold synclaw_walk.L2b
    have ew : IntKind.i64.wrap ((p : Int) + 1) = ((p + 1 : Nat) : Int) := by rw [w64 (by omega) (by omega)]; omega
    rw [ew]
    have htl : ρ.K.tail.length = 7 := by simp; omega
    have hlen : (ρ.K.tail.take p ++ ρ.K.drop p).length = 8 := by simp; omega
    refine Bm.ite (fun hlt => ?_) fun hge => ?_
    · obtain ⟨J, hJ⟩ := get_lt' (L := ρ.K) (n := p + 1) (by omega)
      have hJ1 : (ρ.K.tail.take p ++ ρ.K.drop p)[p + 1]? = some J := by
        rw [List.getElem?_append_right (by simp; omega)]
        simp only [List.length_take, htl]
        rw [show min p 7 = p by omega, show p + 1 - p = 1 by omega, List.getElem?_drop]
        exact hJ
      obtain ⟨kk, ek, cs, ho, hc⟩ := row1.at (i := p + 1) (by omega) (by omega)
      have g : ∀ j, j < 2 → cs[(p + 1) * 2 + j]? = (kiC J)[j]? := fun j hj => by rw [hc j hj, flat_get kiC_len hJ1 hj]
      refine pnOf ek ⟨⟨by omega, by omega⟩, ?_⟩
      rw [Int.toNat_natCast, add_mk, add_mk, Nat.zero_add]
      refine LdL.mk ho (g 0 (by omega)) (LdL.mk ho (g 1 (by omega)) (pnOf ek ⟨⟨by omega, by omega⟩, ?_⟩))
      rw [Int.toNat_natCast, add_mk, Nat.zero_add]
      rw [ek] at row1
      refine Row.put (news := kiC J) row1 (by show p * 2 + 2 ≤ ρ.K.length * 2; omega) rfl fun w2 hs2 row2 he2 => ?_
      have fs := flat_set kiC_len (L := ρ.K.tail.take p ++ ρ.K.drop p) (i := p) (a' := J) (by omega)
      rw [show p * 2 + (kiC J).length = p * 2 + 2 from rfl, fs] at row2
      have hset : (ρ.K.tail.take p ++ ρ.K.drop p).set p J = ρ.K.tail.take (p + 1) ++ ρ.K.drop (p + 1) := by
        have hdp : ρ.K.drop p = ρ.K[p]'(by omega) :: ρ.K.drop (p + 1) := List.drop_eq_getElem_cons (by omega)
        rw [List.set_append_right _ _ (by simp; omega)]
        simp only [List.length_take, htl]
        rw [show p - min p 7 = 0 by omega, hdp, List.set_cons_zero]
        have : ρ.K.tail[p]? = some J := by rw [List.getElem?_tail]; exact hJ
        rw [take_succ' this, List.append_assoc]
        rfl
      rw [hset, ← ek] at row2
      exact ⟨7 - (p + 1), by omega, p + 1, by omega, rfl, rfl, rfl, rfl, rfl, rfl, rfl, rfl, rfl, rfl, rfl, rfl, rfl, rfl, rfl, rfl, rfl, rfl, rfl, row2, he1.trans (he2.mono fun y hy _ => by simp at hy; rw [hy, ek]; simp [rowBlk])⟩
    · have hp7 : p = 7 := by omega
      subst hp7
      have e1 : IntKind.i64.wrap ((ρ.K.length : Int) - 1) = ((7 : Nat) : Int) := by rw [w64 (by omega) (by omega)]; omega
      rw [e1, slB0]
      have hrc := mc.nrow.2.1
      have hs1 := he1.size
      have t := Tys.row mc.nrow
      have ok1 := he1.own ok hkn
      refine ⟨⟨by omega, by omega⟩, LdL.mk ok1 rfl (LdL.mk ok1 rfl (New.mk fun nbk w6 hnbk hs6 on6 he6 => ?_))⟩
      have row6 : Row w6 ρ.nb 7 ρ.nc 2 T_synclaw_Kept (ρ.K.tail.flatMap kiC) := by
        have r7 := Row.short (l' := 7) (Row.ext row1 he6 (fun _ _ z => by cases z)) (by omega)
        have ht7 : ρ.K.tail.take 7 = ρ.K.tail := List.take_of_length_le (by omega)
        rw [ht7, List.flatMap_append, List.take_append_of_le_length (by rw [flat_length kiC_len, htl]; omega), List.take_of_length_le (by rw [flat_length kiC_len, htl]; omega)] at r7
        exact r7
      show Append 64 _ 2 48 ρ.nb (((7 : Nat) : Int).toNat - ((0 : Nat) : Int).toNat) ((ρ.nc : Int).toNat - ((0 : Nat) : Int).toNat) _ 1 w6 _
      simp only [Int.toNat_natCast, Nat.sub_zero]
      refine Vc.Append.mk (e := T_synclaw_Kept) (news := kiC I) row6 (CellsAt.own on6 (fun j v hj => by simpa [kiC] using hj)) rfl rfl rfl (by omega) (by omega) fun b' c' w7 hr he7 hb7 => ?_
      have hr' : Row w7 b' (ρ.K.tail.length + 1) c' 2 T_synclaw_Kept ((ρ.K.tail ++ [I]).flatMap kiC) := by rw [htl, List.flatMap_append]; simpa using hr
      exact fin (w6 := w6) (K0 := ρ.K.tail) (he1.trans he6.nil) (fun J hJ => List.mem_of_mem_tail hJ) (by omega) (by rw [htl]) hr' he7 (fun y hy => (hb7 y hy).imp id (fun z => z.1))
theorem b5_ok {now : Nat} (hi0 : 0 ≤ i ∧ i < 4398046511104) (h : LawI w0 w N ρ ω idv x l t d e D F A s q me M Y L0 S) (hidle : M.H = [] → D.log = []) (sent : Bool) (hs : sent = true → Was w w0.heap.size ρ ω' ∧ Own w now ω'.cells T_synclaw_Sent ∧ ∀ k, ω'.XB k ∨ ω'.YB k → ¬ ω.XB k)
    (hgo : ∀ {w9 : World} {idv : Int} {x s : Nat} {nb : Option Addr} {nl nc : Nat}, LawE w0 ρ.bb ρ.rg ρ.ws N idv x s nb nl nc w9 → N1 sb n c steady quiet idv ρ.bb (some ⟨x, 0, none⟩) (some ⟨s, 0, none⟩) ρ.rg ρ.ws nb nl nc (i + 1) w9) :
    synclaw_walk.B5 sb n c steady quiet idv ρ.bb (some ⟨x, 0, none⟩) (some ⟨s, 0, none⟩) ρ.rg ρ.ws ρ.nb ρ.K.length ρ.nc i true sent now w N1 R := by
  unfold synclaw_walk.B5
  have xl := h.wx.xl
  refine Bm.neg rfl (LdL.mk h.ow rfl (LdL.mk h.ow rfl (sameMsgs_ok h.wx.mx h.wx.my h.wx.same (by omega) (fun y hy => by have := (h.wx.ent y hy).1; omega) fun w1 he1 => Bm.neg rfl ?_)))
  have h1 := h.ext0 he1
  refine wUntouched_ok h1.mc.nrow h1.mc.kp (by have := h1.mc.kl; omega) fun w2 he2 => Bm.neg rfl ?_
  have h2 := h1.ext0 he2
  have E2 := he1.trans he2
  cases sent with
  | false =>
    refine Bm.neg rfl (tail_ok h2 hidle fun w3 he3 => ?_)
    unfold synclaw_walk.B3
    rw [w64 (by omega) (by omega)]
    exact hgo ⟨ρ, ω, l, t, d, e, D, F, A, q, me, M, Y, L0, S, rfl, rfl, rfl, rfl, rfl, rfl, h2.ext0 he3⟩
  | true =>
    obtain ⟨wn, on, sep⟩ := hs rfl
    have wn2 := wn.ext0 E2
    have on2 := E2.own on (by simp)
    refine Bm.pos rfl (LdL.mk h2.ow rfl (spoil_ok h2.wx.mx (by omega) (fun y hy => by have := (h2.wx.ent y hy).1; omega) fun eb ec w3 kp3 heb he3 => ?_))
    have tX : Tys w2 (rowBlk ω.xb ++ EB ω.EX) [T_api_Msg, T_api_Entry] := fun k hk _ => h2.wx.xty (.inl (List.mem_append.1 hk))
    have x3 : ExtT w2 w3 [T_api_Msg, T_api_Entry] := ExtT.of he3 tX
    have mc3 : MemC w3 w0.heap.size d l ρ := h2.mc.ext he3 fun y hy hl hf => by
      have hX : ω.XB y := List.mem_append.1 hy
      have dd := h2.wx.dx y hX
      obtain ⟨cs, T, ho, hT⟩ := h2.wx.xty (.inl hX)
      obtain ⟨csw, ow, _⟩ := h2.mc.ow
      rcases hf with z | z | z | z | z
      · rw [z] at ho
        rw [(ho.unique h2.mc.ob).2] at hT
        exact absurd hT (by decide)
      · exact dd.1 z
      · rw [z] at ho
        rw [(ho.unique ow).2] at hT
        exact absurd hT (by decide)
      · obtain ⟨cs', ho'⟩ := h2.mc.nrow.ty z
        rw [(ho.unique ho').2] at hT
        exact absurd hT (by decide)
      · exact dd.2 z
    have wn3 : Was w3 w0.heap.size ρ ω' := wn2.ext he3 fun y hy hl => by
      have hX : ω.XB y := List.mem_append.1 hy
      exact ⟨fun z => sep y (.inl z) hX, fun z => sep y (.inr z) hX⟩
    have on3 := ownT he3 tX on2 (by decide)
    have ow3 := ownT he3 tX h2.ow (by decide)
    have sd3 := h2.sd.extT x3 (by decide)
    have Xge : ∀ k, ω.XB k → w0.heap.size ≤ k := fun k hk => by
      rcases hk with z | z
      · exact h2.wx.mx.blk k z
      · obtain ⟨y, hy, hz⟩ := mem_EB.1 z
        exact h2.wx.mx.bd.ge y hy k hz
    have ext3 : Ext [] w0 w3 := h2.ext.trans' he3 (fun y hy hl => by have := Xge y (List.mem_append.1 hy); omega)
    refine NewSet.mk rfl rfl fun k w5 hk hs5 ok he5 => ?_
    have mc5 := mc3.ext0 he5
    have ow5 := he5.own ow3 (by simp)
    have hz2 := h2.ext.size
    have hz3 := he3.size
    let I : KI := ⟨ω.xb, ω.EX.length, ω.xc, eb, ec, ω.EX.map vsOf⟩
    have kp5 : KpAt w5 I := kp3.ext he5 (fun y hy => by cases hy)
    have If : ∀ y, I.foot y → ω.XB y ∨ w2.heap.size ≤ y := fun y hy => by
      rcases hy with z | z | ⟨v, hv, z⟩
      · exact .inl (.inl z)
      · exact .inr (heb y z)
      · obtain ⟨xx, hxx, rfl⟩ := List.mem_map.1 hv
        exact .inl (.inr (mem_EB.2 ⟨xx, hxx, z⟩))
    have okk : Own w5 k (kiC I).toArray T_synclaw_Kept := ok
    have wn5 := wn3.ext0 he5
    refine LdL.mk ow5 rfl (Bm.ite (fun hpos => ?_) fun hzero => ?_)
    · refine keep_ok (I := I) hi0 (sd3.ext0 he5) hidle mc5 wn5 (he5.own on3 (by simp)) h.id (ext3.trans he5) okk (fun hx => ?_) kp5 (fun y hy hr => ?_) (fun y hy => ?_) (fun y hy hf => ?_) hgo
      · have := mc3.nrow.lt k hx
        omega
      · rcases If y hy with z | z
        · exact (h2.wx.dx y z).1 hr
        · have := h2.mc.lt (.inr (.inl hr))
          omega
      · rcases If y hy with z | z
        · exact Xge y z
        · omega
      · rcases If y hf with z | z
        · exact sep y (.inl hy) z
        · have := wn2.lt (.inl hy)
          omega
    · exact b8_ok hi0 (sd3.ext0 he5) hidle mc5 wn5 (he5.own on3 (by simp)) h.id (ext3.trans he5) rfl hgo
end
end Go.Proofs.Qxb6500433aGreat
