/-
  rlog: TruncateFrom, Compact, Install.
-/
import Derived.Test.Qxb6500430aGreatRlC
set_option linter.unusedVariables false
set_option linter.unusedSimpArgs false
open Go.Vc
namespace Go.Proofs.Qxb6500430aGreat

def popsN : Nat → LogS → List LogS
  | 0, _ => []
  | k + 1, L => popL L :: popsN k (popL L)
def popK : Nat → LogS → LogS
  | 0, L => L
  | k + 1, L => popK k (popL L)
theorem popsN_last : ∀ (k : Nat) (L : LogS), finL L (popsN k L) = popK k L
  | 0, L => rfl
  | k + 1, L => by
    have ih := popsN_last k (popL L)
    unfold finL at ih ⊢
    show (popL L :: popsN k (popL L)).getLastD L = popK k (popL L)
    rw [← ih]
    cases popsN k (popL L) <;> rfl
theorem popL_len (L : LogS) : (popL L).ents.length = L.ents.length - 1 := by simp [popL]
theorem popK_same : ∀ (k : Nat) (L : LogS), (popK k L).base = L.base ∧ (popK k L).ents.length = L.ents.length - k ∧ (popK k L).term = L.term ∧ (popK k L).vote = L.vote ∧ (popK k L).bterm = L.bterm ∧ (popK k L).snap = L.snap
  | 0, L => ⟨rfl, rfl, rfl, rfl, rfl, rfl⟩
  | k + 1, L => by
    have ih := popK_same k (popL L)
    rw [popL_len] at ih
    exact ⟨ih.1, by show (popK k (popL L)).ents.length = _; omega, ih.2.2⟩
theorem popK_succ : ∀ (k : Nat) (L : LogS), popK (k + 1) L = popL (popK k L)
  | 0, L => rfl
  | k + 1, L => popK_succ k (popL L)
theorem popK_mem : ∀ {k j : Nat} {L : LogS}, j ≤ k → popK j L ∈ L :: popsN k L
  | k, 0, L, _ => List.mem_cons_self ..
  | 0, j + 1, L, h => by omega
  | k + 1, j + 1, L, h => by
    have ih := popK_mem (k := k) (j := j) (L := popL L) (by omega)
    exact List.mem_cons_of_mem _ ih
theorem popL_ok {L : LogS} (h : LogOk L) : LogOk (popL L) := by
  have hl := popL_len L
  have := h.len
  have := h.last
  refine ⟨h.term, h.vote, h.base, h.bterm, h.snap, by omega, ?_, fun e he => h.ent e (List.dropLast_subset _ he)⟩
  show L.base + ((popL L).ents.length : Int) ≤ _
  omega
theorem popsN_len : ∀ (k : Nat) (L : LogS), (popsN k L).length = k
  | 0, _ => rfl
  | k + 1, L => by simp [popsN, popsN_len k]
section
variable {w w' : World} {l t d : Nat} {D : DiskS} {F : List Nat} {A : AbsS} {L : LogS} {S : List LogS} {N : Int} {X : RlR}
/-- k entries off the top. -/
theorem dropFrom_ok {i : Int} {k : Nat} {R : Int → World → Prop} (h : Real w l t d D F A L) (hp : Path D S N) (hl : D.log.length ≤ 500) (hk : k ≤ L.ents.length) (hi : (k : Int) = L.last - i + 1 ∨ (k = 0 ∧ L.last < i)) (hS : ∀ j, j ≤ k → popK j L ∈ S)
    (hR : ∀ w' D' F' A', Real w' l t d D' F' A' (popK k L) → Path D' S N → D'.log.length = D.log.length + 2 * k → Ext (l :: t :: F) w w' → Grew w F F' → (k = 0 → D' = D) → R 0 w') : rlog_Log_dropFrom.Call (some ⟨l, 0, none⟩) i w R := by
  apply rlog_Log_dropFrom.sound
  unfold rlog_Log_dropFrom.B0 rlog_Log_dropFrom.L1
  have hb := h.ok.base
  have hla := h.ok.last
  have hn := h.ok.len
  refine ⟨fun mm l' i' w' => ∃ (j : Nat) (D' : DiskS) (F' : List Nat) (A' : AbsS), j ≤ k ∧ mm = k - j ∧ some ⟨l, 0, none⟩ = l' ∧ i = i' ∧ Real w' l t d D' F' A' (popK j L) ∧ Path D' S N ∧ D'.log.length = D.log.length + 2 * j ∧ Ext (l :: t :: F) w w' ∧ Grew w F F' ∧ (j = 0 → D' = D), _, ⟨0, D, F, A, by omega, rfl, rfl, rfl, h, hp, rfl, Ext.refl _ _, Grew.refl _ _, fun _ => rfl⟩, ?_⟩
  rintro mm l' i' w1 ⟨j, D1, F1, A1, hj, rfl, rfl, rfl, h1, p1, q1, he1, hg1, hz1⟩
  obtain ⟨X, x1, x2⟩ := h1.rl
  have ht := x2.t
  obtain ⟨sb, sl', _⟩ := popK_same j L
  have elast : X.last = L.base + ((L.ents.length - j : Nat) : Int) := by rw [x2.last]; unfold LogS.last; rw [sb, sl']
  unfold LogS.last at hi
  unfold rlog_Log_dropFrom.L1b
  refine Pn.mk (x1.ldI (o := 6) (by omega) rfl ?_)
  rw [elast]
  refine Bm.ite (fun hc => ?_) fun hc => ?_
  · have hjk : j < k := by omega
    refine Pn.mk (x1.ldI (o := 6) (by omega) rfl ?_)
    rw [elast]
    refine slotOf_ok (by omega) (Pn.mk (x1.ldT ?_))
    rw [ht]
    have hne : 0 < (popK j L).ents.length := by omega
    have hle : (popK j L).ents.length ≤ 6 := by omega
    have elL : (popK j L).last = L.base + ((L.ents.length - j : Nat) : Int) := by unfold LogS.last; rw [sb, sl']
    obtain ⟨ha, hcl⟩ := h1.holds.pop h1.clean hne hle
    rw [elL] at ha hcl
    have hu : A1.used (sl (L.base + ((L.ents.length - j : Nat) : Int))) = true := by
      obtain ⟨e, he⟩ : ∃ e, (popK j L).ents[(popK j L).ents.length - 1]? = some e := ⟨_, List.getElem?_eq_getElem (by omega)⟩
      have := (h1.holds.live _ e he).1
      rw [sb, sl', show L.base + 1 + ((L.ents.length - j - 1 : Nat) : Int) = L.base + ((L.ents.length - j : Nat) : Int) by omega] at this
      exact this
    refine oDel_ok h1.st p1 (by omega) h1.holds (hS j (by omega)) (sl_lt _) hu ha (by rw [← popK_succ]; exact hS (j + 1) (by omega)) fun w2 D2 F2 s2 p2 q2 he2 hg2 => Bm.neg rfl (Pn.mk ?_)
    have g2 : RlAt w2 l X := ownT he2 h1.st.tys x1 (by decide)
    refine g2.ldI (o := 6) (by omega) rfl (Pn.mk ?_)
    rw [elast, w64 (by omega) (by omega)]
    refine g2.stLast fun w3 hs3 g3 he3 => ⟨k - (j + 1), by omega, j + 1, D2, F2, _, by omega, rfl, rfl, rfl, ⟨s2.extT he3 (Tys.one g2) (fun q hq => by simp at hq; subst hq; decide), ⟨_, g3, ?_⟩, ?_, ?_, ?_⟩, p2, by omega, ?_, ?_, fun q => by omega⟩
    · rw [popK_succ]
      refine ⟨ht, x2.term, x2.vote, x2.base, x2.bterm, x2.snap, ?_, fun q e he => ?_⟩
      · show L.base + ((L.ents.length - j : Nat) : Int) - 1 = (popL (popK j L)).base + ((popL (popK j L)).ents.length : Int)
        rw [popL_len, sl']
        show _ = (popK j L).base + _
        rw [sb]
        omega
      · have he' : (popK j L).ents.dropLast[q]? = some e := he
        have hq := (List.getElem?_eq_some_iff.1 he').1
        rw [List.length_dropLast] at hq
        rw [List.getElem?_dropLast, if_pos (by omega)] at he'
        exact x2.ring q e he'
    · rw [popK_succ]; exact popL_ok h1.ok
    · rw [popK_succ]; exact ha
    · rw [popK_succ]; exact hcl
    · refine (he1.trans' he2 (fun y hy hlt => ?_)).trans (he3.mono (fun x hx _ => by simp at hx; simp [hx]))
      rcases List.mem_cons.1 hy with e | e
      · rw [e]; simp
      · rcases hg1 y e with z | z
        · exact List.mem_cons_of_mem _ (List.mem_cons_of_mem _ z)
        · omega
    · exact hg1.trans he1.size hg2
  · have hjk : j = k := by omega
    subst hjk
    exact hR w1 D1 F1 A1 h1 p1 q1 he1 hg1 hz1
def truncS (i : Int) (L : LogS) : Int × List LogS := if i ≤ L.base then (7, []) else (0, popsN (L.last - i + 1).toNat L)
theorem memPP {P S : List LogS} {L X : LogS} (h : L ∈ P) (hx : X ∈ L :: S) : X ∈ P ++ S := by
  rcases List.mem_cons.1 hx with e | e
  · rw [e]; exact List.mem_append.2 (.inl h)
  · exact List.mem_append.2 (.inr e)
theorem realTrunc_ok {P : List LogS} {i : Int} {R : Int → World → Prop} (h : Real w l t d D F A L) (hp : Path D P N) (hLP : L ∈ P) (hl : D.log.length ≤ 500)
    (hR : ∀ w', Did w l t d D F N P (truncS i L).2 (finL L (truncS i L).2) w' → R (truncS i L).1 w') : rlog_Log_TruncateFrom.Call (some ⟨l, 0, none⟩) i w R := by
  apply rlog_Log_TruncateFrom.sound
  unfold rlog_Log_TruncateFrom.B0
  unfold truncS at hR
  have hn := h.ok.len
  obtain ⟨X, x1, x2⟩ := h.rl
  refine Pn.mk (x1.ldI (o := 3) (by omega) rfl ?_)
  rw [x2.base]
  refine Bm.ite (fun hc => ?_) fun hc => ?_
  · rw [if_pos hc] at hR
    exact hR w (h.did0 hp (Ext.refl _ _))
  · rw [if_neg hc] at hR
    have hk : (L.last - i + 1).toNat ≤ L.ents.length := by unfold LogS.last; omega
    refine dropFrom_ok (k := (L.last - i + 1).toNat) h (hp.app hLP (popsN (L.last - i + 1).toNat L)) hl hk (by omega) (fun j hj => memPP hLP (popK_mem hj)) fun w1 D1 F1 A1 r1 p1 q1 he1 hg1 hz1 => hR w1 ⟨⟨D1, F1, A1, by rw [popsN_last]; exact r1, p1.mono (fun x hx => hx) (by omega), by omega, hg1, fun q => ?_⟩, he1⟩
    have q2 := congrArg List.length q
    rw [popsN_len] at q2
    exact hz1 q2
theorem callEq {a b : Option Addr} {s : Int} {w : World} {R : Int → World → Prop} (e : a = b) (h : store_Store_DelRec.Call b s w R) : store_Store_DelRec.Call a s w R := e ▸ h
/-- The base moved up; the rubbish swept. -/
theorem rebase_ok {k : Nat} {tm : Int} {sn : ByteArray} {R : Int → World → Prop} (h : Real w l t d D F A L) (hp : Path D S N) (hN : N ≤ 4611686018427387904) (hl : D.log.length ≤ 450) (hk : k ≤ L.ents.length) (ht' : 0 ≤ tm ∧ tm ≤ 72057594037927936) (hsn : sn.size ≤ 128) (hL : L ∈ S) (hL1 : rebL k tm sn L ∈ S)
    (hR : ∀ w' D' F' A', Real w' l t d D' F' A' (rebL k tm sn L) → Path D' S (N + 1) → D'.log.length ≤ D.log.length + 18 → Ext (l :: t :: F) w w' → Grew w F F' → R 0 w') : rlog_Log_rebase.Call (some ⟨l, 0, none⟩) (L.base + (k : Int)) tm sn w R := by
  apply rlog_Log_rebase.sound
  unfold rlog_Log_rebase.B0
  have hb := h.ok.base
  have hla := h.ok.last
  have hn := h.ok.len
  obtain ⟨X, x1, x2⟩ := h.rl
  have ht := x2.t
  refine Pn.mk (x1.ldT ?_)
  rw [ht]
  have hreb := h.holds.reb h.clean hb hk tm sn
  refine oSnap_ok h.st hp hN hl h.holds hL (by unfold snapErr; rw [if_neg (by omega), if_neg (by omega)]) hsn hreb hL1 fun w1 D1 F1 s1 p1 q1 he1 hg1 => Bm.neg rfl (Pn.mk ?_)
  have g1 : RlAt w1 l X := ownT he1 h.st.tys x1 (by decide)
  refine g1.ldI (o := 3) (by omega) rfl (Pn.mk (g1.stBase fun w2 hs2 g2 he2 => Pn.mk (g2.stBterm fun w3 hs3 g3 he3 => Pn.mk (g3.stSnap fun w4 hs4 g4 he4 => ?_))))
  rw [x2.base, w64 (by omega) (by omega)]
  have s4 := ((s1.extT he2 (Tys.one g1) (fun q hq => by simp at hq; subst hq; decide)).extT he3 (Tys.one g2) (fun q hq => by simp at hq; subst hq; decide)).extT he4 (Tys.one g3) (fun q hq => by simp at hq; subst hq; decide)
  have ex4 : Ext (l :: t :: F) w w4 := (((he1.mono (fun x hx _ => List.mem_cons_of_mem _ hx)).trans (he2.mono (fun x hx _ => by simp at hx; simp [hx]))).trans (he3.mono (fun x hx _ => by simp at hx; simp [hx]))).trans (he4.mono (fun x hx _ => by simp at hx; simp [hx]))
  have mir : Mir { X with base := L.base + (k : Int), bterm := tm, snap := sn } t (rebL k tm sn L) := by
    refine ⟨ht, x2.term, x2.vote, rfl, rfl, rfl, ?_, fun i e he => ?_⟩
    · show X.last = L.base + (k : Int) + ((L.ents.drop k).length : Int)
      rw [x2.last, List.length_drop]
      unfold LogS.last
      omega
    · have he' : (L.ents.drop k)[i]? = some e := he
      rw [List.getElem?_drop] at he'
      have := x2.ring _ e he'
      show X.tf (sl (L.base + (k : Int) + 1 + (i : Int))) = _ ∧ X.df (sl (L.base + (k : Int) + 1 + (i : Int))) = _
      rw [show L.base + (k : Int) + 1 + (i : Int) = L.base + 1 + ((k + i : Nat) : Int) by omega]
      exact this
  have okR : LogOk (rebL k tm sn L) := ⟨h.ok.term, h.ok.vote, by show 0 ≤ L.base + (k : Int); omega, ht', hsn, by show (L.ents.drop k).length ≤ 6; simp; omega, by show L.base + (k : Int) + ((L.ents.drop k).length : Int) ≤ _; simp; omega, fun e he => h.ok.ent e (List.mem_of_mem_drop he)⟩
  unfold rlog_Log_rebase.L1
  refine ⟨fun mm l' idx' i' w' => ∃ (j : Nat) (D' : DiskS) (F' : List Nat) (A' : AbsS), j ≤ k ∧ mm = k - j ∧ some ⟨l, 0, none⟩ = l' ∧ L.base + (k : Int) = idx' ∧ i' = L.base + 1 + (j : Int) ∧ St w' t d D' F' A' ∧ RlAt w' l { X with base := L.base + (k : Int), bterm := tm, snap := sn } ∧ Holds A' (rebL k tm sn L) ∧ (∀ s, s < 6 → A'.used s = true → ∃ q : Nat, j ≤ q ∧ q < L.ents.length ∧ s = sl (L.base + 1 + (q : Int))) ∧ (∀ q : Nat, j ≤ q → q < L.ents.length → A'.used (sl (L.base + 1 + (q : Int))) = true) ∧ Path D' S (N + 1) ∧ D'.log.length ≤ D.log.length + 6 + 2 * j ∧ Ext (l :: t :: F) w w' ∧ Grew w F F', _,
    ⟨0, D1, F1, _, by omega, rfl, rfl, rfl, by omega, s4, g4, hreb, ?_, ?_, p1, by omega, ex4, hg1⟩, ?_⟩
  · intro s hs hu
    obtain ⟨q, hq, e⟩ := h.clean s hs hu
    exact ⟨q, by omega, hq, e⟩
  · intro q _ hq
    exact (h.holds.live q _ (getD_some' hq)).1
  rintro mm l' idx' i' w5 ⟨j, D5, F5, A5, hj, rfl, rfl, rfl, rfl, s5, g5, hh5, hr5, hu5, p5, q5, ex5, hg5⟩
  unfold rlog_Log_rebase.L1b
  refine Bm.ite (fun hc => slotOf_ok (by omega) (Pn.mk (g5.ldT ?_))) fun hc => ?_
  · have hjk : j < k := by omega
    have hrub := hh5.rub (s := sl (L.base + 1 + (j : Int))) (fun i hi e => by
      have hi' : i < (L.ents.drop k).length := hi
      rw [List.length_drop] at hi'
      have e' : sl (L.base + 1 + (j : Int)) = sl (L.base + (k : Int) + 1 + (i : Int)) := e
      rw [show L.base + (k : Int) + 1 + (i : Int) = L.base + 1 + ((k + i : Nat) : Int) by omega] at e'
      have := sl_ne (by omega) (by omega) e'
      omega)
    show store_Store_DelRec.Call (some ⟨X.t, 0, none⟩) _ _ _
    have et : (some ⟨X.t, 0, none⟩ : Option Addr) = some ⟨t, 0, none⟩ := by rw [ht]
    refine callEq et ?_
    refine oDel_ok s5 p5 (by omega) hh5 hL1 (sl_lt _) (hu5 j (Nat.le_refl _) (by omega)) hrub hL1 fun w6 D6 F6 s6 p6 q6 he6 hg6 => Bm.neg rfl ⟨k - (j + 1), by omega, j + 1, D6, F6, _, by omega, rfl, rfl, rfl, by rw [w64 (by omega) (by omega)]; omega, s6, ownT he6 s5.tys g5 (by decide), hrub, ?_, ?_, p6, by omega, ?_, hg5.trans ex5.size hg6⟩
    · intro s hs hu
      have hu' : upd A5.used (sl (L.base + 1 + (j : Int))) false s = true := hu
      by_cases e : s = sl (L.base + 1 + (j : Int))
      · rw [e, upd_eq] at hu'; cases hu'
      · rw [upd_ne _ _ e] at hu'
        obtain ⟨q, h1, h2, h3⟩ := hr5 s hs hu'
        refine ⟨q, ?_, h2, h3⟩
        rcases Nat.lt_or_ge j q with z | z
        · exact z
        · have : q = j := by omega
          rw [this] at h3
          exact absurd h3 e
    · intro q h1 h2
      show upd A5.used (sl (L.base + 1 + (j : Int))) false (sl (L.base + 1 + (q : Int))) = true
      rw [upd_ne _ _ (fun e => by have := sl_ne (by omega) (by omega) e; omega)]
      exact hu5 q (by omega) h2
    · refine ex5.trans' he6 (fun y hy hlt => ?_)
      rcases List.mem_cons.1 hy with e | e
      · rw [e]; simp
      · rcases hg5 y e with z | z
        · exact List.mem_cons_of_mem _ (List.mem_cons_of_mem _ z)
        · omega
  · have hjk : j = k := by omega
    subst hjk
    refine hR w5 D5 F5 A5 ⟨s5, ⟨_, g5, mir⟩, okR, hh5, fun s hs hu => ?_⟩ p5 (by omega) ex5 hg5
    obtain ⟨q, h1, h2, h3⟩ := hr5 s hs hu
    refine ⟨q - j, by show q - j < (L.ents.drop j).length; simp; omega, ?_⟩
    show s = sl (L.base + (j : Int) + 1 + ((q - j : Nat) : Int))
    rw [h3]
    congr 1
    omega
def compactS (u : Int) (sn : ByteArray) (L : LogS) : Int × List LogS := if 128 < sn.size then (5, []) else if u ≤ L.base then (7, []) else if L.last < u then (2, []) else (0, [rebL (u - L.base).toNat (L.ents.getD (u - L.base - 1).toNat (0, estr)).1 sn L])
theorem did1 {P : List LogS} {w : World} {l t d : Nat} {D : DiskS} {F : List Nat} {N : Int} {L L1 : LogS} {w' : World} {D' : DiskS} {F' : List Nat} {A' : AbsS} (h : Real w' l t d D' F' A' L1) (hp : Path D' (P ++ [L1]) (N + 1)) (hl : D'.log.length ≤ D.log.length + 20) (he : Ext (l :: t :: F) w w') (hg : Grew w F F') : Did w l t d D F N P [L1] (finL L [L1]) w' :=
  ⟨⟨D', F', A', h, hp, hl, hg, fun q => (by simp at q)⟩, he⟩
theorem realCompact_ok {P : List LogS} {u : Int} {sn : ByteArray} {R : Int → World → Prop} (h : Real w l t d D F A L) (hp : Path D P N) (hLP : L ∈ P) (hN : N ≤ 4611686018427387904) (hl : D.log.length ≤ 450)
    (hR : ∀ w', Did w l t d D F N P (compactS u sn L).2 (finL L (compactS u sn L).2) w' → R (compactS u sn L).1 w') : rlog_Log_Compact.Call (some ⟨l, 0, none⟩) u sn w R := by
  apply rlog_Log_Compact.sound
  unfold rlog_Log_Compact.B0
  unfold compactS at hR
  have hb := h.ok.base
  have hla := h.ok.last
  obtain ⟨X, x1, x2⟩ := h.rl
  refine Bm.ite (fun hc => ?_) fun hc => Pn.mk (x1.ldI (o := 3) (by omega) rfl ?_)
  · rw [if_pos (by omega)] at hR
    exact hR w (h.did0 hp (Ext.refl _ _))
  rw [if_neg (by omega)] at hR
  rw [x2.base]
  refine Bm.ite (fun hc2 => ?_) fun hc2 => Pn.mk (x1.ldI (o := 6) (by omega) rfl ?_)
  · rw [if_pos hc2] at hR
    exact hR w (h.did0 hp (Ext.refl _ _))
  rw [if_neg hc2] at hR
  rw [x2.last]
  refine Bm.ite (fun hc3 => ?_) fun hc3 => ?_
  · rw [if_pos hc3] at hR
    exact hR w (h.did0 hp (Ext.refl _ _))
  rw [if_neg hc3] at hR
  unfold LogS.last at hc3
  have hs := sl_lt u
  refine slotOf_ok (by omega) (Pn.mk ⟨⟨by omega, by omega⟩, x1.ldTf hs ?_⟩)
  have hq : (u - L.base - 1).toNat < L.ents.length := by omega
  have hg := (x2.ring _ _ (getD_some' hq)).1
  rw [show L.base + 1 + (((u - L.base - 1).toNat : Nat) : Int) = u by omega] at hg
  rw [hg]
  have hent := h.ok.ent _ (List.mem_of_getElem? (getD_some' hq))
  have eu : u = L.base + (((u - L.base).toNat : Nat) : Int) := by omega
  have key := rebase_ok (R := R) (k := (u - L.base).toNat) (tm := (L.ents.getD (u - L.base - 1).toNat (0, estr)).1) (sn := sn) h (hp.app hLP [rebL (u - L.base).toNat (L.ents.getD (u - L.base - 1).toNat (0, estr)).1 sn L]) hN hl (by omega) ⟨hent.1, hent.2.1⟩ (by omega) (List.mem_append.2 (.inl hLP)) (List.mem_append.2 (.inr (by simp))) fun w1 D1 F1 A1 r1 p1 q1 he1 hg1 => hR w1 (did1 r1 p1 (by omega) he1 hg1)
  rw [← eu] at key
  exact key
def installS (idx tm : Int) (sn : ByteArray) (L : LogS) : Int × List LogS := if idx < 0 ∨ 72057594037927936 < idx ∨ tm < 0 ∨ 72057594037927936 < tm then (1, []) else if 128 < sn.size then (5, []) else if idx ≤ L.base then (7, []) else if termL L idx = (tm, 0) then (0, [rebL (idx - L.base).toNat tm sn L]) else (0, popsN L.ents.length L ++ [insL idx tm sn (popK L.ents.length L)])
theorem realInstall_ok {P : List LogS} {idx tm : Int} {sn : ByteArray} {R : Int → World → Prop} (h : Real w l t d D F A L) (hp : Path D P N) (hLP : L ∈ P) (hN : N ≤ 4611686018427387904) (hl : D.log.length ≤ 80)
    (hR : ∀ w', Did w l t d D F N P (installS idx tm sn L).2 (finL L (installS idx tm sn L).2) w' → R (installS idx tm sn L).1 w') : rlog_Log_Install.Call (some ⟨l, 0, none⟩) idx tm sn w R := by
  apply rlog_Log_Install.sound
  unfold rlog_Log_Install.B0
  unfold installS at hR
  have hb := h.ok.base
  have hla := h.ok.last
  have hn := h.ok.len
  have bad : (idx < 0 ∨ 72057594037927936 < idx ∨ tm < 0 ∨ 72057594037927936 < tm) → rlog_Log_Install.B1 (some ⟨l, 0, none⟩) idx tm sn true w R := fun hc => by
    unfold rlog_Log_Install.B1
    rw [if_pos hc] at hR
    exact Bm.pos rfl (hR w (h.did0 hp (Ext.refl _ _)))
  refine Bm.ite (fun q => bad (.inl q)) fun a1 => Bm.ite (fun q => bad (.inr (.inl q))) fun a2 => Bm.ite (fun q => bad (.inr (.inr (.inl q)))) fun a3 => ?_
  by_cases a4 : tm > 72057594037927936
  · rw [decide_eq_true a4]; exact bad (.inr (.inr (.inr a4)))
  rw [decide_eq_false a4]
  rw [if_neg (by omega)] at hR
  unfold rlog_Log_Install.B1
  obtain ⟨X, x1, x2⟩ := h.rl
  refine Bm.neg rfl (Bm.ite (fun hc => ?_) fun hc => Pn.mk (x1.ldI (o := 3) (by omega) rfl ?_))
  · rw [if_pos (by omega)] at hR
    exact hR w (h.did0 hp (Ext.refl _ _))
  rw [if_neg (by omega)] at hR
  rw [x2.base]
  refine Bm.ite (fun hc2 => ?_) fun hc2 => rTermAt_ok (by omega) x1 x2 h.ok fun w1 he1 => ?_
  · rw [if_pos hc2] at hR
    exact hR w (h.did0 hp (Ext.refl _ _))
  rw [if_neg hc2] at hR
  have h1 := h.ext0 he1
  have up : ∀ {S L' w'}, Did w1 l t d D F N P S L' w' → Did w l t d D F N P S L' w' := fun {S L' w'} hd => by
    obtain ⟨⟨D', F', A', r, p, q, g, z⟩, e⟩ := hd
    exact ⟨⟨D', F', A', r, p, q, fun k hk => (g k hk).imp id (fun z => by have := he1.size; omega), z⟩, (he1.nil).trans e⟩
  have other : termL L idx ≠ (tm, 0) → rlog_Log_Install.B2 (some ⟨l, 0, none⟩) idx tm sn false w1 R := fun hne => by
    rw [if_neg hne] at hR
    unfold rlog_Log_Install.B2
    obtain ⟨Y, y1, y2⟩ := h1.rl
    refine Bm.neg rfl (Pn.mk (y1.ldI (o := 3) (by omega) rfl ?_))
    rw [y2.base, w64 (by omega) (by omega)]
    have hmem : ∀ x ∈ L :: popsN L.ents.length L, x ∈ P ++ (popsN L.ents.length L ++ [insL idx tm sn (popK L.ents.length L)]) := fun x hx => by
      rcases List.mem_cons.1 hx with e | e
      · rw [e]; exact List.mem_append.2 (.inl hLP)
      · exact List.mem_append.2 (.inr (List.mem_append.2 (.inl e)))
    refine dropFrom_ok (k := L.ents.length) h1 (hp.app hLP (popsN L.ents.length L ++ [insL idx tm sn (popK L.ents.length L)])) (by omega) (Nat.le_refl _) (by unfold LogS.last; omega) (fun j hj => hmem _ (popK_mem hj)) fun w2 D2 F2 A2 r2 p2 q2 he2 hg2 _ => Bm.neg rfl (Pn.mk ?_)
    obtain ⟨Z, z1, z2⟩ := r2.rl
    refine z1.ldT ?_
    rw [z2.t]
    obtain ⟨sb, sl', s3, s4, s5, s6⟩ := popK_same L.ents.length L
    have hnil : (popK L.ents.length L).ents = [] := List.eq_nil_of_length_eq_zero (by omega)
    obtain ⟨ha, hcl⟩ := r2.holds.ins r2.clean hnil idx tm sn
    refine oSnap_ok r2.st p2 hN (by omega) r2.holds (hmem _ (popK_mem (Nat.le_refl _))) (by unfold snapErr; rw [if_neg (by omega), if_neg (by omega)]) (by omega) ha (List.mem_append.2 (.inr (List.mem_append.2 (.inr (by simp))))) fun w3 D3 F3 s3' p3 q3 he3 hg3 => Bm.neg rfl (Pn.mk ?_)
    have g3 : RlAt w3 l Z := ownT he3 r2.st.tys z1 (by decide)
    refine g3.stBase fun w4 hs4 g4 he4 => Pn.mk (g4.stBterm fun w5 hs5 g5 he5 => Pn.mk (g5.stSnap fun w6 hs6 g6 he6 => Pn.mk (g6.stLast fun w7 hs7 g7 he7 => ?_)))
    have sx := (((s3'.extT he4 (Tys.one g3) (fun q hq => by simp at hq; subst hq; decide)).extT he5 (Tys.one g4) (fun q hq => by simp at hq; subst hq; decide)).extT he6 (Tys.one g5) (fun q hq => by simp at hq; subst hq; decide)).extT he7 (Tys.one g6) (fun q hq => by simp at hq; subst hq; decide)
    have efin : finL L (popsN L.ents.length L ++ [insL idx tm sn (popK L.ents.length L)]) = insL idx tm sn (popK L.ents.length L) := by unfold finL; simp
    have hd : Did w1 l t d D F N P (popsN L.ents.length L ++ [insL idx tm sn (popK L.ents.length L)]) (insL idx tm sn (popK L.ents.length L)) w7 := by
      refine ⟨⟨D3, F3, _, ⟨sx, ⟨_, g7, ⟨z2.t, z2.term, z2.vote, rfl, rfl, rfl, ?_, fun i e he => by simp [insL] at he⟩⟩, ⟨r2.ok.term, r2.ok.vote, by show 0 ≤ idx; omega, by show 0 ≤ tm ∧ tm ≤ _; omega, by show sn.size ≤ 128; omega, by simp [insL], ?_, fun e he => (by simp [insL] at he)⟩, ha, hcl⟩, p3, by omega, hg2.trans he2.size hg3, fun q => (by simp at q)⟩, ?_⟩
      · show idx = idx + ((([] : List (Int × ByteArray)).length : Nat) : Int); simp
      · show idx + ((([] : List (Int × ByteArray)).length : Nat) : Int) ≤ _; simp; omega
      · have f3 : Ext (l :: t :: F) w1 w3 := he2.trans' he3 (fun y hy hlt => by
          rcases List.mem_cons.1 hy with e | e
          · rw [e]; simp
          · rcases hg2 y e with z | z
            · exact List.mem_cons_of_mem _ (List.mem_cons_of_mem _ z)
            · omega)
        exact (((f3.trans (he4.mono (fun x hx _ => by simp at hx; simp [hx]))).trans (he5.mono (fun x hx _ => by simp at hx; simp [hx]))).trans (he6.mono (fun x hx _ => by simp at hx; simp [hx]))).trans (he7.mono (fun x hx _ => by simp at hx; simp [hx]))
    have := hR w7 (by rw [efin]; exact up hd)
    exact this
  by_cases e0 : (termL L idx).2 = 0
  · refine Bm.pos (by simpa using e0) ?_
    by_cases et : (termL L idx).1 = tm
    · rw [show ((termL L idx).1 == tm) = true by simpa using et]
      have eq : termL L idx = (tm, 0) := Prod.ext et e0
      rw [if_pos eq] at hR
      unfold rlog_Log_Install.B2
      have hin : idx ≤ L.last := by
        unfold termL at e0
        rw [if_neg (by omega)] at e0
        unfold atL at e0
        rw [if_neg (by omega)] at e0
        by_cases c : L.last < idx
        · rw [if_pos c] at e0; cases e0
        · omega
      unfold LogS.last at hin
      have eu : idx = L.base + (((idx - L.base).toNat : Nat) : Int) := by omega
      have key := rebase_ok (R := fun r w2 => R r w2) (k := (idx - L.base).toNat) (tm := tm) (sn := sn) h1 (hp.app hLP [rebL (idx - L.base).toNat tm sn L]) hN (by omega) (by omega) (by omega) (by omega) (List.mem_append.2 (.inl hLP)) (List.mem_append.2 (.inr (by simp))) fun w2 D2 F2 A2 r2 p2 q2 he2 hg2 => hR w2 (up (did1 r2 p2 (by omega) he2 hg2))
      rw [← eu] at key
      exact Bm.pos rfl key
    · rw [show ((termL L idx).1 == tm) = false by simpa using et]
      exact other fun q => et (by rw [q])
  · refine Bm.neg (by simpa using e0) (other fun q => e0 (by rw [q]))
end
end Go.Proofs.Qxb6500430aGreat
