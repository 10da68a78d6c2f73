/-
  host: the work: whole datagrams in flight, in order.
-/
import Derived.Test.Qxb6500424aGreatHsJ
set_option linter.unusedVariables false
set_option linter.unusedSimpArgs false
namespace Go.Proofs.Qxb6500424aGreat
/-- A datagram in flight: its host, its number, and what it is. -/
abbrev Gq := Nat × Nat × DG
def Gq.fg (q : Gq) : Fg := (q.1, q.2.2)
def Gq.cnt (q : Gq) : Nat := Ip.cntF (q.2.2.D q.1).length
def Gq.key (q : Gq) : Int := ((q.1 : Int) + 1) * 65536 + 1536 + (q.2.1 : Int) % 256
def frsQ (T : Int) (q : Gq) : List FL := (List.range q.cnt).map fun i => ⟨q.2.2.fr q.1 q.2.1 i, T - q.2.2.t, false⟩
def mkQ (c : Nat) : Nat → List DG → List Gq
  | _, [] => []
  | n, g :: l => (c, n, g) :: mkQ c (n + 1) l
def flF (F : List Int) : FL := ⟨F, 0, false⟩
section
variable {T : Int} {c n : Nat} {E : List DG} {q : Gq}
theorem mkQ_frs : ∀ (E : List DG) (n : Nat), (∀ g ∈ E, g.t = T) → (mkQ c n E).flatMap (frsQ T) = (fsOf c n E).map flF
  | [], n, _ => rfl
  | g :: l, n, h => by
    have ht := h g (List.mem_cons_self ..)
    show frsQ T (c, n, g) ++ (mkQ c (n + 1) l).flatMap (frsQ T) = _
    rw [mkQ_frs l (n + 1) (fun x hx => h x (List.mem_cons_of_mem _ hx))]
    show _ = (((List.range (Ip.cntF (g.D c).length)).map (fun i => g.fr c n i)) ++ fsOf c (n + 1) l).map flF
    rw [List.map_append, List.map_map]
    congr 1
    unfold frsQ
    congr 1
    funext i
    show (⟨g.fr c n i, T - g.t, false⟩ : FL) = flF (g.fr c n i)
    unfold flF
    rw [ht, Int.sub_self]
theorem mkQ_fg : ∀ (E : List DG) (n : Nat), (mkQ c n E).map Gq.fg = E.map fun g => (c, g)
  | [], n => rfl
  | g :: l, n => by
    show Gq.fg (c, n, g) :: (mkQ c (n + 1) l).map Gq.fg = _
    rw [mkQ_fg l (n + 1)]
    rfl
theorem mkQ_mem : ∀ (E : List DG) (n : Nat) {q : Gq}, q ∈ mkQ c n E → q.1 = c ∧ ∃ k, k < E.length ∧ q.2.1 = n + k ∧ E[k]? = some q.2.2
  | [], n, q, h => by cases h
  | g :: l, n, q, h => by
    rcases List.mem_cons.1 h with w | w
    · subst w
      exact ⟨rfl, 0, by simp, rfl, rfl⟩
    · obtain ⟨a, k, b, e, f⟩ := mkQ_mem l (n + 1) w
      exact ⟨a, k + 1, by simp; omega, by omega, by simpa using f⟩
theorem mkQ_nodup : ∀ (E : List DG) (n : Nat), ((mkQ c n E).map fun q => (q.1, q.2.1)).Nodup
  | [], n => List.nodup_nil
  | g :: l, n => by
    show ((c, n) :: (mkQ c (n + 1) l).map fun q => (q.1, q.2.1)).Nodup
    refine List.nodup_cons.2 ⟨fun h => ?_, mkQ_nodup l (n + 1)⟩
    obtain ⟨q, hq, e⟩ := List.mem_map.1 h
    obtain ⟨_, k, _, e2, _⟩ := mkQ_mem l (n + 1) hq
    have : q.2.1 = n := congrArg Prod.snd e
    omega
theorem nwQ_mk (T : Int) (d : Nat) (O : List OutS) (n : Nat) : (mkQ d n ((O.filter (encB d)).map (dgO T))).map Gq.fg = nwQ T d O := by
  rw [mkQ_fg, List.map_map]
  rfl
end
/-- Rows with few ticks left. -/
def Sl (s : Int) (A : List Ip.AR) : Prop := ∀ r ∈ A, r.left ≤ s
structure TabP (s : Int) (H : Nat → HS) (Qo : List Gq) (p : Nat) : Prop where
  ok : (p = 0 ∧ ∀ c, c < 3 → Sl s (H c).A) ∨ (p = 1 ∧ ∃ q0 Q', Qo = q0 :: Q' ∧ q0.cnt = 2 ∧ (∀ c : Nat, c < 3 → q0.2.2.d ≠ (c : Int) + 1 → Sl s (H c).A) ∧
    ∀ d : Nat, d < 3 → q0.2.2.d = (d : Int) + 1 → ∃ A0, Sl s A0 ∧ NoKey q0.key A0 ∧ ((∃ r, Half q0.key r ∧ (H d).A = Ip.insA r A0) ∨ (A0.length = 3 ∧ (H d).A = A0)))
structure NQ (T : Int) (M : Nat → List DG) (q : Gq) : Prop where
  c3 : q.1 < 3
  at_ : (M q.1)[q.2.1]? = some q.2.2
  lo : T - 1 ≤ q.2.2.t
  hi : q.2.2.t ≤ T
/-- The wire holds whole datagrams; of the first p fragments have gone. -/
structure Neat (s T : Int) (H : Nat → HS) (W : List FL) (M : Nat → List DG) (Qo Qn : List Gq) (p : Nat) : Prop where
  w : W = (Qo.flatMap (frsQ T)).drop p ++ Qn.flatMap (frsQ T)
  qo : ∀ q ∈ Qo, NQ T M q
  qn : ∀ q ∈ Qn, NQ T M q ∧ q.2.2.t = T
  nd : ((Qo ++ Qn).map fun q => (q.1, q.2.1)).Nodup
  tab : TabP s H Qo p
  nk : ∀ d, d < 3 → ∀ q ∈ Qo.drop p ++ Qn, NoKey q.key (H d).A
section
variable {s T : Int} {H H' : Nat → HS} {W W' : List FL} {M M' : Nat → List DG} {Qo Qn : List Gq} {p c n d : Nat} {G : List GE} {X : Nat → CS} {Lg : List LE} {q q' : Gq}
theorem NQ.len (h : NQ T M q) (pw : PW T H W G X Lg M) : 8 ≤ (q.2.2.D q.1).length ∧ (q.2.2.D q.1).length ≤ 20 := DG.len ((pw.lk q.1 h.c3).ok q.2.2 (List.mem_of_getElem? h.at_)).1
theorem NQ.cnt (h : NQ T M q) (pw : PW T H W G X Lg M) : (q.cnt = 1 ∧ (q.2.2.D q.1).length ≤ 16) ∨ (q.cnt = 2 ∧ 16 < (q.2.2.D q.1).length) := by
  have := h.len pw
  unfold Gq.cnt Ip.cntF
  rw [if_neg (by omega)]
  omega
/-- Two datagrams in flight have two keys. -/
theorem NQ.keys (h : NQ T M q) (h' : NQ T M q') (pw : PW T H W G X Lg M) (hne : (q.1, q.2.1) ≠ (q'.1, q'.2.1)) : q.key ≠ q'.key := fun e => by
  unfold Gq.key at e
  have ec : q.1 = q'.1 := by omega
  have a1 := h.at_
  have a2 := h'.at_
  have b1 := h.lo
  have b2 := h.hi
  have b3 := h'.lo
  have b4 := h'.hi
  rw [← ec] at a2
  have := (pw.lk q.1 h.c3).ids a1 a2 (by omega) (by omega) (by omega)
  exact hne (by rw [ec, this])
/-- A datagram that is new has a key of its own. -/
theorem row_new {A : List Ip.AR} {Lg' : List LE} (rs : RsAll T d M A) (lk : LinkOk c T (H c) (M' c) Lg') (hM : ∃ E, M' c = M c ++ E) {g : DG} (hat : (M' c)[n]? = some g) (hn : (M c).length ≤ n) (ht : g.t = T) : NoKey (((c : Int) + 1) * 65536 + 1536 + (n : Int) % 256) A := fun r hr e => by
  obtain ⟨c2, n2, g2, q⟩ := rs r hr
  have k := q.key
  have ec : c2 = c := by omega
  subst ec
  obtain ⟨E, hE⟩ := hM
  have hlt := (List.getElem?_eq_some_iff.1 q.at_).1
  have a2 : (M' c2)[n2]? = some g2 := by rw [hE, List.getElem?_append_left hlt]; exact q.at_
  have h1 := lk.le a2
  have := q.left
  have := q.tm
  have := lk.ids a2 hat (by omega) (by omega) (by omega)
  omega
theorem Sl.tick {A : List Ip.AR} (h : Sl s A) : Sl (s - 1) (Ip.tickA A) := fun r hr => by
  unfold Ip.tickA at hr
  obtain ⟨hr, _⟩ := List.mem_filter.1 hr
  obtain ⟨r0, h0, rfl⟩ := List.mem_map.1 hr
  have := h r0 h0
  show r0.left - 1 ≤ s - 1
  omega
theorem NoKey.tick {κ : Int} {A : List Ip.AR} (h : NoKey κ A) : NoKey κ (Ip.tickA A) := fun r hr => by
  unfold Ip.tickA at hr
  obtain ⟨hr, _⟩ := List.mem_filter.1 hr
  obtain ⟨r0, h0, rfl⟩ := List.mem_map.1 hr
  exact h r0 h0
theorem Sl.empty {A : List Ip.AR} (h : Sl 0 A) (rs : RsAll T d M A) : A = [] := by
  cases A with
  | nil => rfl
  | cons r A =>
    obtain ⟨_, _, _, q⟩ := rs r (List.mem_cons_self ..)
    have := q.left
    have := h r (List.mem_cons_self ..)
    omega
end
/-! ### what a frame does at the host it is for -/
section
variable {T : Int} {H : Nat → HS} {W : List FL} {M : Nat → List DG} {c n d i : Nat} {G : List GE} {X : Nat → CS} {Lg : List LE} {g : DG}
theorem input_R {f : FL} (hL : ∀ c, c < 3 → LinkOk c T (H c) (M c) Lg) (hA : RsAll T d M (H d).A) (hd : d < 3) (hf : FrOk T M f c n i g) (ha : f.age ≤ 4) (hfl : f.fl = false) (hdst : g.d = (d : Int) + 1) :
    ∃ R L', R = Ip.inF ((d : Int) + 1) (H d).A (Ip.pktF 6 ((c : Int) + 1) ((d : Int) + 1) ((n : Int) % 256) (g.D c) i) ∧ RsAll T d M R.tab ∧ T - 4 ≤ g.t ∧
      (R.err ≠ 0 → inputH (H d) f.raw = (dropH { H d with L := L', A := R.tab } 2, [])) ∧ (R.err = 0 → inputH (H d) f.raw = inTopH { H d with L := L', A := R.tab } ((c : Int) + 1) g.s) := by
  have lk := hL c hf.c3
  have hk := (lk.ok g (List.mem_of_getElem? hf.at_)).1
  have hD : (g.D c).length ≤ 40 := by have := DG.len hk; omega
  have had := (hL d hd).addr
  have hpl : (Ip.pktF 6 ((c : Int) + 1) g.d ((n : Int) % 256) (g.D c) i).length ≤ 24 := by
    have hc := Ip.cntF_le hD
    unfold Ip.pktF
    split
    · rw [Ip.pkt_length]; simp; omega
    · rw [Ip.pkt_length]; simp; omega
  have hraw := hf.raw hfl
  have hage := hf.age ha
  have a0 := hf.a0
  have hdec := Fm.decR_enc (dst := g.d) (addr := (c : Int) + 1) (typ := 1) (a := (H d).addr) hpl (by rw [had]; exact hdst)
  have hdec' : Fm.decR (H d).addr f.raw = ⟨0, 1, g.d, (c : Int) + 1, 1, Ip.pktF 6 ((c : Int) + 1) g.d ((n : Int) % 256) (g.D c) i⟩ := by rw [hraw]; exact hdec
  have gt := inF_got (H := H) (Lg := Lg) hL hA hf.c3 hf.at_ hdst (by omega) hf.il
  rw [hdst] at gt hdec'
  refine ⟨_, (H d).L.bump 1, rfl, gt.tab, by omega, ?_⟩
  unfold inputH
  rw [hdec']
  rw [if_neg (fun q => q rfl), if_neg (fun q => q rfl)]
  rw [← had] at gt ⊢
  generalize Ip.inF (H d).addr (H d).A (Ip.pktF 6 ((c : Int) + 1) (H d).addr ((n : Int) % 256) (g.D c) i) = R at gt
  show (_ → inIpH { H d with L := (H d).L.bump 1, A := R.tab } R = _) ∧ (_ → inIpH { H d with L := (H d).L.bump 1, A := R.tab } R = _)
  unfold inIpH
  refine ⟨fun he => by rw [if_pos he], fun he => ?_⟩
  rw [if_neg (by simp [he])]
  obtain ⟨r1, r2, r3, r4⟩ := gt.got he
  rw [if_neg (by simp [r3]), r1, r2, r4]
  have e0 : decErr ((c : Int) + 1) ((d : Int) + 1) (g.D c) = 0 := by
    rw [← hdst]
    exact round_err hk
  rw [if_neg (by simp [e0])]
  have e1 : (decHd (g.D c), (g.D c).drop 8) = g.s := by
    unfold DG.D
    rw [enc_hd, enc_drop]
  rw [e1]
end
end Go.Proofs.Qxb6500424aGreat
