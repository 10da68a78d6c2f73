/-
  host: the work: whole datagrams and the tick; the first round behind a loss.
-/
import Derived.Test.Qxb6500424aGreatHsL
set_option linter.unusedVariables false
set_option linter.unusedSimpArgs false
namespace Go.Proofs.Qxb6500424aGreat
section
variable {s s' T : Int} {H H' : Nat → HS} {W W' : List FL} {M M' : Nat → List DG} {Qo Qn Q : List Gq} {p c n d i : Nat} {G G' : List GE} {X X' : Nat → CS} {Lg Lg' : List LE} {q q0 : Gq} {g : DG}
theorem frsQ_age (h : q.2.2.t = T) : (frsQ T q).map ageF = frsQ (T + 1) q := by
  unfold frsQ
  rw [List.map_map]
  congr 1
  funext i
  show ageF ⟨q.2.2.fr q.1 q.2.1 i, T - q.2.2.t, false⟩ = (⟨q.2.2.fr q.1 q.2.1 i, T + 1 - q.2.2.t, false⟩ : FL)
  unfold ageF
  rw [h]
  simp only [Int.sub_self]
  rw [if_pos (by decide)]
  congr 1
  omega
def tQ (M : Nat → List DG) (Ef : Nat → List DG) : List Gq := mkQ 0 (M 0).length (Ef 0) ++ (mkQ 1 (M 1).length (Ef 1) ++ mkQ 2 (M 2).length (Ef 2))
theorem mem_tQ {Ef : Nat → List DG} (h : q ∈ tQ M Ef) : ∃ c, c < 3 ∧ q ∈ mkQ c (M c).length (Ef c) := by
  unfold tQ at h
  rcases List.mem_append.1 h with w | w
  · exact ⟨0, by omega, w⟩
  · rcases List.mem_append.1 w with w | w
    · exact ⟨1, by omega, w⟩
    · exact ⟨2, by omega, w⟩
theorem neat_tick {Ef : Nat → List DG} (h : Neat s T H W M [] Qn 0) (pw : PW T H W G X Lg M) (pw' : PW (T + 1) (tickHS H) W' G' X' Lg' M') (hA : ∀ c, c < 3 → (tickH (H c)).1.A = Ip.tickA (H c).A) (hM : ∀ c, c < 3 → M' c = M c ++ Ef c) (hE : ∀ c, c < 3 → ∀ g ∈ Ef c, g.t = T + 1) (hs : s - 1 ≤ s') :
    Neat s' (T + 1) (tickHS H) (W.map ageF ++ ((fsOf 0 (M 0).length (Ef 0)).map flF ++ ((fsOf 1 (M 1).length (Ef 1)).map flF ++ (fsOf 2 (M 2).length (Ef 2)).map flF))) M' (Qn ++ tQ M Ef) [] 0 := by
  have eA : ∀ c, c < 3 → (tickHS H c).A = Ip.tickA (H c).A := fun c hc => by unfold tickHS; rw [if_pos hc]; exact hA c hc
  have up : ∀ q ∈ Qn, NQ (T + 1) M' q := fun q hq => by
    obtain ⟨w, ht⟩ := h.qn q hq
    refine ⟨w.c3, ?_, by omega, by omega⟩
    rw [hM _ w.c3, List.getElem?_append_left (List.getElem?_eq_some_iff.1 w.at_).1]
    exact w.at_
  have new : ∀ q ∈ tQ M Ef, NQ (T + 1) M' q ∧ (M q.1).length ≤ q.2.1 ∧ q.2.2.t = T + 1 := fun q hq => by
    obtain ⟨c, hc, hq⟩ := mem_tQ hq
    obtain ⟨a, k, b, e, f⟩ := mkQ_mem _ _ hq
    have ht := hE c hc _ (List.mem_of_getElem? f)
    refine ⟨⟨by omega, ?_, by omega, by omega⟩, by rw [a]; omega, ht⟩
    rw [a, hM c hc, e, List.getElem?_append_right (by omega), show (M c).length + k - (M c).length = k by omega]
    exact f
  refine ⟨?_, fun q hq => ?_, fun q hq => (by cases hq), ?_, ⟨.inl ⟨rfl, fun c hc => ?_⟩⟩, fun c hc q hq => ?_⟩
  · have e0 : W = Qn.flatMap (frsQ T) := by have := h.w; simpa using this
    have e1 : W.map ageF = Qn.flatMap (frsQ (T + 1)) := by
      rw [e0, List.map_flatMap]
      have : ∀ (L : List Gq), (∀ q ∈ L, q.2.2.t = T) → L.flatMap (fun q => (frsQ T q).map ageF) = L.flatMap (frsQ (T + 1)) := fun L => by
        induction L with
        | nil => intro _; rfl
        | cons q L ih =>
          intro hL
          rw [List.flatMap_cons, List.flatMap_cons, frsQ_age (hL q (List.mem_cons_self ..)), ih (fun x hx => hL x (List.mem_cons_of_mem _ hx))]
      exact this Qn (fun q hq => (h.qn q hq).2)
    rw [e1, List.drop_zero, List.flatMap_nil, List.append_nil, List.flatMap_append]
    congr 1
    unfold tQ
    rw [List.flatMap_append, List.flatMap_append, mkQ_frs _ _ (hE 0 (by omega)), mkQ_frs _ _ (hE 1 (by omega)), mkQ_frs _ _ (hE 2 (by omega))]
  · rcases List.mem_append.1 hq with w | w
    · exact up q w
    · exact (new q w).1
  · rw [List.append_nil, List.map_append]
    have ndT : ((tQ M Ef).map fun q => (q.1, q.2.1)).Nodup := by
      unfold tQ
      rw [List.map_append, List.map_append]
      have fst : ∀ {c : Nat} {z : Nat × Nat}, z ∈ (mkQ c (M c).length (Ef c)).map (fun q => (q.1, q.2.1)) → z.1 = c := fun {c z} hz => by
        obtain ⟨q, hq, rfl⟩ := List.mem_map.1 hz
        exact (mkQ_mem _ _ hq).1
      refine List.nodup_append.2 ⟨mkQ_nodup _ _, List.nodup_append.2 ⟨mkQ_nodup _ _, mkQ_nodup _ _, fun a ha b hb e => ?_⟩, fun a ha b hb e => ?_⟩
      · have := fst ha; have := fst hb; subst e; omega
      · have h0 := fst ha
        subst e
        rcases List.mem_append.1 hb with w | w
        · have := fst w; omega
        · have := fst w; omega
    refine List.nodup_append.2 ⟨by have := h.nd; simpa using this, ndT, fun a ha b hb e => ?_⟩
    obtain ⟨q1, hq1, rfl⟩ := List.mem_map.1 ha
    obtain ⟨q2, hq2, rfl⟩ := List.mem_map.1 hb
    have e0 : ((q1.1, q1.2.1) : Nat × Nat) = (q2.1, q2.2.1) := e
    have e1 : q1.1 = q2.1 := congrArg (fun z : Nat × Nat => z.1) e0
    have e2 : q1.2.1 = q2.2.1 := congrArg (fun z : Nat × Nat => z.2) e0
    have a := (List.getElem?_eq_some_iff.1 (h.qn q1 hq1).1.at_).1
    have b := (new q2 hq2).2.1
    rw [e1] at a
    omega
  · rw [eA c hc]
    have hS : Sl s (H c).A := by
      rcases h.tab.ok with ⟨_, w⟩ | ⟨w, _⟩
      · exact w c hc
      · omega
    intro r hr
    have := hS.tick r hr
    omega
  · rw [eA c hc]
    have hq' : q ∈ Qn ++ tQ M Ef := by simpa using hq
    rcases List.mem_append.1 hq' with w | w
    · exact (h.nk c hc q (by simpa using w)).tick
    · obtain ⟨n1, n2, n3⟩ := new q w
      have := row_new (H := tickHS H) (n := q.2.1) (c := q.1) (M' := M') (d := c) (pw.rs c hc).tick (pw'.lk q.1 n1.c3) ⟨Ef q.1, hM q.1 n1.c3⟩ n1.at_ n2 n3
      exact this
/-! ### keys -/
theorem inF_keys (a : Int) (A : List Ip.AR) (v : List Int) : ∀ r ∈ (Ip.inF a A v).tab, (∃ r0 ∈ A, r0.key = r.key) ∨ r.key = Ip.keyV v := fun r hr => by
  have rm : ∀ k, r ∈ Ip.remA k A → ∃ r0 ∈ A, r0.key = r.key := fun k h => by
    unfold Ip.remA at h
    exact ⟨r, (List.mem_filter.1 h).1, rfl⟩
  have fr : ∀ (r1 : Ip.AR) (old : Bool), (old = true → ∃ r0 ∈ A, r0.key = r1.key) → (old = false → r1.key = Ip.keyV v) → r ∈ (Ip.fragR a A v r1 old).tab → (∃ r0 ∈ A, r0.key = r.key) ∨ r.key = Ip.keyV v := fun r1 old h1 h2 h => by
    unfold Ip.fragR at h
    split at h
    · exact .inl (rm _ h)
    split at h
    · exact .inl (rm _ h)
    · have h' : r ∈ (if old = true then Ip.setA (Ip.nextRow r1 v) A else Ip.insA (Ip.nextRow r1 v) A) := h
      split at h'
      · rename_i ho
        unfold Ip.setA at h'
        obtain ⟨r2, w, rfl⟩ := List.mem_map.1 h'
        split
        · obtain ⟨r0, a1, a2⟩ := h1 ho
          exact .inl ⟨r0, a1, a2⟩
        · exact .inl ⟨r2, w, rfl⟩
      · rename_i ho
        have ho' : old = false := by cases old with | true => exact absurd rfl ho | false => rfl
        rcases List.mem_cons.1 ((Ip.insA_perm _ A).subset h') with w | w
        · exact .inr (by rw [w]; exact h2 ho')
        · exact .inl ⟨r, w, rfl⟩
  unfold Ip.inF at hr
  repeat' split at hr
  all_goals first
    | exact .inl ⟨r, hr, rfl⟩
    | (rename_i r1 hf; exact fr r1 true (fun _ => ⟨r1, List.mem_of_find?_eq_some hf, rfl⟩) (fun w => by cases w) hr)
    | exact fr _ false (fun w => by cases w) (fun _ => rfl) hr
theorem inputH_A (h : HS) (raw : List Int) : (inputH h raw).1.A = h.A ∨ (inputH h raw).1.A = (Ip.inF h.addr h.A (Fm.decR h.addr raw).pay).tab ∧ (Fm.decR h.addr raw).err = 0 := by
  unfold inputH
  split
  · exact .inl rfl
  split
  · exact .inl rfl
  · rename_i h0 _
    refine .inr ⟨?_, by simpa using h0⟩
    unfold inIpH
    split
    · rfl
    split
    · rfl
    split
    · rfl
    · unfold inTopH
      rw [(sendAllH_t _ _).2.2.2.1]
      rfl
/-- The keys behind a frame. -/
theorem input_keys {f : FL} (hL : ∀ c, c < 3 → LinkOk c T (H c) (M c) Lg) (hd : d < 3) (hf : FrOk T M f c n i g) : ∀ r ∈ (inputH (H d) f.raw).1.A, (∃ r0 ∈ (H d).A, r0.key = r.key) ∨ r.key = ((c : Int) + 1) * 65536 + 1536 + (n : Int) % 256 := fun r hr => by
  have lk := hL c hf.c3
  have hk := (lk.ok g (List.mem_of_getElem? hf.at_)).1
  have hD : (g.D c).length ≤ 40 := by have := DG.len hk; omega
  have had := (hL d hd).addr
  have hpl : (Ip.pktF 6 ((c : Int) + 1) g.d ((n : Int) % 256) (g.D c) i).length ≤ 24 := by
    have hc := Ip.cntF_le hD
    unfold Ip.pktF
    split
    · rw [Ip.pkt_length]; simp; omega
    · rw [Ip.pkt_length]; simp; omega
  rcases inputH_A (H d) f.raw with e | ⟨e, e0⟩
  · rw [e] at hr; exact .inl ⟨r, hr, rfl⟩
  cases hfl : f.fl with
  | true =>
    exfalso
    obtain ⟨j, x, y, h1, h2, h3, h4, h5⟩ := hf.flip hfl
    have := Fm.decR_flip (a := (H d).addr) hpl h1 h2 h3 h4
    rw [h5] at e0
    unfold DG.fr at e0
    omega
  | false =>
    have hraw := hf.raw hfl
    by_cases hdst : g.d = (d : Int) + 1
    · have hdec := Fm.decR_enc (dst := g.d) (addr := (c : Int) + 1) (typ := 1) (a := (H d).addr) hpl (by rw [had]; exact hdst)
      have hdec' : Fm.decR (H d).addr f.raw = ⟨0, 1, g.d, (c : Int) + 1, 1, Ip.pktF 6 ((c : Int) + 1) g.d ((n : Int) % 256) (g.D c) i⟩ := by rw [hraw]; exact hdec
      rw [e, hdec'] at hr
      rcases inF_keys _ _ _ r hr with w | w
      · exact .inl w
      · right
        rw [w]
        exact (pk_facts hD hf.il).key
    · exfalso
      have hfe := Fm.frameErr_enc (dst := g.d) (addr := (c : Int) + 1) (typ := 1) hpl
      have e2 : (Fm.encFrame g.d ((c : Int) + 1) 1 (Ip.pktF 6 ((c : Int) + 1) g.d ((n : Int) % 256) (g.D c) i)).getD 0 0 = g.d := rfl
      have hne : (Fm.decR (H d).addr f.raw).err ≠ 0 := by
        rw [hraw]
        unfold DG.fr Fm.decR
        rw [if_neg (by simp [hfe]), e2, if_pos (by rw [had]; exact hdst)]
        decide
      exact hne e0
end
/-- The first round behind a loss: old frames, then whole datagrams. -/
structure N1 (T : Int) (H : Nat → HS) (W : List FL) (M : Nat → List DG) (B : Nat → Nat) (old : List FL) (Qn : List Gq) : Prop where
  w : W = old ++ Qn.flatMap (frsQ T)
  old : ∀ f ∈ old, ∃ c n i g, FrOk T M f c n i g ∧ n < B c
  qn : ∀ q ∈ Qn, (NQ T M q ∧ q.2.2.t = T) ∧ B q.1 ≤ q.2.1
  le : ∀ c, c < 3 → B c ≤ (M c).length
  nd : (Qn.map fun q => (q.1, q.2.1)).Nodup
  nk : ∀ d, d < 3 → ∀ q ∈ Qn, NoKey q.key (H d).A
section
variable {s s' T : Int} {H H' : Nat → HS} {W W' : List FL} {M M' : Nat → List DG} {Qo Qn Q : List Gq} {p c n d i : Nat} {G G' : List GE} {X X' : Nat → CS} {Lg Lg' : List LE} {q q0 : Gq} {g : DG} {B : Nat → Nat} {old : List FL} {f : FL}
theorem N1.start (pw : PW T H W G X Lg M) : N1 T H W M (fun c => (M c).length) W [] := by
  refine ⟨by simp, fun f hf => ?_, fun q hq => (by cases hq), fun c hc => Nat.le_refl _, List.nodup_nil, fun d hd q hq => (by cases hq)⟩
  obtain ⟨c, n, i, g, r⟩ := pw.fr f hf
  exact ⟨c, n, i, g, r, (List.getElem?_eq_some_iff.1 r.at_).1⟩
theorem N1.skip (h : N1 T H W M B (f :: old) Qn) : N1 T H (old ++ Qn.flatMap (frsQ T)) M B old Qn :=
  ⟨rfl, fun x hx => h.old x (List.mem_cons_of_mem _ hx), h.qn, h.le, h.nd, h.nk⟩
theorem N1.stop (h : N1 T H W M B [] Qn) (pw : PW T H W G X Lg M) : Neat 4 T H W M [] Qn 0 := by
  refine ⟨by have := h.w; simpa using this, fun q hq => (by cases hq), fun q hq => (h.qn q hq).1, by simpa using h.nd, ⟨.inl ⟨rfl, fun c hc r hr => ?_⟩⟩, fun d hd q hq => h.nk d hd q (by simpa using hq)⟩
  obtain ⟨_, _, _, w⟩ := pw.rs c hc r hr
  exact w.left.2
/-- An old frame is delivered. -/
theorem N1.step {h' : HS} {E : List DG} {W2 : List FL} (h : N1 T H W M B (f :: old) Qn) (pw : PW T H W G X Lg M) (ha : f.age ≤ 4) (hd : d < 3) (pw' : PW T (updS H d h') W2 G' X' Lg' M') (eh : h' = (inputH (H d) f.raw).1) (rs : RsAll T d M h'.A) (hM : M' d = M d ++ E) (hM2 : ∀ k, k ≠ d → M' k = M k) (hE : ∀ g ∈ E, g.t = T) :
    N1 T (updS H d h') ((old ++ Qn.flatMap (frsQ T)) ++ (fsOf d (M d).length E).map flF) M' B old (Qn ++ mkQ d (M d).length E) := by
  have gr : ∀ c, ∃ E', M' c = M c ++ E' := fun c => by
    by_cases z : c = d
    · subst z; exact ⟨E, hM⟩
    · exact ⟨[], by rw [hM2 c z, List.append_nil]⟩
  have get : ∀ {c n : Nat} {g : DG}, (M c)[n]? = some g → (M' c)[n]? = some g := fun {c n g} a => by
    obtain ⟨E', e⟩ := gr c
    rw [e, List.getElem?_append_left (List.getElem?_eq_some_iff.1 a).1]
    exact a
  have new : ∀ q ∈ mkQ d (M d).length E, NQ T M' q ∧ q.2.2.t = T ∧ q.1 = d ∧ (M d).length ≤ q.2.1 := fun q hq => by
    obtain ⟨a, k, b, e, f⟩ := mkQ_mem E _ hq
    have ht := hE _ (List.mem_of_getElem? f)
    refine ⟨⟨by omega, ?_, by omega, by omega⟩, ht, a, by omega⟩
    rw [a, hM, e, List.getElem?_append_right (by omega), show (M d).length + k - (M d).length = k by omega]
    exact f
  obtain ⟨c0, n0, i0, g0, fo, hn0⟩ := h.old f (List.mem_cons_self ..)
  have hl := h.le d hd
  refine ⟨?_, fun x hx => ?_, fun q hq => ?_, fun c hc => ?_, ?_, fun c hc q hq => ?_⟩
  · rw [List.flatMap_append, mkQ_frs E _ hE, List.append_assoc]
  · obtain ⟨c, n, i, g, r, hn⟩ := h.old x (List.mem_cons_of_mem _ hx)
    exact ⟨c, n, i, g, ⟨r.c3, get r.at_, r.il, r.a0, r.age, r.raw, r.flip⟩, hn⟩
  · rcases List.mem_append.1 hq with w | w
    · obtain ⟨⟨a, b⟩, c⟩ := h.qn q w
      exact ⟨⟨⟨a.c3, get a.at_, a.lo, a.hi⟩, b⟩, c⟩
    · obtain ⟨n1, n2, n3, n4⟩ := new q w
      exact ⟨⟨n1, n2⟩, by rw [n3]; omega⟩
  · obtain ⟨E', e⟩ := gr c
    have := h.le c hc
    rw [e, List.length_append]
    omega
  · rw [List.map_append]
    refine List.nodup_append.2 ⟨h.nd, mkQ_nodup E _, fun a ha b hb e => ?_⟩
    obtain ⟨q1, hq1, rfl⟩ := List.mem_map.1 ha
    obtain ⟨q2, hq2, rfl⟩ := List.mem_map.1 hb
    obtain ⟨_, _, n3, n4⟩ := new q2 hq2
    have e0 : ((q1.1, q1.2.1) : Nat × Nat) = (q2.1, q2.2.1) := e
    have e1 : q1.1 = q2.1 := congrArg (fun z : Nat × Nat => z.1) e0
    have e2 : q1.2.1 = q2.2.1 := congrArg (fun z : Nat × Nat => z.2) e0
    have a := (List.getElem?_eq_some_iff.1 (h.qn q1 hq1).1.1.at_).1
    rw [e1, n3] at a
    omega
  · rcases List.mem_append.1 hq with w | w
    · by_cases z : c = d
      · subst z
        rw [updS_at, eh]
        intro r hr
        rcases input_keys pw.lk hc fo r hr with ⟨r0, v1, v2⟩ | v
        · rw [← v2]; exact h.nk c hc q w r0 v1
        · intro e
          rw [v] at e
          obtain ⟨⟨a, b⟩, a2⟩ := h.qn q w
          unfold Gq.key at e
          have ec : c0 = q.1 := by omega
          have at1 := fo.at_
          rw [ec] at at1 hn0
          have hag := fo.age ha
          have ha0 := fo.a0
          have := (pw.lk q.1 a.c3).ids at1 a.at_ (by omega) (by omega) (by omega)
          omega
      · rw [updS_ne z]; exact h.nk c hc q w
    · obtain ⟨n1, n2, n3, n4⟩ := new q w
      have rsc : RsAll T c M (updS H d h' c).A := by
        by_cases z : c = d
        · subst z; rw [updS_at]; exact rs
        · rw [updS_ne z]; exact pw.rs c hc
      have := row_new (H := updS H d h') (n := q.2.1) (c := d) (M' := M') rsc (pw'.lk d hd) ⟨E, hM⟩ (g := q.2.2) (by rw [← n3]; exact n1.at_) n4 n2
      unfold Gq.key
      rw [n3]
      exact this
end
end Go.Proofs.Qxb6500424aGreat
