/-
  host: fair weather: Connect; the world's start; a tick's frames.
-/
import Derived.Test.Qxb6500424aGreatHuL
set_option linter.unusedVariables false
set_option linter.unusedSimpArgs false
namespace Go.Proofs.Qxb6500424aGreat
section
variable {b b' T T0 T1 : Int} {t t' : Nat → TC} {H : Nat → HS} {Wo Wo1 Wn Wn1 Fs W W1 : List FL} {G G' : List GE} {X X' : Nat → CS} {M M' : Nat → List DG} {Lg Lg' : List LE} {i j k l c n d m kk : Nat} {g y g' y' gm gm' : GE} {x x' z z' : CS} {f : FL} {q : DG} {O : List OutS} {sd lp rh rp : Int}
theorem FW.init (hG : G = []) (hM : ∀ c, c < 3 → M c = []) (i : Nat) : FW T T t [] [] G X M i := by
  subst hG
  refine ⟨Int.le_refl _, ⟨fun f hf => (by cases hf), fun f hf => (by cases hf)⟩, fun c hc g hg => ?_, fun k g hk => ?_, fun k g hk => ?_, .inl ⟨fun f hf => (by cases hf), fun k g hk => ?_⟩, fun k j g y hk => ?_, fun k j g y hk => ?_⟩
  · rw [hM c hc] at hg; cases hg
  all_goals (simp at hk)
theorem FW.connect (h : FW T T t [] [] G X M i) (sys' : Sys T t' (G ++ [newC T c sd lp rh rp]) (updX X G.length (beginF 1 (T % 256))) Lg') (ha : ∀ (k : Nat) g, G[k]? = some g → g.gone = true) (hc : c < 3) (hd : d < 3) (hne : d ≠ c) (hrh : rh = (d : Int) + 1) (hlis : Sk.lisE (t' d).K.E rp ≠ 0)
    {E : List DG} (hM : M' c = M c ++ E) (oth : ∀ k, k ≠ c → M' k = M k)
    (hE : E = ([((rh, ({ (againF (beginF 1 (T % 256))).1 with sp := lp, dp := rp }, (againF (beginF 1 (T % 256))).2)) : OutS)].filter (encB c)).map (dgO T)) :
    FW T T t' ((fsOf c (M c).length E).map flF) [] (G ++ [newC T c sd lp rh rp]) (updX X G.length (beginF 1 (T % 256))) M' G.length := by
  have hn : (G ++ [newC T c sd lp rh rp])[G.length]? = some (newC T c sd lp rh rp) := by simp
  have lv := sys'.liv hn rfl
  have eX : updX X G.length (beginF 1 (T % 256)) G.length = beginF 1 (T % 256) := by simp [updX]
  rw [eX] at lv
  have alive : ∀ (k : Nat) z, (G ++ [newC T c sd lp rh rp])[k]? = some z → z.gone = false → k = G.length ∧ z = newC T c sd lp rh rp := fun k z hk hz => by
    by_cases w : k < G.length
    · rw [List.getElem?_append_left w] at hk
      rw [ha k z hk] at hz
      cases hz
    · have hlt := (List.getElem?_eq_some_iff.1 hk).1
      rw [List.length_append] at hlt
      have ek : k = G.length := by simp at hlt; omega
      subst ek
      rw [hn] at hk
      cases hk
      exact ⟨rfl, rfl⟩
  have hag : againF (beginF 1 (T % 256)) = mkF (beginF 1 (T % 256)) 1 (beginF 1 (T % 256)).iss [] := by
    unfold againF
    rw [if_pos (show (beginF 1 (T % 256)).st = 1 from rfl)]
  have rg : Rng (againF (beginF 1 (T % 256))) := by
    rw [hag]
    exact rng_mk lv.ok.toCsW lv.ok.iss (by decide) (by simp)
  have enc : encB c (rh, ({ (againF (beginF 1 (T % 256))).1 with sp := lp, dp := rp }, (againF (beginF 1 (T % 256))).2)) = true := sys'.enc hn rfl rg
  rw [List.filter_cons_of_pos enc, List.filter_nil] at hE
  have hEt : ∀ g ∈ E, g.t = T := fun g hg => by
    rw [hE] at hg
    rw [List.mem_singleton.1 hg]
    rfl
  have hEm : dgO T (rh, ({ (againF (beginF 1 (T % 256))).1 with sp := lp, dp := rp }, (againF (beginF 1 (T % 256))).2)) ∈ E := by rw [hE]; exact List.mem_singleton.2 rfl
  generalize hq : dgO T ((rh, ({ (againF (beginF 1 (T % 256))).1 with sp := lp, dp := rp }, (againF (beginF 1 (T % 256))).2)) : OutS) = q at hE hEm
  have hE' : E = [q] := by rw [hE]; simp [hq]
  have qd : q.d = rh := by rw [← hq]; rfl
  have qsp : q.s.1.sp = lp := by rw [← hq]; rfl
  have qdp : q.s.1.dp = rp := by rw [← hq]; rfl
  have qfl : q.s.1.fl = 1 := by
    rw [← hq]
    show (againF (beginF 1 (T % 256))).1.fl = 1
    rw [hag]
    rfl
  have qD : (q.D c).length = 8 := by
    unfold DG.D
    rw [encSeg_len]
    have : q.s.2 = [] := by
      rw [← hq]
      show (againF (beginF 1 (T % 256))).2 = []
      rw [hag]
      rfl
    rw [this]
    rfl
  have hcnt : Ip.cntF (q.D c).length = 1 := by rw [qD]; decide
  have hFs : (fsOf c (M c).length E).map flF = [flF (q.fr c (M c).length 0)] := by
    rw [hE']
    show (((List.range (Ip.cntF (q.D c).length)).map fun i => q.fr c (M c).length i) ++ []).map flF = _
    rw [hcnt]
    rfl
  have fo : FrOk T M' (flF (q.fr c (M c).length 0)) c (M c).length 0 q := by
    refine ⟨hc, ?_, by omega, by show (0 : Int) ≤ 0; decide, fun _ => by show (0 : Int) = T - q.t; rw [hEt q hEm]; omega, fun _ => rfl, fun z => by cases z⟩
    rw [hM, hE', List.getElem?_append_right (Nat.le_refl _), Nat.sub_self]
    rfl
  have n1 : ∀ (k : Nat) z, (G ++ [newC T c sd lp rh rp])[k]? = some z → z.gone = false → (updX X G.length (beginF 1 (T % 256)) k).st = 1 := fun k z hk hz => by
    obtain ⟨rfl, _⟩ := alive k z hk hz
    rw [eX]
    rfl
  rw [hFs]
  refine ⟨Int.le_refl _, ⟨fun f hf => ?_, fun f hf => (by cases hf)⟩, fun c' hc' g hg => ?_, fun k z hk hz => ?_, fun k z hk hz => ?_, .inr (.inl ⟨newC T c sd lp rh rp, _, (M c).length, q, d, hn, rfl, rfl, by rw [eX]; rfl, by rw [eX]; rfl, by rw [eX]; rfl, rfl, rfl, fo, qfl, by show (q.D c).length ≤ 16; omega, qd, qsp, qdp, hd, hrh, hne, fun k y hk hy => (alive k y hk hy).1, hlis⟩), fun k j g y hk hz h3 => ?_, fun k j g y hk hz h4 => ?_⟩
  · rw [List.mem_singleton.1 hf]
    exact ⟨rfl, by show (0 : Int) ≤ 1; decide⟩
  · by_cases e : c' = c
    · subst e
      rw [hM] at hg
      rcases List.mem_append.1 hg with w | w
      · exact h.rs c' hc' g w
      · rw [hE'] at w
        rw [List.mem_singleton.1 w]
        exact .inl qfl
    · rw [oth c' e] at hg
      exact h.rs c' hc' g hg
  · obtain ⟨rfl, _⟩ := alive k z hk hz
    rw [eX]
    rfl
  · obtain ⟨rfl, rfl⟩ := alive k z hk hz
    exact .inl ⟨rfl, rfl⟩
  · have := n1 k g hk hz
    omega
  · have := n1 k g hk hz
    omega
theorem TkF.of (pw : PW T H W G X Lg M) (pw' : PW (T + 1) (tickHS H) W1 G' X' Lg' M') (tr : TrAll (T + 1) G X G' X') (hlen : G'.length = G.length) (cal : Calm G' X X') (tx : TickX (T + 1) H G X G' X' M M') (hl : ∀ c, c < 3 → (tickH (H c)).1.lost = (H c).lost) :
    TkF b T (fun c => (H c).t) (fun c => (tickHS H c).t) ((tickH (H 0)).2.map flF ++ ((tickH (H 1)).2.map flF ++ (tickH (H 2)).2.map flF)) G G' X X' M M' Lg Lg' := by
  have hE : ∀ c, c < 3 → ∃ E, M' c = M c ++ E ∧ (tickH (H c)).2 = fsOf c (M c).length E ∧ E = ((tickT (sdsE (H c).t.K.E) (H c).t).2.filter (encB c)).map (dgO (T + 1)) := fun c hc => by
    obtain ⟨E, e1, e2, e3⟩ := tx.hs c hc
    exact ⟨E, e1, e2, e3 (hl c hc)⟩
  have hEt : ∀ {c : Nat} {E : List DG}, E = ((tickT (sdsE (H c).t.K.E) (H c).t).2.filter (encB c)).map (dgO (T + 1)) → ∀ g ∈ E, g.t = T + 1 := fun e g hg => by
    rw [e] at hg
    obtain ⟨o, _, rfl⟩ := List.mem_map.1 hg
    rfl
  have mem : ∀ c, c < 3 → ∀ f, f ∈ (tickH (H c)).2.map flF → f ∈ (tickH (H 0)).2.map flF ++ ((tickH (H 1)).2.map flF ++ (tickH (H 2)).2.map flF) := fun c hc f hf => by
    rcases (show c = 0 ∨ c = 1 ∨ c = 2 by omega) with rfl | rfl | rfl
    · exact List.mem_append.2 (.inl hf)
    · exact List.mem_append.2 (.inr (List.mem_append.2 (.inl hf)))
    · exact List.mem_append.2 (.inr (List.mem_append.2 (.inr hf)))
  refine ⟨pw.sys, pw'.sys, tr, hlen, cal, tx.ht, fun c n g hc hg => ?_, fun c hc q hq => ?_, fun f hf => ?_, fun _ k g s hk hgl hs rg => ?_⟩
  · obtain ⟨E, e1, _⟩ := hE c hc
    rw [e1, List.getElem?_append_left (List.getElem?_eq_some_iff.1 hg).1]
    exact hg
  · obtain ⟨E, e1, _, e3⟩ := hE c hc
    rw [e1] at hq
    rcases List.mem_append.1 hq with w | w
    · exact .inl w
    · rw [e3] at w
      obtain ⟨o, ho, rfl⟩ := List.mem_map.1 w
      obtain ⟨k, g, hk, hgl, _, s, hs, rfl⟩ := (tx.ho c hc).2 o (List.mem_filter.1 ho).1
      exact .inr ⟨k, g, s, hk, hgl, hs, rfl⟩
  · have : ∃ c, c < 3 ∧ f ∈ (tickH (H c)).2.map flF := by
      rcases List.mem_append.1 hf with w | w
      · exact ⟨0, by omega, w⟩
      rcases List.mem_append.1 w with w | w
      · exact ⟨1, by omega, w⟩
      · exact ⟨2, by omega, w⟩
    obtain ⟨c, hc, w⟩ := this
    obtain ⟨E, e1, e2, e3⟩ := hE c hc
    rw [e2] at w
    obtain ⟨a, b, n1, i1, g1, hg1, fo1⟩ := fs_new hc e1 (hEt e3) f w
    rw [e3] at hg1
    obtain ⟨o, ho, rfl⟩ := List.mem_map.1 hg1
    obtain ⟨k, g, hk, hgl, _, s, hs, rfl⟩ := (tx.ho c hc).2 o (List.mem_filter.1 ho).1
    exact ⟨a, b, c, n1, i1, k, g, s, hk, hgl, hs, fo1⟩
  · have hh := pw.sys.hlt k g hk
    obtain ⟨E, e1, e2, e3⟩ := hE g.h hh
    have ho := (tx.ho g.h hh).1 k g hk hgl rfl s hs
    have enc := pw.sys.enc hk hgl rg
    have hm : dgO (T + 1) (stampG g s) ∈ E := by rw [e3]; exact List.mem_map.2 ⟨_, List.mem_filter.2 ⟨ho, enc⟩, rfl⟩
    obtain ⟨n1, hn1⟩ := List.mem_iff_getElem?.1 hm
    have hcl := Ip.cntF_le (n := ((dgO (T + 1) (stampG g s)).D g.h).length) (by
      unfold DG.D
      rw [encSeg_len]
      have : (dgO (T + 1) (stampG g s)).s.2.length ≤ 12 := rg.n
      omega)
    refine ⟨flF ((dgO (T + 1) (stampG g s)).fr g.h ((M g.h).length + n1) (Ip.cntF ((dgO (T + 1) (stampG g s)).D g.h).length - 1)), mem g.h hh _ (List.mem_map.2 ⟨_, by rw [e2]; exact mem_fsOf E _ n1 hn1 (by omega), rfl⟩), (M g.h).length + n1, Ip.cntF ((dgO (T + 1) (stampG g s)).D g.h).length - 1, ⟨hh, ?_, by omega, by show (0 : Int) ≤ 0; decide, fun _ => by show (0 : Int) = T + 1 - (T + 1); omega, fun _ => rfl, fun z => by cases z⟩, by omega⟩
    rw [e1, List.getElem?_append_right (by omega)]
    have : (M g.h).length + n1 - (M g.h).length = n1 := by omega
    rw [this]
    exact hn1
end
end Go.Proofs.Qxb6500424aGreat
