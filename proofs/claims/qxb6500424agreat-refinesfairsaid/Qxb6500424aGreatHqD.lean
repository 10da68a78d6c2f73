/-
  host: the plain world: the clock; how much a call sends.
-/
import Derived.Test.Qxb6500424aGreatHqC
set_option linter.unusedVariables false
set_option linter.unusedSimpArgs false
namespace Go.Proofs.Qxb6500424aGreat
section
variable {T : Int} {H : Nat → HS} {W : List FL} {G G' : List GE} {X X' : Nat → CS} {Lg N : List LE} {M : Nat → List DG} {c : Nat} {h1 : HS} {O : List OutS}
def conB (E : List Sk.AE) (sd : Int) : Bool := E.any fun a => decide (a.1.sd = sd ∧ a.1.kind = 2)
theorem conB_iff {E : List Sk.AE} {sd : Int} : conB E sd = true ↔ ∃ a ∈ E, a.1.sd = sd ∧ a.1.kind = 2 := by
  unfold conB
  rw [List.any_eq_true]
  constructor
  · rintro ⟨a, h1, h2⟩; exact ⟨a, h1, by simpa using h2⟩
  · rintro ⟨a, h1, h2⟩; exact ⟨a, h1, by simpa using h2⟩
theorem con_free {K : Sk.SkS} {s sd : Int} (h : conB (Sk.freeA s K).2.E sd = true) : conB K.E sd = true := by
  obtain ⟨b, hb, h1, h2⟩ := conB_iff.1 h
  unfold Sk.freeA at hb
  cases hg : Sk.getE K.E s with
  | none =>
    rw [hg] at hb
    exact conB_iff.2 ⟨b, hb, h1, h2⟩
  | some a =>
    rw [hg] at hb
    have hb' : b ∈ (Sk.delE s K.E).map (Sk.orp s) := hb
    obtain ⟨b0, hb0, rfl⟩ := List.mem_map.1 hb'
    refine conB_iff.2 ⟨b0, ?_, ?_, ?_⟩
    · unfold Sk.delE at hb0; exact (List.mem_filter.1 hb0).1
    · rw [← h1]; unfold Sk.orp; split <;> rfl
    · rw [← h2]; unfold Sk.orp; split <;> rfl
theorem filter_le {α : Type} {p q : α → Bool} (h : ∀ x, p x = true → q x = true) : ∀ l : List α, (l.filter p).length ≤ (l.filter q).length
  | [] => Nat.le_refl _
  | x :: l => by
    have ih := filter_le h l
    by_cases c : p x = true
    · rw [List.filter_cons_of_pos c, List.filter_cons_of_pos (h x c)]
      simp; exact ih
    · rw [List.filter_cons_of_neg c]
      by_cases c2 : q x = true
      · rw [List.filter_cons_of_pos c2]; simp; omega
      · rw [List.filter_cons_of_neg c2]; exact ih
theorem tickT_len : ∀ (l : List Int) (t : TC), (tickT l t).2.length ≤ 3 * (l.filter (conB t.K.E)).length
  | [], t => by simp [tickT]
  | sd :: l, t => by
    show (match Sk.getE t.K.E sd with | none => tickT l t | some a => if a.1.kind ≠ 2 then tickT l t else ((tickT l (tick1T a t).1).1, (tick1T a t).2 ++ (tickT l (tick1T a t).1).2)).2.length ≤ _
    have mono : (l.filter (conB t.K.E)).length ≤ ((sd :: l).filter (conB t.K.E)).length := by
      by_cases q : conB t.K.E sd = true
      · rw [List.filter_cons_of_pos q]; simp
      · rw [List.filter_cons_of_neg q]; exact Nat.le_refl _
    cases hg : Sk.getE t.K.E sd with
    | none =>
      have := tickT_len l t
      show (tickT l t).2.length ≤ _
      omega
    | some a =>
      by_cases ck : a.1.kind ≠ 2
      · have := tickT_len l t
        show (if a.1.kind ≠ 2 then tickT l t else _ : TC × List OutS).2.length ≤ _
        rw [if_pos ck]
        omega
      · show (if a.1.kind ≠ 2 then tickT l t else ((tickT l (tick1T a t).1).1, (tick1T a t).2 ++ (tickT l (tick1T a t).1).2) : TC × List OutS).2.length ≤ _
        rw [if_neg ck]
        have ham := List.mem_of_find?_eq_some hg
        have hsa : a.1.sd = sd := by have := List.find?_some hg; simpa using this
        rw [List.filter_cons_of_pos (conB_iff.2 ⟨a, ham, hsa, by simpa using ck⟩)]
        have h1 := tickT_len l (tick1T a t).1
        have h2 : (l.filter (conB (tick1T a t).1.K.E)).length ≤ (l.filter (conB t.K.E)).length := filter_le (fun x hx => by
          unfold tick1T at hx
          by_cases q : (tickF (t.C (slotN a))).1.st = 0
          · have hx' : conB (if (tickF (t.C (slotN a))).1.st = 0 then (Sk.freeA a.1.sd t.K).2 else t.K).E x = true := hx
            rw [if_pos q] at hx'
            exact con_free hx'
          · have hx' : conB (if (tickF (t.C (slotN a))).1.st = 0 then (Sk.freeA a.1.sd t.K).2 else t.K).E x = true := hx
            rw [if_neg q] at hx'
            exact hx') l
        have h3 : (tick1T a t).2.length ≤ 3 := by
          have := tick_len (t.C (slotN a))
          unfold tick1T
          simp
          omega
        rw [List.length_append, List.length_cons]
        omega
theorem con_len {K : Sk.SkS} (h : Sk.SkOk K) : ((sdsE K.E).filter (conB K.E)).length ≤ 4 := by
  unfold sdsE
  rw [List.filter_map, List.length_map]
  have h4 := Sk.slots_len h [] List.nodup_nil (fun x hx => by cases hx) (fun x hx => by cases hx)
  have e : K.E.filter (conB K.E ∘ fun a => a.1.sd) = K.E.filter fun a => !Sk.isL a := by
    apply List.filter_congr
    intro a ha
    have hk := (h.ei.ok a ha).kind
    by_cases q : a.1.kind = 2
    · rw [show (conB K.E ∘ fun a => a.1.sd) a = true from conB_iff.2 ⟨a, ha, rfl, q⟩]
      have : Sk.isL a = false := by unfold Sk.isL; simp; omega
      rw [this]; rfl
    · have k1 : a.1.kind = 1 := by omega
      have n : (conB K.E ∘ fun a => a.1.sd) a = false := by
        cases z : (conB K.E ∘ fun a => a.1.sd) a with
        | false => rfl
        | true =>
          obtain ⟨b, hb, e1, e2⟩ := conB_iff.1 z
          rw [h.ei.uniq hb ha e1] at e2
          exact absurd e2 q
      rw [n]
      have : Sk.isL a = true := by unfold Sk.isL; simp; omega
      rw [this]; rfl
  rw [e]
  simp at h4
  simpa using h4
theorem tick12 {t : TC} (h : Sk.SkOk t.K) : (tickT (sdsE t.K.E) t).2.length ≤ 12 := by
  have := tickT_len (sdsE t.K.E) t
  have := con_len h
  omega
theorem rows6 {K : Sk.SkS} (h : Sk.SkOk K) : K.E.length ≤ 6 := by
  have h4 := Sk.slots_len h [] List.nodup_nil (fun x hx => by cases hx) (fun x hx => by cases hx)
  have hl := h.ei.lis
  have : ∀ E : List Sk.AE, E.length = (E.filter Sk.isL).length + (E.filter fun a => !Sk.isL a).length := fun E => by
    induction E with
    | nil => rfl
    | cons a E ih =>
      cases q : Sk.isL a with
      | true => rw [List.filter_cons_of_pos q, List.filter_cons_of_neg (by simp [q])]; simp; omega
      | false => rw [List.filter_cons_of_neg (by simp [q]), List.filter_cons_of_pos (by simp [q])]; simp; omega
  have := this K.E
  simp at h4
  omega
theorem shutL_len (lsd : Int) : ∀ (l : List Int) (t : TC), (shutLT lsd l t).2.length ≤ l.length
  | [], t => Nat.le_refl _
  | sd :: l, t => by
    show ((shut1T lsd sd t).2 ++ (shutLT lsd l (shut1T lsd sd t).1).2).length ≤ _
    have h1 := shutL_len lsd l (shut1T lsd sd t).1
    have h2 : (shut1T lsd sd t).2.length ≤ 1 := by
      unfold shut1T
      split
      · simp
      split
      · simp
      split
      · rw [List.length_map]
        unfold abortF
        repeat' split
        all_goals simp
      · simp
    rw [List.length_append, List.length_cons]
    omega
def ageF (f : FL) : FL := { f with age := if f.age ≤ 4 then f.age + 1 else f.age }
theorem RsAll.ext {M' : Nat → List DG} {A : List Ip.AR} {d : Nat} (h : RsAll T d M A) (he : ∀ (c n : Nat) g, (M c)[n]? = some g → (M' c)[n]? = some g) : RsAll T d M' A := fun r hr => by
  obtain ⟨c, n, g, q⟩ := h r hr
  exact ⟨c, n, g, q.c3, he c n g q.at_, q.dst, q.key, q.left, q.tm, q.cell, q.len, q.tot⟩
def tickHS (H : Nat → HS) : Nat → HS := fun c => if c < 3 then (tickH (H c)).1 else H c
/-- The tick, row by row, and what was sent. -/
structure TickX (T : Int) (H : Nat → HS) (G : List GE) (X : Nat → CS) (G' : List GE) (X' : Nat → CS) (M M' : Nat → List DG) : Prop where
  ht : ∀ (i : Nat) g, G'[i]? = some g → g.gone = false → X' i = (tickF (X i)).1
  ho : ∀ c, c < 3 → TickO G X c (tickT (sdsE (H c).t.K.E) (H c).t).2
  hs : ∀ c, c < 3 → ∃ E, M' c = M c ++ E ∧ (tickH (H c)).2 = fsOf c (M c).length E ∧ ((tickH (H c)).1.lost = (H c).lost → E = ((tickT (sdsE (H c).t.K.E) (H c).t).2.filter (encB c)).map (dgO T))
  hA : ∀ c, c < 3 → (tickH (H c)).1.A = Ip.tickA (H c).A
theorem PW.tick (h : PW T H W G X Lg M) :
    ∃ G' X' Lg' M', PW (T + 1) (tickHS H) (W.map ageF) G' X' Lg' M' ∧ (∀ c, c < 3 → Ans (T + 1) c (tickH0 (H c)) (tickH (H c)).1 (tickH (H c)).2 M' 12) ∧ TrAll (T + 1) G X G' X' ∧ SameSR G G' ∧ G'.length = G.length ∧ Calm G' X X' ∧ TickX (T + 1) H G X G' X' M M' := by
  obtain ⟨G', X', N0, N1, N2, sys, c0, c1, c2, tr, sr, hl, calm, tX, to0, to1, to2⟩ := h.sys.tick
  have cov : ∀ c, c < 3 → ∀ o ∈ (tickT (sdsE (H c).t.K.E) (H c).t).2, ∃ e ∈ ((Lg ++ N0) ++ N1) ++ N2, e.t = T + 1 ∧ e.c = c ∧ e.d = o.1 ∧ e.s = o.2 := fun c hc o ho => by
    match c, hc with
    | 0, _ =>
      obtain ⟨e, he, r⟩ := c0 o ho
      exact ⟨e, by simp [he], r⟩
    | 1, _ =>
      obtain ⟨e, he, r⟩ := c1 o ho
      exact ⟨e, by simp [he], r⟩
    | 2, _ =>
      obtain ⟨e, he, r⟩ := c2 o ho
      exact ⟨e, by simp [he], r⟩
  have key : ∀ c, c < 3 → ∃ E, SentR c (T + 1) { tickH0 (H c) with t := (tickT (sdsE (H c).t.K.E) (H c).t).1 } (tickH (H c)).1 (M c) (((Lg ++ N0) ++ N1) ++ N2) (tickH (H c)).2 E ∧ E.length ≤ 12 ∧ (tickH (H c)).1.lost ≤ (H c).lost + 12 ∧ ((tickH (H c)).1.lost = (H c).lost → E = ((tickT (sdsE (H c).t.K.E) (H c).t).2.filter (encB c)).map (dgO (T + 1))) := fun c hc => by
    have l0 := h.lk c hc
    have l1 : LinkOk c (T + 1) { tickH0 (H c) with t := (tickT (sdsE (H c).t.K.E) (H c).t).1 } (M c) (((Lg ++ N0) ++ N1) ++ N2) := by
      refine ⟨hc, l0.addr, by show (H c).clk + 1 = T + 1; rw [l0.clk], l0.nx, by show (0 : Int) ≤ 24 ∧ (24 : Int) ≤ 24; decide, ⟨(M c).length, by show _ = _ + (24 - (24 : Int)); omega, fun n g hg => ⟨fun _ => ?_, fun q => ?_⟩⟩, l0.gap, fun g hg => ⟨(l0.ok g hg).1, ?_⟩⟩
      · have := l0.le hg; omega
      · have := (List.getElem?_eq_some_iff.1 hg).1; omega
      · obtain ⟨e, he, r⟩ := (l0.ok g hg).2
        exact ⟨e, by simp [he], r⟩
    obtain ⟨E, s, b1, b2, x2⟩ := LinkOk.send (tickT (sdsE (H c).t.K.E) (H c).t).2 _ (M c) l1 (cov c hc)
    have t12 := tick12 (h.sys.tab c hc).sk
    refine ⟨E, s, Nat.le_trans b1 t12, ?_, fun q => x2 q⟩
    have b2' : (tickH (H c)).1.lost ≤ (H c).lost + ((tickT (sdsE (H c).t.K.E) (H c).t).2.length : Int) := b2
    have t12' : (tickT (sdsE (H c).t.K.E) (H c).t).2.length ≤ 12 := t12
    omega
  obtain ⟨E0, k0⟩ := key 0 (by omega)
  obtain ⟨E1, k1⟩ := key 1 (by omega)
  obtain ⟨E2, k2⟩ := key 2 (by omega)
  have keyE : ∀ c, c < 3 → SentR c (T + 1) { tickH0 (H c) with t := (tickT (sdsE (H c).t.K.E) (H c).t).1 } (tickH (H c)).1 (M c) (((Lg ++ N0) ++ N1) ++ N2) (tickH (H c)).2 ((fun c => if c = 0 then E0 else if c = 1 then E1 else E2) c) ∧ ((fun c => if c = 0 then E0 else if c = 1 then E1 else E2) c).length ≤ 12 ∧ (tickH (H c)).1.lost ≤ (H c).lost + 12 ∧ ((tickH (H c)).1.lost = (H c).lost → ((fun c => if c = 0 then E0 else if c = 1 then E1 else E2) c) = ((tickT (sdsE (H c).t.K.E) (H c).t).2.filter (encB c)).map (dgO (T + 1))) := fun c hc => by
    match c, hc with
    | 0, _ => exact k0
    | 1, _ => exact k1
    | 2, _ => exact k2
  generalize (fun c => if c = 0 then E0 else if c = 1 then E1 else E2) = EE at keyE
  have grow : ∀ (c n : Nat) g, (M c)[n]? = some g → (M c ++ EE c)[n]? = some g := fun c n g hg => by rw [List.getElem?_append_left (List.getElem?_eq_some_iff.1 hg).1]; exact hg
  refine ⟨G', X', ((Lg ++ N0) ++ N1) ++ N2, fun c => M c ++ EE c, ⟨?_, fun c hc => ?_, fun c hc => ?_, fun f hf => ?_⟩, fun c hc => ?_, tr, sr, hl, calm, tX, fun c hc => ?_, fun c hc => ⟨EE c, rfl, (keyE c hc).1.ex, (keyE c hc).2.2.2⟩, fun c hc => (keyE c hc).1.A⟩
  · have e : (fun c => (tickHS H c).t) = tickW (fun c => (H c).t) := by
      funext k
      unfold tickHS tickW
      split
      · rename_i hk
        exact (keyE k hk).1.t
      · rfl
    rw [e]
    exact sys
  · unfold tickHS
    rw [if_pos hc]
    exact (keyE c hc).1.ok
  · unfold tickHS
    rw [if_pos hc, (keyE c hc).1.A]
    exact (h.rs c hc).tick.ext grow
  · obtain ⟨f0, hf0, rfl⟩ := List.mem_map.1 hf
    obtain ⟨c, n, i, g, r⟩ := h.fr f0 hf0
    refine ⟨c, n, i, g, r.c3, grow c n g r.at_, r.il, ?_, fun q => ?_, r.raw, r.flip⟩
    · unfold ageF
      have := r.a0
      show 0 ≤ if f0.age ≤ 4 then f0.age + 1 else f0.age
      split <;> omega
    · have q' : (if f0.age ≤ 4 then f0.age + 1 else f0.age) ≤ 4 := q
      show (if f0.age ≤ 4 then f0.age + 1 else f0.age) = _
      by_cases c4 : f0.age ≤ 4
      · rw [if_pos c4]
        have := r.age c4
        omega
      · rw [if_neg c4] at q'; omega
  · obtain ⟨s, b1, b2, _⟩ := keyE c hc
    obtain ⟨f1, f2, f3, f4, f5⟩ := sendAllH_t (tickT (sdsE (H c).t.K.E) (H c).t).2 { tickH0 (H c) with t := (tickT (sdsE (H c).t.K.E) (H c).t).1 }
    refine ⟨fun F hF => ?_, ?_, by rw [s.nf]; exact b1, ⟨s.lost.1, s.lost.2, b2⟩, f3, f2⟩
    · obtain ⟨n, i, g, a1, a2, a3, rfl⟩ := s.fr F hF
      exact ⟨c, n, i, g, hc, a1, a3, Int.le_refl _, fun _ => by show (0 : Int) = _; omega, fun _ => rfl, fun q => by cases q⟩
    · rw [s.nf]
      exact s.cr
  · match c, hc with
    | 0, _ => exact to0
    | 1, _ => exact to1
    | 2, _ => exact to2
end
end Go.Proofs.Qxb6500424aGreat
