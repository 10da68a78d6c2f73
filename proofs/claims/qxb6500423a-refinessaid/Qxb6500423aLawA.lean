/-
  The law's invariant; Decode and Encode of the law.
-/
import Derived.Test.Qxb6500423aSpoil
set_option linter.unusedVariables false
open Go.Vc
namespace Go.Proofs.Qxb6500423a

structure LawAt (w : World) (a : Nat) (σ : LawS) (N : Int) : Prop where
  own : Own w a σ.cells T_framelaw_World
  real : ∀ c, c < 2 → RealAt w (σ.P c) (σ.S c)
  mod : ∀ c, c < 2 → ModAt w (σ.Q c) (σ.S c)
  wf : ∀ c, c < 2 → (σ.S c).Wf N
  pne : σ.P 0 ≠ σ.P 1
  qne : σ.Q 0 ≠ σ.Q 1
  last : Bs w σ.lb σ.ll σ.lc σ.last
  pay : Bs w σ.pb σ.pl σ.pc σ.pay
  good : σ.last = [] ∨ (σ.last = encFrame σ.d σ.sr σ.t σ.pay ∧ encErr σ.d σ.t σ.pay.length = 0 ∧ 0 ≤ σ.sr ∧ σ.sr < 256)
  mine : Row w σ.mb σ.n σ.mc 1 T_row σ.mine
  mark : Row w σ.kb σ.n σ.kc 1 T_row σ.mark
  apart : ∀ k ∈ rowBlk σ.mb, k ∉ rowBlk σ.kb
  kept : Kept w σ.mine σ.mark
  cnt : (σ.n : Int) ≤ N
def blk (a : Nat) (σ : LawS) : List Nat := a :: σ.P 0 :: σ.P 1 :: σ.Q 0 :: σ.Q 1 :: (rowBlk σ.mb ++ rowBlk σ.kb)
def Next (w : World) (a : Nat) (σ : LawS) (N : Int) (w' : World) : Prop := ∃ σ', LawAt w' a σ' (N + 1) ∧ Ext (blk a σ) w w' ∧ ∀ k ∈ blk a σ', k ∈ blk a σ ∨ w.heap.size ≤ k

theorem rowT {w' : World} {b' : Option Addr} {l' c' : Nat} {vs : List Value} {k : Nat} (hr : Row w' b' l' c' 1 T_row vs) (hkk : k ∈ rowBlk b') : ∃ cs, Own w' k cs T_row := by
  rcases hr.2.2 with ⟨rfl, _⟩ | ⟨k', cs, rfl, hoo, _⟩
  · simp [rowBlk] at hkk
  · simp [rowBlk] at hkk
    subst hkk
    exact ⟨cs, hoo⟩
theorem bsT {w : World} {b : Option Addr} {l c : Nat} {v : List Int} {k : Nat} (hb : Bs w b l c v) (hkk : k ∈ rowBlk b) : ∃ cs, Own w k cs T_uint8 := by
  rcases hb.2 with ⟨rfl, _⟩ | ⟨k', z, rfl, hf, _⟩
  · simp [rowBlk] at hkk
  · simp [rowBlk] at hkk
    subst hkk
    exact ⟨_, hf.1⟩
theorem bsBlk {w : World} {b : Option Addr} {l c : Nat} {v : List Int} (hb : Bs w b l c v) {k o : Nat} (e : b = some ⟨k, o, none⟩) : ∃ cs, Own w k cs T_uint8 := bsT hb (by rw [e]; simp [rowBlk])
/-- Blocks of a type that the law's state does not use. -/
def Alien (w : World) (S : List Nat) : Prop := ∀ k ∈ S, ∃ cs T, Own w k cs T ∧ T ≠ T_framelaw_World ∧ T ≠ T_frame_Link ∧ T ≠ T_framem_Link ∧ T ≠ T_row ∧ T ≠ T_uint8
theorem Alien.not {w : World} {S : List Nat} (h : Alien w S) {k : Nat} {cs : Array Value} {T : TypeId} (ho : Own w k cs T) (hT : T = T_framelaw_World ∨ T = T_frame_Link ∨ T = T_framem_Link ∨ T = T_row ∨ T = T_uint8) : k ∉ S := fun hk => by
  obtain ⟨cs', T', ho', h1, h2, h3, h4, h5⟩ := h k hk
  have e := (ho.unique ho').2
  subst e
  rcases hT with hT | hT | hT | hT | hT
  · exact h1 hT
  · exact h2 hT
  · exact h3 hT
  · exact h4 hT
  · exact h5 hT
theorem LawAt.extA {w w' : World} {a : Nat} {σ : LawS} {N : Int} {S : List Nat} (h : LawAt w a σ N) (he : Ext S w w') (hs : Alien w S) : LawAt w' a σ N := by
  have nb : NoB w S := fun k hk c ho => hs.not ho (.inr (.inr (.inr (.inr rfl)))) hk
  exact ⟨he.own h.own (hs.not h.own (.inl rfl)), fun c hc => he.own (h.real c hc) (hs.not (h.real c hc) (.inr (.inl rfl))), fun c hc => he.own (h.mod c hc) (hs.not (h.mod c hc) (.inr (.inr (.inl rfl)))), h.wf, h.pne, h.qne,
    h.last.extT he nb, h.pay.extT he nb, h.good, h.mine.ext he (fun k hk => by obtain ⟨cs, ho⟩ := rowT h.mine hk; exact hs.not ho (.inr (.inr (.inr (.inl rfl))))), h.mark.ext he (fun k hk => by obtain ⟨cs, ho⟩ := rowT h.mark hk; exact hs.not ho (.inr (.inr (.inr (.inl rfl))))),
    h.apart, h.kept.extT he nb, h.cnt⟩
theorem LawAt.ext0 {w w' : World} {a : Nat} {σ : LawS} {N : Int} (h : LawAt w a σ N) (he : Ext [] w w') : LawAt w' a σ N := h.extA he (fun k hk => by cases hk)
theorem LawAt.up {w : World} {a : Nat} {σ : LawS} {N M : Int} (h : LawAt w a σ N) (hm : N ≤ M) : LawAt w a σ M := ⟨h.own, h.real, h.mod, fun c hc => (h.wf c hc).mono hm, h.pne, h.qne, h.last, h.pay, h.good, h.mine, h.mark, h.apart, h.kept, by have := h.cnt; omega⟩
theorem LawAt.next {w w' : World} {a : Nat} {σ : LawS} {N : Int} (h : LawAt w' a σ N) (he : Ext [] w w') : Next w a σ N w' := ⟨σ, h.up (by omega), he.nil, fun k hk => .inl hk⟩

theorem LawAt.getP {w : World} {a : Nat} {σ : LawS} {N : Int} (h : LawAt w a σ N) {c : Nat} (hc : c < 2) : w.cell? ⟨a, c, none⟩ = some (.pointer (some ⟨σ.P c, 0, none⟩)) := by
  match c, hc with
  | 0, _ => exact h.own.cell rfl
  | 1, _ => exact h.own.cell rfl
theorem LawAt.getQ {w : World} {a : Nat} {σ : LawS} {N : Int} (h : LawAt w a σ N) {c : Nat} (hc : c < 2) : w.cell? ⟨a, 2 + c, none⟩ = some (.pointer (some ⟨σ.Q c, 0, none⟩)) := by
  match c, hc with
  | 0, _ => exact h.own.cell rfl
  | 1, _ => exact h.own.cell rfl
theorem _root_.Go.Vc.LdP.cell {a : Addr} {w : World} {n : Option Addr} {K : Option Addr → Prop} (h : w.cell? a = some (.pointer n)) (hk : K n) : LdP a w K := ⟨n, h, hk⟩
theorem LawAt.ldP {w : World} {a : Nat} {σ : LawS} {N : Int} (h : LawAt w a σ N) {c : Int} (h0 : 0 ≤ c) (h2 : c < 2) {K : Option Addr → Prop} (hk : K (some ⟨σ.P c.toNat, 0, none⟩)) : LdP (Addr.add ⟨a, 0, none⟩ (c.toNat * 1)) w K :=
  LdP.cell (by rw [add_mk, Nat.mul_one, Nat.zero_add]; exact h.getP (by omega)) hk
theorem LawAt.ldQ {w : World} {a : Nat} {σ : LawS} {N : Int} (h : LawAt w a σ N) {c : Int} (h0 : 0 ≤ c) (h2 : c < 2) {K : Option Addr → Prop} (hk : K (some ⟨σ.Q c.toNat, 0, none⟩)) : LdP (Addr.add (Addr.add ⟨a, 0, none⟩ 2) (c.toNat * 1)) w K :=
  LdP.cell (by rw [add_mk, add_mk, Nat.mul_one, Nat.zero_add]; exact h.getQ (by omega)) hk

def upd (S : Nat → LinkS) (c : Nat) (s : LinkS) : Nat → LinkS := fun i => if i = c then s else S i

/-- The state behind a real and a model step at node c. -/
theorem LawAt.stepped {w w' : World} {a : Nat} {σ : LawS} {N : Int} {c : Nat} {s : LinkS} {S : List Nat} (h : LawAt w a σ N) (hc : c < 2) (he : Ext (σ.P c :: σ.Q c :: S) w w') (hs : Alien w S) (hp : RealAt w' (σ.P c) s) (hq : ModAt w' (σ.Q c) s) (hw : s.Wf (N + 1)) :
    LawAt w' a { σ with S := upd σ.S c s } (N + 1) := by
  have hpc := h.real c hc
  have hqc := h.mod c hc
  have not1 : ∀ {k : Nat} {cs : Array Value} {T : TypeId}, Own w k cs T → (T = T_framelaw_World ∨ T = T_row ∨ T = T_uint8) → k ∉ σ.P c :: σ.Q c :: S := fun {k cs T} ho hT hk => by
    rcases List.mem_cons.1 hk with e | hk
    · subst e
      rcases hT with rfl | rfl | rfl
      · exact Own.ne_type ho hpc (by decide) rfl
      · exact Own.ne_type ho hpc (by decide) rfl
      · exact Own.ne_type ho hpc (by decide) rfl
    rcases List.mem_cons.1 hk with e | hk
    · subst e
      rcases hT with rfl | rfl | rfl
      · exact Own.ne_type ho hqc (by decide) rfl
      · exact Own.ne_type ho hqc (by decide) rfl
      · exact Own.ne_type ho hqc (by decide) rfl
    · refine hs.not ho ?_ hk
      rcases hT with rfl | rfl | rfl
      · exact .inl rfl
      · exact .inr (.inr (.inr (.inl rfl)))
      · exact .inr (.inr (.inr (.inr rfl)))
  have nb : NoB w (σ.P c :: σ.Q c :: S) := fun k hk cs ho => not1 ho (.inr (.inr rfl)) hk
  have hpq : ∀ c', c' < 2 → c' ≠ c → σ.P c' ≠ σ.P c ∧ σ.Q c' ≠ σ.Q c := fun c' hc' hne => by
    have h1 := h.pne
    have h2 := h.qne
    match c, c', hc, hc', hne with
    | 0, 1, _, _, _ => exact ⟨fun e => h1 e.symm, fun e => h2 e.symm⟩
    | 1, 0, _, _, _ => exact ⟨h1, h2⟩
    | 0, 0, _, _, hne => exact absurd rfl hne
    | 1, 1, _, _, hne => exact absurd rfl hne
  refine ⟨he.own h.own (not1 h.own (.inl rfl)), fun c' hc' => ?_, fun c' hc' => ?_, fun c' hc' => ?_, h.pne, h.qne, h.last.extT he nb, h.pay.extT he nb, h.good,
    h.mine.ext he (fun k hk => by obtain ⟨cs, ho⟩ := rowT h.mine hk; exact not1 ho (.inr (.inl rfl))), h.mark.ext he (fun k hk => by obtain ⟨cs, ho⟩ := rowT h.mark hk; exact not1 ho (.inr (.inl rfl))), h.apart, h.kept.extT he nb, by have := h.cnt; show (σ.n : Int) ≤ N + 1; omega⟩
  · show RealAt w' (σ.P c') (upd σ.S c s c')
    by_cases e : c' = c
    · subst e
      simpa [upd] using hp
    · simp only [upd, if_neg e]
      refine he.own (h.real c' hc') (fun hk => ?_)
      rcases List.mem_cons.1 hk with e' | hk
      · exact (hpq c' hc' e).1 e'
      rcases List.mem_cons.1 hk with e' | hk
      · exact Own.ne_type (h.real c' hc') hqc (by decide) e'
      · exact hs.not (h.real c' hc') (.inr (.inl rfl)) hk
  · show ModAt w' (σ.Q c') (upd σ.S c s c')
    by_cases e : c' = c
    · subst e
      simpa [upd] using hq
    · simp only [upd, if_neg e]
      refine he.own (h.mod c' hc') (fun hk => ?_)
      rcases List.mem_cons.1 hk with e' | hk
      · exact Own.ne_type (h.mod c' hc') hpc (by decide) e'
      rcases List.mem_cons.1 hk with e' | hk
      · exact (hpq c' hc' e).2 e'
      · exact hs.not (h.mod c' hc') (.inr (.inr (.inl rfl))) hk
  · show (upd σ.S c s c').Wf (N + 1)
    by_cases e : c' = c
    · subst e
      simpa [upd] using hw
    · simp only [upd, if_neg e]
      exact (h.wf c' hc').mono (by omega)

/-- The state behind Keep of a fresh slice. -/
theorem lawKeep_ok {w wo : World} {a : Nat} {σ : LawS} {N : Int} {b : Option Addr} {l : Nat} {v : List Int} {R : World → Prop} (h : LawAt w a σ N) (hn : σ.n + 1 ≤ N) (hN : N ≤ 1048576) (hb : Bs w b l l v) (hl : l ≤ 1000)
    (hfr : ∀ k ∈ rowBlk b, k ∉ rowBlk σ.lb ∧ k ∉ rowBlk σ.pb ∧ ∀ x ∈ σ.mine ++ σ.mark, ∀ b' l' c', x = .slice b' l' c' → k ∉ rowBlk b')
    (hR : ∀ w' σ', LawAt w' a σ' N → σ'.P = σ.P → σ'.Q = σ.Q → σ'.S = σ.S → σ'.lb = σ.lb → σ'.ll = σ.ll → σ'.lc = σ.lc → σ'.last = σ.last → σ'.d = σ.d → σ'.sr = σ.sr → σ'.t = σ.t → σ'.pb = σ.pb → σ'.pl = σ.pl → σ'.pc = σ.pc → σ'.pay = σ.pay →
      (∀ k ∈ blk a σ', k ∈ blk a σ ∨ w.heap.size ≤ k) → Ext (a :: (rowBlk b ++ (rowBlk σ.mb ++ rowBlk σ.kb))) w w' → R w') : framelaw_Keep.Call (some ⟨a, 0, none⟩) b l l w R := by
  refine keep_ok h.own h.mine h.mark h.apart hb hl (by omega) fun w' mb mc kb kc r ho hm hk hap hmb hkb hb1 hb2 he => ?_
  have nT : ∀ {k : Nat} {cs : Array Value} {T : TypeId}, Own w k cs T → (T = T_frame_Link ∨ T = T_framem_Link) → k ∉ a :: (rowBlk b ++ (rowBlk σ.mb ++ rowBlk σ.kb)) := fun {k cs T} hoo hT hkk => by
    have hT2 : T ≠ T_framelaw_World ∧ T ≠ T_uint8 ∧ T ≠ T_row := by rcases hT with rfl | rfl <;> decide
    rcases List.mem_cons.1 hkk with e | hkk
    · subst e
      exact Own.ne_type hoo h.own hT2.1 rfl
    rcases List.mem_append.1 hkk with hkk | hkk
    · obtain ⟨_, q⟩ := bsT hb hkk
      exact Own.ne_type hoo q hT2.2.1 rfl
    rcases List.mem_append.1 hkk with hkk | hkk
    · obtain ⟨_, q⟩ := rowT h.mine hkk
      exact Own.ne_type hoo q hT2.2.2 rfl
    · obtain ⟨_, q⟩ := rowT h.mark hkk
      exact Own.ne_type hoo q hT2.2.2 rfl
  have nB : ∀ {k : Nat} {cs : Array Value}, Own w k cs T_uint8 → k ∉ rowBlk b → k ∉ a :: (rowBlk b ++ (rowBlk σ.mb ++ rowBlk σ.kb)) := fun {k cs} hoo hnb hkk => by
    rcases List.mem_cons.1 hkk with e | hkk
    · subst e
      exact Own.ne_type hoo h.own (by decide) rfl
    rcases List.mem_append.1 hkk with hkk | hkk
    · exact hnb hkk
    rcases List.mem_append.1 hkk with hkk | hkk
    · obtain ⟨_, q⟩ := rowT h.mine hkk
      exact Own.ne_type hoo q (by decide) rfl
    · obtain ⟨_, q⟩ := rowT h.mark hkk
      exact Own.ne_type hoo q (by decide) rfl
  have bsX : ∀ {b' : Option Addr} {l' c' : Nat} {v' : List Int}, Bs w b' l' c' v' → (∀ k ∈ rowBlk b, k ∉ rowBlk b') → Bs w' b' l' c' v' := fun {b' l' c' v'} hb' hd => hb'.ext he (fun k e => by
    obtain ⟨_, q⟩ := bsBlk hb' e
    exact nB q (fun hk' => hd k hk' (by rw [e]; simp [rowBlk])))
  refine hR w' { σ with mb := mb, n := σ.n + 1, mc := mc, mine := σ.mine ++ [.slice b l l], kb := kb, kc := kc, mark := σ.mark ++ [.slice (some ⟨r, 0, none⟩) l l] } ?_ rfl rfl rfl rfl rfl rfl rfl rfl rfl rfl rfl rfl rfl rfl ?_ he
  · refine ⟨ho, fun c hc => he.own (h.real c hc) (nT (h.real c hc) (.inl rfl)), fun c hc => he.own (h.mod c hc) (nT (h.mod c hc) (.inr rfl)), h.wf, h.pne, h.qne, bsX h.last (fun k hk' => (hfr k hk').1), bsX h.pay (fun k hk' => (hfr k hk').2.1), h.good, hm, hk, hap, ?_, by show ((σ.n + 1 : Nat) : Int) ≤ N; omega⟩
    have hlen := h.kept.1
    refine ⟨by simp [hlen], fun j x hx => ?_⟩
    by_cases hj : j < σ.mine.length
    · have hx0 : (σ.mine ++ [Value.slice b l l])[j]? = some x := hx
      rw [List.getElem?_append_left hj] at hx0
      obtain ⟨b1, l1, c1, b2, l2, c2, v', e1, e2, q1, q2, q3⟩ := h.kept.2 j x hx0
      refine ⟨b1, l1, c1, b2, l2, c2, v', e1, ?_, ?_, ?_, q3⟩
      · show (σ.mark ++ _)[j]? = _
        rw [List.getElem?_append_left (by omega)]
        exact e2
      · exact bsX q1 (fun k hk' => (hfr k hk').2.2 x (List.mem_append.2 (.inl (List.mem_of_getElem? hx0))) _ _ _ e1)
      · exact bsX q2 (fun k hk' => (hfr k hk').2.2 _ (List.mem_append.2 (.inr (List.mem_of_getElem? e2))) _ _ _ rfl)
    · have hx0 : (σ.mine ++ [Value.slice b l l])[j]? = some x := hx
      rw [List.getElem?_append_right (by omega)] at hx0
      have hj0 : j = σ.mine.length := by
        have := (List.getElem?_eq_some_iff.1 hx0).1
        simp at this
        omega
      subst hj0
      simp at hx0
      subst hx0
      refine ⟨b, l, l, _, l, l, _, rfl, ?_, hb1, hb2, hl⟩
      show (σ.mark ++ _)[σ.mine.length]? = _
      rw [hlen]
      simp
  · intro k hk'
    simp only [blk, List.mem_cons, List.mem_append] at hk' ⊢
    rcases hk' with e | e | e | e | e | e | e
    · exact .inl (.inl e)
    · exact .inl (.inr (.inl e))
    · exact .inl (.inr (.inr (.inl e)))
    · exact .inl (.inr (.inr (.inr (.inl e))))
    · exact .inl (.inr (.inr (.inr (.inr (.inl e)))))
    · rcases hmb k e with q | q
      · exact .inl (.inr (.inr (.inr (.inr (.inr (.inl q))))))
      · exact .inr q
    · rcases hkb k e with q | q
      · exact .inl (.inr (.inr (.inr (.inr (.inr (.inr q))))))
      · exact .inr q
/-- All blocks of bytes that the state names lie below. -/
theorem LawAt.old {w : World} {a : Nat} {σ : LawS} {N : Int} (h : LawAt w a σ N) {b : Option Addr} (hfr : ∀ k ∈ rowBlk b, w.heap.size ≤ k) :
    ∀ k ∈ rowBlk b, k ∉ rowBlk σ.lb ∧ k ∉ rowBlk σ.pb ∧ ∀ x ∈ σ.mine ++ σ.mark, ∀ b' l' c', x = .slice b' l' c' → k ∉ rowBlk b' := by
  intro k hk
  have hk' := hfr k hk
  have key : ∀ {b' : Option Addr} {l' c' : Nat} {v' : List Int}, Bs w b' l' c' v' → k ∉ rowBlk b' := fun hb' hx => by
    obtain ⟨_, q⟩ := bsT hb' hx
    have := q.lt
    omega
  refine ⟨key h.last, key h.pay, fun x hx b' l' c' e => ?_⟩
  subst e
  rcases List.mem_append.1 hx with hx | hx
  · obtain ⟨j, hj⟩ := List.getElem?_of_mem hx
    obtain ⟨b1, l1, c1, b2, l2, c2, v', e1, e2, q1, q2, q3⟩ := h.kept.2 j _ hj
    simp only [Value.slice.injEq] at e1
    rw [e1.1]
    exact key q1
  · obtain ⟨j, hj⟩ := List.getElem?_of_mem hx
    have hlt := (List.getElem?_eq_some_iff.1 hj).1
    have hlen := h.kept.1
    obtain ⟨y, hy⟩ : ∃ y, σ.mine[j]? = some y := ⟨_, List.getElem?_eq_getElem (by omega)⟩
    obtain ⟨b1, l1, c1, b2, l2, c2, v', e1, e2, q1, q2, q3⟩ := h.kept.2 j _ hy
    rw [hj] at e2
    simp only [Option.some.injEq, Value.slice.injEq] at e2
    rw [e2.1]
    exact key q2
end Go.Proofs.Qxb6500423a
