/-
  Vc, part B: stores, regions (in the text's order, and in whatever order the tape draws).
-/
import Derived.Test.Qxb6500424aGreatVcA2
import Derived.OrdersHeld
namespace Go.Vc

/-! ### Stores: what is known of a frame's slots -/
def slotOf : List (Nat × Value) → Nat → Option Value
  | [], _ => none
  | p :: r, i => match Nat.beq p.1 i with
    | true => some p.2
    | false => slotOf r i
def ev (σ : List (Nat × Value)) : Operand → Option Value
  | .tmp t => slotOf σ t
  | .const v => some v
  | .global g => some (.pointer (some ⟨g, 0, none⟩))
  | .func f => some (.func (.func f) #[] #[])
def evD (σ : List (Nat × Value)) (x : Operand) : Value := match ev σ x with
  | some v => v
  | none => undef
def known (σ : List (Nat × Value)) : List Operand → Bool
  | [] => true
  | x :: xs => match ev σ x with
    | some _ => known σ xs
    | none => false
def Agrees (σ : List (Nat × Value)) (a : Act) : Prop := ∀ i v, slotOf σ i = some v → a.tmps[i]? = some v
/-- The frame holds what the store knows, and K. -/
def Inv (n : Nat) (K : List (Nat × Value) → World → Prop) (a : Act) (w : World) : Prop :=
  ∃ σ, Agrees σ a ∧ a.tmps.size = n ∧ a.defers = [] ∧ K σ w
def QN (n : Nat) (K : List (Nat × Value) → World → Prop) (e : Exit) (a : Act) (w : World) : Prop := e = .normal ∧ Inv n K a w

theorem known_spec {σ : List (Nat × Value)} : ∀ {xs : List Operand}, known σ xs = true → ∀ x ∈ xs, ∃ v, ev σ x = some v
  | [], _, x, hx => by cases hx
  | y :: ys, h, x, hx => by
    simp only [known] at h
    split at h
    · rename_i v hv
      cases hx with
      | head => exact ⟨v, hv⟩
      | tail _ hx => exact known_spec h x hx
    · cases h
theorem evD_eval {σ : List (Nat × Value)} {a : Act} (ha : Agrees σ a) {x : Operand} {v : Value} (h : ev σ x = some v) : a.eval x = evD σ x := by
  unfold evD
  rw [h]
  cases x with
  | tmp t =>
    have := ha t v h
    simp [Act.eval, this]
  | const u => simp [ev] at h; simp [Act.eval, h]
  | global g => simp [ev] at h; simp [Act.eval, h]
  | func f => simp [ev] at h; simp [Act.eval, h]
theorem slot_cons_eq (d : Nat) (v : Value) (σ : List (Nat × Value)) : slotOf ((d, v) :: σ) d = some v := by simp [slotOf]
theorem slot_cons_ne {d i : Nat} (v : Value) (σ : List (Nat × Value)) (h : d ≠ i) : slotOf ((d, v) :: σ) i = slotOf σ i := by
  have : Nat.beq d i = false := by
    cases hb : Nat.beq d i with
    | true => exact (h (Nat.eq_of_beq_eq_true hb)).elim
    | false => rfl
  simp [slotOf, this]
theorem Agrees.put {σ : List (Nat × Value)} {a : Act} (ha : Agrees σ a) {d : Nat} (hd : d < a.tmps.size) (v : Value) : Agrees ((d, v) :: σ) (a.put (some d) v) := by
  intro i u h
  by_cases hi : d = i
  · subst hi
    rw [slot_cons_eq] at h
    simp only [Option.some.injEq] at h
    subst h
    simp [Act.put, hd]
  · rw [slot_cons_ne _ _ hi] at h
    simp only [Act.put]
    rw [Array.getElem?_setIfInBounds_ne hi]
    exact ha i u h

/-! ### One step -/
/-- Is the operation carried out? By its guard, as the store knows it. -/
def wantQ (ops : List Oper) (σ : List (Nat × Value)) (o : Oper) : Option Bool := match o.guard with
  | none => some true
  | some (j, want) => match ops[j]? with
    | none => some false
    | some g => match g.dst with
      | none => some false
      | some d => match slotOf σ d with
        | some (.bool b) => some (match b with | true => want | false => !want)
        | some _ => some false
        | none => none
/-- Does a guard slotOf at operation i? -/
def isGuard (ops : List Oper) (i : Nat) : Bool := match ops with
  | [] => false
  | o :: r => match o.guard with
    | some (j, _) => (match Nat.beq j i with
      | true => true
      | false => isGuard r i)
    | none => isGuard r i
/-- The value goes into its slot; a guard's value is decided there. -/
def putK (n : Nat) (g : Bool) (dst : Option Nat) (v : Value) (σ : List (Nat × Value)) (K : List (Nat × Value) → Prop) : Prop := match dst with
  | none => K σ
  | some d => match Nat.blt d n with
    | false => False
    | true => match g, v with
      | true, .bool b => Bm b (K ((d, .bool true) :: σ)) (K ((d, .bool false) :: σ))
      | _, v => K ((d, v) :: σ)
def stepV (P : Program) (n : Nat) (ops : List Oper) (i : Nat) (o : Oper) (σ : List (Nat × Value)) (w : World) (K : List (Nat × Value) → World → Prop) : Prop :=
  match wantQ ops σ o with
  | none => False
  | some false => putK n false o.dst undef σ fun σ' => K σ' w
  | some true => match known σ o.op.operands.toList with
    | false => False
    | true => opv P (evD σ) o w fun v w' => putK n (isGuard ops i) o.dst v σ fun σ' => K σ' w'

theorem putK_spec {n : Nat} {g : Bool} {dst : Option Nat} {v : Value} {σ : List (Nat × Value)} {K : List (Nat × Value) → Prop} {a : Act} {w : World}
    (h : putK n g dst v σ K) (ha : Agrees σ a) (hn : a.tmps.size = n) (hd : a.defers = []) : Inv n (fun σ _ => K σ) (a.put dst v) w := by
  unfold putK at h
  cases dst with
  | none => exact ⟨σ, ha, hn, hd, h⟩
  | some d =>
    simp only at h
    split at h
    · exact h.elim
    · rename_i hlt
      have hlt : d < n := Nat.le_of_ble_eq_true hlt
      have h2 : a.tmps.size = n := hn
      have hs : (a.put (some d) v).tmps.size = n := by simp [Act.put, h2]
      split at h
      · rename_i b
        cases b
        · exact ⟨_, ha.put (by omega) _, hs, hd, h⟩
        · exact ⟨_, ha.put (by omega) _, hs, hd, h⟩
      · exact ⟨_, ha.put (by omega) _, hs, hd, h⟩
theorem wantQ_spec {ops : Array Oper} {σ : List (Nat × Value)} {o : Oper} {a : Act} {b : Bool} (h : wantQ ops.toList σ o = some b) (ha : Agrees σ a) : Region.wanted o (yielded ops a.tmps) = b := by
  unfold wantQ at h
  unfold Region.wanted
  cases hg : o.guard with
  | none => simp [hg] at h; simp [h]
  | some q =>
    obtain ⟨j, want⟩ := q
    simp only [hg] at h ⊢
    have hj : ops.toList[j]? = ops[j]? := by simp
    rw [hj] at h
    cases ho : ops[j]? with
    | none => simp [ho] at h; simp [yielded, ho, ← h]
    | some g =>
      simp only [ho] at h
      cases hd : g.dst with
      | none => simp [hd] at h; simp [yielded, ho, hd, ← h]
      | some d =>
        simp only [hd] at h
        cases hl : slotOf σ d with
        | none => simp [hl] at h
        | some v =>
          have hv := ha d v hl
          simp only [hl] at h
          cases v <;> simp only [Option.some.injEq] at h <;> subst h <;> simp [yielded, ho, hd, hv]
          rename_i c
          cases c <;> cases want <;> rfl
theorem opv_notSelect {P : Program} {ρ : Operand → Value} {o : Oper} {w : World} {K : Value → World → Prop} (h : opv P ρ o w K) : ∀ cs b, o.op ≠ .select cs b := by
  intro cs b hc
  simp only [opv, hc] at h
theorem evD_func (σ : List (Nat × Value)) (f : FuncId) : evD σ (.func f) = .func (.func f) #[] #[] := rfl
theorem runOK_wp {P : Program} {o : Oper} {a : Act} {w : World} {K : Value → World → Prop} {K' : Act → World → Prop} {Q : Exit → Act → World → Prop} (h : runOK P (execOp a.eval o) w K) (hk : ∀ v w', K v w' → K' (a.put o.dst v) w') :
    o.wp P a w K' Q := by
  unfold runOK at h
  unfold Oper.wp
  split at h
  · rename_i v w' hr; rw [hr]; exact hk _ _ h
  · rename_i w' hr; rw [hr]; exact hk _ _ h
  · rename_i f args w' hr
    rw [hr]
    refine h.mono fun e w'' he => ?_
    obtain ⟨v, rfl, hkv⟩ := he
    exact hk _ _ hkv
  · exact h.elim
theorem stepV_spec {P : Program} {n : Nat} {ops : Array Oper} {i : Nat} {o : Oper} {σ : List (Nat × Value)} {w : World} {K : List (Nat × Value) → World → Prop} {Q : Exit → Act → World → Prop} {a : Act}
    (h : stepV P n ops.toList i o σ w K) (hi : ops[i]? = some o) (ha : Agrees σ a) (hn : a.tmps.size = n) (hd : a.defers = []) : wpOp P ops Q i (Inv n K) a w := by
  unfold stepV at h
  unfold wpOp
  simp only [hi]
  split at h
  · exact h.elim
  · rename_i hw
    rw [wantQ_spec hw ha]
    simp only [Bool.false_eq_true, if_false]
    exact putK_spec (w := w) h ha hn hd
  · rename_i hw
    rw [wantQ_spec hw ha]
    simp only [if_true]
    split at h
    · exact h.elim
    · rename_i hk
      refine .inl ?_
      have he : execOp a.eval o = execOp (evD σ) o := execOp_congr o (opv_notSelect h) fun x hx => by
        obtain ⟨v, hv⟩ := known_spec hk x (by simpa using hx)
        exact evD_eval ha hv
      have hr := opv_run (evD_func σ) h
      rw [← he] at hr
      exact runOK_wp hr fun v w' hv => putK_spec (w := w') hv ha hn hd

/-! ### A region in the text's order -/
def opsV (P : Program) (n : Nat) (ops : List Oper) : List Oper → Nat → List (Nat × Value) → World → (List (Nat × Value) → World → Prop) → Prop
  | [], _, σ, w, K => K σ w
  | o :: r, i, σ, w, K => stepV P n ops i o σ w fun σ' w' => opsV P n ops r (i + 1) σ' w' K
theorem opsV_spec {P : Program} {n : Nat} {ops : Array Oper} {K : List (Nat × Value) → World → Prop} :
    ∀ (r : List Oper) (i : Nat) (σ : List (Nat × Value)) (w : World) (a : Act), ops.toList = ops.toList.take i ++ r → i + r.length = ops.size → opsV P n ops.toList r i σ w K → Agrees σ a → a.tmps.size = n → a.defers = [] →
      wpOps P ops (QN n K) (List.range' i r.length) a w
  | [], i, σ, w, a, _, _, h, ha, hn, hd => ⟨rfl, σ, ha, hn, hd, h⟩
  | o :: r, i, σ, w, a, hr, hl, h, ha, hn, hd => by
    have hi : ops[i]? = some o := by
      have h1 : ops.toList[i]? = some o := by
        rw [hr]
        have : (ops.toList.take i).length = i := by simp at hl ⊢; omega
        rw [List.getElem?_append_right (by omega), this]
        simp
      simpa using h1
    rw [show (o :: r).length = r.length + 1 from rfl, List.range'_succ, wpOps_cons]
    refine wpOp_mono (fun a' w' h' => ?_) (stepV_spec h hi ha hn hd)
    obtain ⟨σ', ha', hn', hd', h''⟩ := h'
    refine opsV_spec r (i + 1) σ' w' a' ?_ (by simp at hl; omega) h'' ha' hn' hd'
    have hi2 : ops.toList[i]? = some o := by simpa using hi
    rw [List.take_add_one, hi2]
    simp only [Option.toList_some, List.append_assoc, List.singleton_append]
    exact hr
theorem region_text {P : Program} {n id : Nat} {ops : Array Oper} {K : List (Nat × Value) → World → Prop} {σ : List (Nat × Value)} {w : World} {a : Act}
    (h : opsV P n ops.toList ops.toList 0 σ w K) (ha : Agrees σ a) (hn : a.tmps.size = n) (hd : a.defers = []) : (Code.region id ops false).wp P (QN n K) a w := by
  refine wp_region ?_
  have := opsV_spec (ops := ops) ops.toList 0 σ w a (by simp) (by simp) h ha hn hd
  rw [List.range_eq_range']
  simpa using this

/-! ### A region whose order the tape draws -/
def edgeMask (acc : List Nat) : List Edge → Nat
  | [] => 0
  | e :: es => match Region.binds .any e && Nat.blt e.on acc.length with
    | true => Nat.lor (Nat.lor (Nat.shiftLeft 1 e.on) (acc.getD e.on 0)) (edgeMask acc es)
    | false => edgeMask acc es
/-- Bit i of entry j: operation j waits for operation i. -/
def masks : List Oper → List Nat → List Nat
  | [], acc => acc
  | o :: r, acc => masks r (acc ++ [edgeMask acc o.after.toList])
def depQ (M : List Nat) (i j : Nat) : Bool := (M.getD j 0).testBit i
/-- The cells that a load has met. -/
def hOf (i : Nat) (a : Addr) (v : Value) : List (Nat × Addr × Value) := match v with
  | .agg cs => cs.toList.zipIdx.map fun p => (i, a.add p.2, p.1)
  | v => [(i, a, v)]
def AllIn (H : List (Nat × Addr × Value)) (w : World) : Prop := ∀ h ∈ H, w.cell? h.2.1 = some h.2.2
def keepH (M : List Nat) (j : Nat) (H : List (Nat × Addr × Value)) : List (Nat × Addr × Value) := match H with
  | [] => []
  | h :: r => match depQ M h.1 j with
    | true => keepH M j r
    | false => h :: keepH M j r
def HoldsK (H : List (Nat × Addr × Value)) (w : World) (X : Prop) : Prop := match H with
  | [] => X
  | h :: r => w.cell? h.2.1 = some h.2.2 ∧ HoldsK r w X
theorem HoldsK_spec {w : World} {X : Prop} : ∀ {H : List (Nat × Addr × Value)}, HoldsK H w X → AllIn H w ∧ X
  | [], h => ⟨fun _ hx => (by cases hx), h⟩
  | h :: r, hh => by
    obtain ⟨h1, h2⟩ := hh
    obtain ⟨h3, h4⟩ := HoldsK_spec h2
    refine ⟨fun x hx => ?_, h4⟩
    cases hx with
    | head => exact h1
    | tail _ hx => exact h3 x hx
theorem mem_keepH {M : List Nat} {j : Nat} {x : Nat × Addr × Value} : ∀ {H : List (Nat × Addr × Value)}, x ∈ keepH M j H ↔ x ∈ H ∧ depQ M x.1 j = false
  | [] => by simp [keepH]
  | h :: r => by
    simp only [keepH]
    cases hd : depQ M h.1 j
    · simp only [List.mem_cons, mem_keepH (H := r)]
      constructor
      · rintro (rfl | ⟨h1, h2⟩)
        · exact ⟨.inl rfl, hd⟩
        · exact ⟨.inr h1, h2⟩
      · rintro ⟨rfl | h1, h2⟩
        · exact .inl rfl
        · exact .inr ⟨h1, h2⟩
    · simp only [List.mem_cons, mem_keepH (H := r)]
      constructor
      · rintro ⟨h1, h2⟩; exact ⟨.inr h1, h2⟩
      · rintro ⟨rfl | h1, h2⟩
        · rw [hd] at h2; cases h2
        · exact ⟨h1, h2⟩

section
variable {P : Program} {ops : Array Oper} {Q : Exit → Act → World → Prop} {M : List Nat}
/-- Whatever order is picked from here on, and what the loads taken first have met stays while it must. -/
def wpW (P : Program) (ops : Array Oper) (Q : Exit → Act → World → Prop) (M : List Nat) : Nat → Array Bool → List (Nat × Addr × Value) → Act → World → Prop
  | 0, listed, _, a, w => Region.ready .any ops listed = [] ∧ Q .normal a w
  | fuel + 1, listed, H, a, w =>
    (Region.ready .any ops listed = [] → Q .normal a w) ∧
    ∀ i ∈ Region.ready .any ops listed, wpOp P ops Q i (fun a' w' => AllIn (keepH M i H) w' ∧ wpW P ops Q M fuel (listed.setIfInBounds i true) (keepH M i H) a' w') a w
theorem wpAny_of_wpW : ∀ (fuel : Nat) (listed : Array Bool) (H : List (Nat × Addr × Value)) (a : Act) (w : World), wpW P ops Q M fuel listed H a w → wpAny P .any ops Q fuel listed a w
  | 0, _, _, _, _, h => h
  | fuel + 1, _, _, _, _, h => ⟨h.1, fun i hi => wpOp_mono (fun a' w' h' => wpAny_of_wpW fuel _ _ a' w' h'.2) (h.2 i hi)⟩
theorem wpW_sub : ∀ (fuel : Nat) (listed : Array Bool) (H H' : List (Nat × Addr × Value)) (a : Act) (w : World), (∀ x ∈ H', x ∈ H) → wpW P ops Q M fuel listed H a w → wpW P ops Q M fuel listed H' a w
  | 0, _, _, _, _, _, _, h => h
  | fuel + 1, listed, H, H', a, w, hs, h => ⟨h.1, fun i hi => wpOp_mono (fun a' w' h' =>
      have hs' : ∀ x ∈ keepH M i H', x ∈ keepH M i H := fun x hx => by rw [mem_keepH] at *; exact ⟨hs x hx.1, hx.2⟩
      ⟨fun x hx => h'.1 x (hs' x hx), wpW_sub fuel _ _ _ a' w' hs' h'.2⟩) (h.2 i hi)⟩
/-- What is listed has all that it waits for listed. -/
def Closed (ops : Array Oper) (listed : Array Bool) : Prop := ∀ (j : Nat) (o : Oper), ops[j]? = some o → listed.getD j false = true → ∀ e ∈ o.after, Region.binds .any e = true → listed.getD e.on false = true
/-- The masks tell the truth: a bit is an edge, or an edge and a bit. -/
def MaskOk (ops : Array Oper) (M : List Nat) : Prop := ∀ i j, depQ M i j = true → ∃ o, ops[j]? = some o ∧ ∃ e ∈ o.after, Region.binds .any e = true ∧ e.on < j ∧ (e.on = i ∨ depQ M i e.on = true)
theorem listed_of_dep {listed : Array Bool} (hM : MaskOk ops M) (hc : Closed ops listed) : ∀ (j i : Nat), depQ M i j = true → listed.getD j false = true → listed.getD i false = true := by
  intro j
  induction j using Nat.strongRecOn with
  | _ j ih =>
    intro i hd hl
    obtain ⟨o, ho, e, he, hb, hlt, h⟩ := hM i j hd
    have h1 := hc j o ho hl e he hb
    rcases h with rfl | h
    · exact h1
    · exact ih e.on hlt i h h1
theorem not_dep_of_ready {listed : Array Bool} (hM : MaskOk ops M) (hc : Closed ops listed) {i j : Nat} (hj : j ∈ Region.ready .any ops listed) (hi : listed.getD i false = false) : depQ M i j = false := by
  cases hd : depQ M i j with
  | false => rfl
  | true =>
    obtain ⟨o, ho, e, he, hb, hlt, h⟩ := hM i j hd
    obtain ⟨_, o', ho', hall⟩ := mem_ready.1 hj
    have : o' = o := Option.some.inj (ho'.symm.trans ho)
    subst this
    have h1 := hall e he hb
    rcases h with rfl | h
    · rw [hi] at h1; cases h1
    · rw [listed_of_dep hM hc e.on i h h1] at hi; cases hi
theorem Closed.list {listed : Array Bool} (hc : Closed ops listed) {i : Nat} (hi : i ∈ Region.ready .any ops listed) : Closed ops (listed.setIfInBounds i true) := by
  intro j o ho hl e he hb
  by_cases hij : i = j
  · subst hij
    obtain ⟨_, o', ho', hall⟩ := mem_ready.1 hi
    have : o' = o := Option.some.inj (ho'.symm.trans ho)
    subst this
    exact getD_set_true (hall e he hb)
  · rw [getD_set_ne false hij] at hl
    exact getD_set_true (hc j o ho hl e he hb)
theorem unlisted_of_ready {listed : Array Bool} {i : Nat} (hi : i ∈ Region.ready .any ops listed) : listed.getD i false = false := by
  have h := (mem_ready.1 hi).1
  rcases Nat.lt_or_ge i listed.size with h' | h'
  · simp [h'] at h ⊢; exact h
  · simp [Array.getElem?_eq_none h'] at h
theorem wpW_take {i : Nat} {oi : Oper} {v : Value} {Hi : List (Nat × Addr × Value)} (hM : MaskOk ops M) (hi : ops[i]? = some oi) (hsel : ∀ (j : Nat) (o : Oper) cs b, ops[j]? = some o → o.op ≠ .select cs b)
    (hQ : ∀ c a w, Q (.panic c) (a.put oi.dst v) w → Q (.panic c) a w) (hHi : ∀ x ∈ Hi, x.1 = i) :
    ∀ (fuel : Nat) (listed : Array Bool) (H : List (Nat × Addr × Value)) (a : Act) (w : World), Closed ops listed →
      (∀ j oj, ops[j]? = some oj → j ≠ i → listed.getD j true = false → (∀ e ∈ oj.after, Region.binds .any e = true → e.on ≠ i) → oi.apart ops oj = true) →
      i ∈ Region.ready .any ops listed → YieldsIf P ops (AllIn Hi) oi v a → AllIn Hi w → AllIn H w →
      wpW P ops Q M fuel (listed.setIfInBounds i true) (Hi ++ H) (a.put oi.dst v) w → wpW P ops Q M (fuel + 1) listed H a w := by
  intro fuel
  induction fuel with
  | zero =>
    intro listed H a w hc _ hr hy hSi hS h
    refine ⟨fun h0 => (by rw [h0] at hr; cases hr), fun j hj => ?_⟩
    by_cases hji : j = i
    · subst hji
      exact hy.wpOp hi hSi ⟨fun x hx => hS x (mem_keepH.1 hx).1, h⟩
    · have := ready_mono hj hji
      rw [h.1] at this
      cases this
  | succ fuel ih =>
    intro listed H a w hc hfree hr hy hSi hS h
    refine ⟨fun h0 => (by rw [h0] at hr; cases hr), fun j hj => ?_⟩
    by_cases hji : j = i
    · subst hji
      refine hy.wpOp hi hSi ⟨fun x hx => hS x (mem_keepH.1 hx).1, ?_⟩
      exact wpW_sub _ _ _ _ _ _ (fun x hx => List.mem_append_right _ (mem_keepH.1 hx).1) h
    · have h1 := h.2 j (ready_mono hj hji)
      obtain ⟨hjun, oj, hoj, hall⟩ := mem_ready.1 hj
      have hiu := unlisted_of_ready hr
      have hnot : ∀ e ∈ oj.after, Region.binds .any e = true → e.on ≠ i := fun e he hb heq => by
        have h2 := hall e he hb
        rw [heq, hiu] at h2; cases h2
      have h2 := wpOp_putIf hoj (hfree j oj hoj hji hjun hnot) (fun cs b => hsel i oi cs b hi) (fun cs b => hsel j oj cs b hoj) hQ hy h1
      have hnd : depQ M i j = false := not_dep_of_ready hM hc hj hiu
      have hkeep : ∀ x, x ∈ Hi ++ keepH M j H → x ∈ keepH M j (Hi ++ H) := fun x hx => by
        rw [mem_keepH]
        rcases List.mem_append.1 hx with hx | hx
        · exact ⟨List.mem_append_left _ hx, by rw [hHi x hx]; exact hnd⟩
        · rw [mem_keepH] at hx; exact ⟨List.mem_append_right _ hx.1, hx.2⟩
      have hfree' : ∀ k ok, ops[k]? = some ok → k ≠ i → (listed.setIfInBounds j true).getD k true = false →
          (∀ e ∈ ok.after, Region.binds .any e = true → e.on ≠ i) → oi.apart ops ok = true := fun k ok hk hki hun hno => by
        refine hfree k ok hk hki ?_ hno
        by_cases hjk : j = k
        · subst hjk; exact hjun
        · rw [getD_set_ne true hjk] at hun; exact hun
      refine wpOp_mono (fun a' w' h3 => ?_) h2
      obtain ⟨hy', hall', hw'⟩ := h3
      have hH' : AllIn (keepH M j H) w' := fun x hx => hall' x (hkeep x (List.mem_append_right _ hx))
      refine ⟨hH', ih (listed.setIfInBounds j true) _ a' w' (hc.list hj) hfree' (ready_mono hr (Ne.symm hji)) hy' (fun x hx => hall' x (hkeep x (List.mem_append_left _ hx))) hH' ?_⟩
      rw [Array.setIfInBounds_comm _ _ hji]
      exact wpW_sub _ _ _ _ _ _ hkeep hw'
end

/-! ### The masks are right -/
theorem edgeMask_spec {acc : List Nat} : ∀ {es : List Edge} {i : Nat}, (edgeMask acc es).testBit i = true → ∃ e ∈ es, Region.binds .any e = true ∧ e.on < acc.length ∧ (e.on = i ∨ (acc.getD e.on 0).testBit i = true)
  | [], i, h => by simp [edgeMask] at h
  | e :: es, i, h => by
    simp only [edgeMask] at h
    split at h
    · rename_i hc
      rw [Bool.and_eq_true] at hc
      have hlt : e.on < acc.length := Nat.le_of_ble_eq_true hc.2
      have h' : ((1 <<< e.on) ||| acc.getD e.on 0 ||| edgeMask acc es).testBit i = true := h
      rw [Nat.testBit_or, Nat.testBit_or, Bool.or_eq_true, Bool.or_eq_true] at h'
      rcases h' with (h' | h') | h'
      · refine ⟨e, by simp, hc.1, hlt, .inl ?_⟩
        rw [Nat.one_shiftLeft, Nat.testBit_two_pow] at h'
        simpa using h'
      · exact ⟨e, by simp, hc.1, hlt, .inr h'⟩
      · obtain ⟨e', he', r⟩ := edgeMask_spec h'
        exact ⟨e', List.mem_cons_of_mem _ he', r⟩
    · obtain ⟨e', he', r⟩ := edgeMask_spec h
      exact ⟨e', List.mem_cons_of_mem _ he', r⟩
theorem masks_spec {ops : Array Oper} : ∀ (r : List Oper) (acc : List Nat), ops.toList = ops.toList.take acc.length ++ r → acc.length + r.length = ops.size → MaskOk ops acc → MaskOk ops (masks r acc)
  | [], acc, _, _, h => h
  | o :: r, acc, hr, hl, h => by
    have hi2 : ops.toList[acc.length]? = some o := by
      rw [hr]
      have : (ops.toList.take acc.length).length = acc.length := by simp at hl ⊢; omega
      rw [List.getElem?_append_right (by omega), this]
      simp
    have hi : ops[acc.length]? = some o := by simpa using hi2
    simp only [masks]
    refine masks_spec r _ ?_ (by simp at hl ⊢; omega) ?_
    · rw [List.length_append, List.length_singleton, List.take_add_one, hi2]
      simp only [Option.toList_some, List.append_assoc, List.singleton_append]
      exact hr
    · intro i j hd
      unfold depQ at hd
      have hget : ∀ k, k < acc.length → (acc ++ [edgeMask acc o.after.toList]).getD k 0 = acc.getD k 0 := fun k hk => by
        simp [List.getElem?_append_left hk]
      rcases Nat.lt_trichotomy j acc.length with hj | hj | hj
      · rw [hget j hj] at hd
        obtain ⟨o', ho', e, he, hb, hlt, hor⟩ := h i j hd
        refine ⟨o', ho', e, he, hb, hlt, hor.imp id fun hx => ?_⟩
        unfold depQ at hx ⊢
        rw [hget e.on (by omega)]; exact hx
      · subst hj
        have : (acc ++ [edgeMask acc o.after.toList]).getD acc.length 0 = edgeMask acc o.after.toList := by simp
        rw [this] at hd
        obtain ⟨e, he, hb, hlt, hor⟩ := edgeMask_spec hd
        refine ⟨o, hi, e, by simpa using he, hb, hlt, hor.imp id fun hx => ?_⟩
        unfold depQ
        rw [hget e.on hlt]; exact hx
      · have : (acc ++ [edgeMask acc o.after.toList]).getD j 0 = 0 := by
          simp [List.getElem?_eq_none (show (acc ++ [edgeMask acc o.after.toList]).length ≤ j by simp; omega)]
        rw [this] at hd
        simp at hd
theorem masksOk (ops : Array Oper) : MaskOk ops (masks ops.toList []) :=
  masks_spec ops.toList [] (by simp) (by simp) fun i j h => by simp [depQ] at h

/-! ### The condition of a drawn region -/
def isLoad : Op → Bool
  | .load _ _ => true
  | _ => false
def takeable (P : Program) (ops : List Oper) (σ : List (Nat × Value)) (o : Oper) : Bool := match wantQ ops σ o with
  | some false => true
  | some true => pureOp P o.op || isLoad o.op
  | none => false
def firstTake (P : Program) (ops : List Oper) (σ : List (Nat × Value)) : List Nat → Option Nat
  | [] => none
  | i :: r => match ops[i]? with
    | some o => (match takeable P ops σ o with
      | true => some i
      | false => firstTake P ops σ r)
    | none => firstTake P ops σ r
def takeV (P : Program) (n : Nat) (ops : List Oper) (i : Nat) (o : Oper) (σ : List (Nat × Value)) (w : World) (H : List (Nat × Addr × Value)) (C : List (Nat × Value) → List (Nat × Addr × Value) → Prop) : Prop :=
  match wantQ ops σ o with
  | none => False
  | some false => putK n false o.dst undef σ fun σ' => C σ' H
  | some true => match known σ o.op.operands.toList with
    | false => False
    | true => match o.op with
      | .load t x => (match evD σ x with
        | .pointer p => Pn p fun a => ldVar P t a w fun v => putK n (isGuard ops i) o.dst v σ fun σ' => C σ' (hOf i a v ++ H)
        | _ => False)
      | _ => ckBool (pureOp P o.op) (opv P (evD σ) o w fun v _ => putK n (isGuard ops i) o.dst v σ fun σ' => C σ' H)
def branch : List Nat → (Nat → Prop) → Prop
  | [], _ => True
  | [i], X => X i
  | i :: r, X => X i ∧ branch r X
theorem branch_spec {X : Nat → Prop} : ∀ {l : List Nat}, branch l X → ∀ i ∈ l, X i
  | [], _, i, hi => by cases hi
  | [j], h, i, hi => by
    have : i = j := by simpa using hi
    subst this; exact h
  | j :: k :: r, h, i, hi => by
    cases hi with
    | head => exact h.1
    | tail _ hi => exact branch_spec (l := k :: r) h.2 i hi
def dV (P : Program) (n : Nat) (ops : Array Oper) (M : List Nat) : Nat → Array Bool → List (Nat × Addr × Value) → List (Nat × Value) → World → (List (Nat × Value) → World → Prop) → Prop
  | 0, listed, _, σ, w, K => (match Region.ready .any ops listed with
    | [] => K σ w
    | _ :: _ => False)
  | fuel + 1, listed, H, σ, w, K => match Region.ready .any ops listed with
    | [] => K σ w
    | r :: rs => match firstTake P ops.toList σ (r :: rs) with
      | some i => (match ops.toList[i]? with
        | some o => ckBool (Region.free .any ops listed i && (r :: rs).contains i) (takeV P n ops.toList i o σ w H fun σ' H' => dV P n ops M fuel (listed.setIfInBounds i true) H' σ' w K)
        | none => False)
      | none => branch (r :: rs) fun i => (match ops.toList[i]? with
        | some o => stepV P n ops.toList i o σ w fun σ' w' => HoldsK (keepH M i H) w' (dV P n ops M fuel (listed.setIfInBounds i true) (keepH M i H) σ' w' K)
        | none => False)
theorem ldVar_full {P : Program} {w : World} {t : TypeId} {a : Addr} {K : Value → Prop} (i : Nat) (h : ldVar P t a w K) :
    ∃ v, K v ∧ AllIn (hOf i a v) w ∧ ∀ w' : World, AllIn (hOf i a v) w' → (loadVar t a).run P w' = .ok v w' := by
  have scalar : ∀ {z : Value} {K : Value → Prop}, ldCell z a w K → ∃ v, K v ∧ w.cell? a = some v ∧ hOf i a v = [(i, a, v)] := by
    intro z K h
    unfold ldCell at h
    split at h
    · obtain ⟨n, h1, h2⟩ := h; exact ⟨_, h2, h1, rfl⟩
    · obtain ⟨n, h1, h2⟩ := h; exact ⟨_, h2, h1, rfl⟩
    · obtain ⟨n, h1, h2⟩ := h; exact ⟨_, h2, h1, rfl⟩
    · obtain ⟨n, h1, h2⟩ := h; exact ⟨_, h2, h1, rfl⟩
    · obtain ⟨b, l, c, h1, h2⟩ := h; exact ⟨_, h2, h1, rfl⟩
    · exact h.elim
  have many : ∀ (zs : List Value) (k : Nat) (K : List Value → Prop), ldCells zs a k w K → ∃ vs : List Value, K vs ∧ vs.length = zs.length ∧ ∀ j u, vs[j]? = some u → w.cell? (a.add (k + j)) = some u := by
    intro zs
    induction zs with
    | nil => intro k K h; exact ⟨[], h, rfl, fun j u hu => by simp at hu⟩
    | cons z zs ih =>
      intro k K h
      obtain ⟨v, hv, h2⟩ := ldCell_spec h
      obtain ⟨vs, hk, hl, hc⟩ := ih (k + 1) _ h2
      refine ⟨v :: vs, hk, by simp [hl], fun j u hu => ?_⟩
      cases j with
      | zero => simp at hu; subst hu; exact hv
      | succ j => simp at hu; rw [show k + (j + 1) = k + 1 + j by omega]; exact hc j u hu
  unfold ldVar at h
  split at h
  · rename_i cs n ha hz hs
    split at h
    · rename_i hn
      have hn : cs.toList.length = n := Nat.eq_of_beq_eq_true hn
      obtain ⟨vs, hk, hl, hc⟩ := many _ _ _ h
      have hmem : ∀ x, x ∈ hOf i a (.agg vs.toArray) ↔ ∃ j u, vs[j]? = some u ∧ x = (i, a.add j, u) := fun x => by
        simp only [hOf, List.mem_map]
        constructor
        · rintro ⟨⟨u, j⟩, hm, rfl⟩
          rw [List.mem_zipIdx_iff_getElem?] at hm
          exact ⟨j, u, hm, rfl⟩
        · rintro ⟨j, u, hu, rfl⟩
          exact ⟨(u, j), by rw [List.mem_zipIdx_iff_getElem?]; exact hu, rfl⟩
      refine ⟨_, hk, ?_, ?_⟩
      · intro x hx
        obtain ⟨j, u, hu, rfl⟩ := (hmem x).1 hx
        have := hc j u hu
        rw [Nat.zero_add] at this
        exact this
      · intro w' hw'
        have h3 := run_loadCells_list (P := P) w' a vs fun j u hu => hw' _ ((hmem (i, a.add j, u)).2 ⟨j, u, hu, rfl⟩)
        rw [hl, hn] at h3
        simp [loadVar, run_isAgg ha, run_sizeOf hs, h3]
    · exact h.elim
  · rename_i z n ha hz hs
    obtain ⟨v, hk, hv, hh⟩ := scalar h
    refine ⟨v, hk, by rw [hh]; intro x hx; simp at hx; subst hx; exact hv, fun w' hw' => ?_⟩
    have h1 : w'.cell? a = some v := hw' (i, a, v) (by rw [hh]; simp)
    simp [loadVar, run_isAgg ha, h1]
  · exact h.elim
theorem hOf_fst {i : Nat} {a : Addr} {v : Value} : ∀ x ∈ hOf i a v, x.1 = i := by
  intro x hx
  unfold hOf at hx
  split at hx
  · obtain ⟨p, _, rfl⟩ := List.mem_map.1 hx; rfl
  · simp at hx; subst hx; rfl
theorem Inv.put_of {n : Nat} {K : List (Nat × Value) → Prop} {a : Act} {w : World} (h : Inv n (fun σ _ => K σ) a w) : ∃ σ, Agrees σ a ∧ a.tmps.size = n ∧ a.defers = [] ∧ K σ := h
theorem dV_spec {P : Program} {n : Nat} {ops : Array Oper} {K : List (Nat × Value) → World → Prop} (hsel : Region.noSelect ops = true) :
    ∀ (fuel : Nat) (listed : Array Bool) (H : List (Nat × Addr × Value)) (σ : List (Nat × Value)) (w : World) (a : Act), dV P n ops (masks ops.toList []) fuel listed H σ w K →
      Closed ops listed → AllIn H w → Agrees σ a → a.tmps.size = n → a.defers = [] → wpW P ops (QN n K) (masks ops.toList []) fuel listed H a w := by
  intro fuel
  induction fuel with
  | zero =>
    intro listed H σ w a h hc hH ha hn hd
    simp only [dV] at h
    split at h
    · rename_i hr
      exact ⟨hr, rfl, σ, ha, hn, hd, h⟩
    · exact h.elim
  | succ fuel ih =>
    intro listed H σ w a h hc hH ha hn hd
    simp only [dV] at h
    split at h
    · rename_i hr
      exact ⟨fun _ => ⟨rfl, σ, ha, hn, hd, h⟩, fun i hi => by rw [hr] at hi; cases hi⟩
    · rename_i r rs hr
      split at h
      · rename_i i hft
        split at h
        · rename_i o ho
          obtain ⟨hb, ht⟩ := ckBool_spec h
          rw [Bool.and_eq_true] at hb
          have hio : ops[i]? = some o := by simpa using ho
          have hir : i ∈ Region.ready .any ops listed := by rw [hr]; simpa using hb.2
          have hfree := Region.free_spec (md := .any) hio hb.1
          have hQ : ∀ (v : Value) (c : List PanicEntry) (a : Act) (w : World), QN n K (.panic c) (a.put o.dst v) w → QN n K (.panic c) a w := fun v c a w hq => by cases hq.1
          unfold takeV at ht
          split at ht
          · exact ht.elim
          · rename_i hw
            have hy : YieldsIf P ops (AllIn []) o undef a := .inr ⟨wantQ_spec hw ha, rfl⟩
            obtain ⟨σ', ha', hn', hd', hC⟩ := (putK_spec (w := w) ht ha hn hd).put_of
            exact wpW_take (masksOk ops) hio (Region.noSelect_spec hsel) (hQ undef) (Hi := []) (fun x hx => by cases hx) fuel listed H a w hc hfree hir hy (fun x hx => by cases hx) hH
              (ih _ _ σ' w _ hC (hc.list hir) hH ha' hn' hd')
          · rename_i hw
            split at ht
            · exact ht.elim
            · rename_i hk
              have hcongr : (∀ cs b, o.op ≠ .select cs b) → execOp a.eval o = execOp (evD σ) o := fun hs => execOp_congr o hs fun x hx => by
                obtain ⟨v, hv⟩ := known_spec hk x (by simpa using hx)
                exact evD_eval ha hv
              have hns := Region.noSelect_spec hsel i o
              split at ht
              · rename_i t x hop
                split at ht
                · rename_i p hp
                  obtain ⟨ad, rfl, hl⟩ := Pn_spec ht
                  obtain ⟨v, hput, hin, hrun⟩ := ldVar_full i hl
                  have hy : YieldsIf P ops (AllIn (hOf i ad v)) o v a := .inl ⟨wantQ_spec hw ha, fun w' hw' => by
                    rw [hcongr fun cs b => hns cs b hio]
                    simp only [execOp, hop, hp, Instr.loadAt, Instr.sureAddr, Sem.run_bind, Sem.run_pure, Result.andThen_ok, hrun w' hw']⟩
                  obtain ⟨σ', ha', hn', hd', hC⟩ := (putK_spec (w := w) hput ha hn hd).put_of
                  refine wpW_take (masksOk ops) hio (Region.noSelect_spec hsel) (hQ v) hOf_fst fuel listed H a w hc hfree hir hy hin hH
                    (ih _ _ σ' w _ hC (hc.list hir) ?_ ha' hn' hd')
                  intro x hx
                  rcases List.mem_append.1 hx with hx | hx
                  · exact hin x hx
                  · exact hH x hx
                · exact ht.elim
              · obtain ⟨hpure, hopv⟩ := ckBool_spec ht
                obtain ⟨v, hput, hrun⟩ := opv_pure hpure hopv
                have hy : YieldsIf P ops (AllIn []) o v a := .inl ⟨wantQ_spec hw ha, fun w' _ => by
                  rw [hcongr fun cs b => hns cs b hio]; exact hrun w'⟩
                obtain ⟨σ', ha', hn', hd', hC⟩ := (putK_spec (w := w) hput ha hn hd).put_of
                exact wpW_take (masksOk ops) hio (Region.noSelect_spec hsel) (hQ v) (Hi := []) (fun x hx => by cases hx) fuel listed H a w hc hfree hir hy (fun x hx => by cases hx) hH
                  (ih _ _ σ' w _ hC (hc.list hir) hH ha' hn' hd')
        · exact h.elim
      · refine ⟨fun h0 => (by rw [h0] at hr; cases hr), fun i hi => ?_⟩
        rw [hr] at hi
        have hX := branch_spec h i hi
        split at hX
        · rename_i o ho
          have hio : ops[i]? = some o := by simpa using ho
          refine wpOp_mono (fun a' w' h' => ?_) (stepV_spec hX hio ha hn hd)
          obtain ⟨σ', ha', hn', hd', h''⟩ := h'
          obtain ⟨hA, hD⟩ := HoldsK_spec h''
          exact ⟨hA, ih _ _ σ' w' a' hD (hc.list (by rw [hr]; exact hi)) hA ha' hn' hd'⟩
        · exact hX.elim
theorem region_drawn {P : Program} {n id : Nat} {ops : Array Oper} {K : List (Nat × Value) → World → Prop} {σ : List (Nat × Value)} {w : World} {a : Act} (hm : P.follows .mixedOrders = true) (hs : Region.noSelect ops = true)
    (h : dV P n ops (masks ops.toList []) ops.size (Array.replicate ops.size false) [] σ w.drew K) (ha : Agrees σ a) (hn : a.tmps.size = n) (hd : a.defers = []) : (Code.region id ops true).wp P (QN n K) a w := by
  refine wp_region_any hm (wpAny_of_wpW _ _ [] _ _ (dV_spec hs _ _ _ σ w.drew a h ?_ (fun x hx => by cases hx) ha hn hd))
  intro j o ho hl
  have : (Array.replicate ops.size false).getD j false = false := by
    simp only [Array.getD_eq_getD_getElem?, Array.getElem?_replicate]
    split <;> rfl
  rw [this] at hl; cases hl
end Go.Vc
