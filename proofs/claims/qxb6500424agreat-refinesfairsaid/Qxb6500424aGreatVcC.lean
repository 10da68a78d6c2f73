/-
  Vc, part C: code: the condition of a stretch of a function's body, from a list of things to do up to the next stops.
-/
import Derived.Test.Qxb6500424aGreatVcB
namespace Go.Vc

/-! ### Places in a body -/
def sub : Code → List Nat → Code
  | c, [] => c
  | .seq a b, d :: p => (match d with
    | 0 => sub a p
    | _ + 1 => sub b p)
  | .cond _ a b, d :: p => (match d with
    | 0 => sub a p
    | _ + 1 => sub b p)
  | .block _ b, _ :: p => sub b p
  | .loop b, _ :: p => sub b p
  | _, _ :: _ => .skip
/-- (0, p): the code at p · (1, [id]): inside block id · (2, p): inside the loop whose body is at p. -/
def toItem (body : Code) (x : Nat × List Nat) : Item := match x.1 with
  | 0 => .code (sub body x.2)
  | 1 => .inBlock (x.2.headD 0)
  | _ => .inLoop (sub body x.2)
def exitP (id : Nat) : List (Nat × List Nat) → Option (List (Nat × List Nat))
  | [] => none
  | x :: k => match x.1 with
    | 1 => (match Nat.beq (x.2.headD 0) id with
      | true => some k
      | false => exitP id k)
    | _ => exitP id k
def eqP : List Nat → List Nat → Bool
  | [], [] => true
  | a :: p, b :: q => (match Nat.beq a b with
    | true => eqP p q
    | false => false)
  | _, _ => false
def eqK : List (Nat × List Nat) → List (Nat × List Nat) → Bool
  | [], [] => true
  | a :: p, b :: q => (match Nat.beq a.1 b.1 with
    | true => (match eqP a.2 b.2 with
      | true => eqK p q
      | false => false)
    | false => false)
  | _, _ => false
theorem eqP_spec : ∀ {p q : List Nat}, eqP p q = true → p = q
  | [], [], _ => rfl
  | a :: p, b :: q, h => by
    simp only [eqP] at h
    split at h
    · rename_i hb; rw [Nat.eq_of_beq_eq_true hb, eqP_spec h]
    · cases h
  | [], _ :: _, h => by simp [eqP] at h
  | _ :: _, [], h => by simp [eqP] at h
theorem eqK_spec : ∀ {p q : List (Nat × List Nat)}, eqK p q = true → p = q
  | [], [], _ => rfl
  | (a, x) :: p, (b, y) :: q, h => by
    simp only [eqK] at h
    split at h
    · rename_i hb
      split at h
      · rename_i hp; rw [Nat.eq_of_beq_eq_true hb, eqP_spec hp, eqK_spec h]
      · cases h
    · cases h
  | [], _ :: _, h => by simp [eqK] at h
  | _ :: _, [], h => by simp [eqK] at h

theorem sub_append : ∀ (c : Code) (p q : List Nat), sub c (p ++ q) = sub (sub c p) q
  | c, [], q => by cases c <;> rfl
  | .seq a b, d :: p, q => by cases d <;> simp [sub, sub_append _ p q]
  | .cond _ a b, d :: p, q => by cases d <;> simp [sub, sub_append _ p q]
  | .block _ b, _ :: p, q => by simp [sub, sub_append _ p q]
  | .loop b, _ :: p, q => by simp [sub, sub_append _ p q]
  | .skip, _ :: _, q => by cases q <;> simp [sub]
  | .region _ _ _, _ :: _, q => by cases q <;> simp [sub]
  | .rangeFunc _ _ _ _, _ :: _, q => by cases q <;> simp [sub]
  | .exit _, _ :: _, q => by cases q <;> simp [sub]
  | .scope _, _ :: _, q => by cases q <;> simp [sub]
  | .label _, _ :: _, q => by cases q <;> simp [sub]
  | .goto _, _ :: _, q => by cases q <;> simp [sub]
  | .ret, _ :: _, q => by cases q <;> simp [sub]
  | .refuse _, _ :: _, q => by cases q <;> simp [sub]
theorem sub_seq {c a b : Code} {p : List Nat} (h : sub c p = .seq a b) : sub c (p ++ [0]) = a ∧ sub c (p ++ [1]) = b := by
  rw [sub_append, sub_append, h]; exact ⟨by cases a <;> rfl, by cases b <;> rfl⟩
theorem sub_cond {c a b : Code} {x : Operand} {p : List Nat} (h : sub c p = .cond x a b) : sub c (p ++ [0]) = a ∧ sub c (p ++ [1]) = b := by
  rw [sub_append, sub_append, h]; exact ⟨by cases a <;> rfl, by cases b <;> rfl⟩
theorem sub_block {c a : Code} {id : Nat} {p : List Nat} (h : sub c p = .block id a) : sub c (p ++ [0]) = a := by
  rw [sub_append, h]; cases a <;> rfl
theorem sub_loop {c a : Code} {p : List Nat} (h : sub c p = .loop a) : sub c (p ++ [0]) = a := by
  rw [sub_append, h]; cases a <;> rfl

/-! ### Results -/
def retsV (P : Program) (σ : List (Nat × Value)) (w : World) : List ResultVar → (List Value → Prop) → Prop
  | [], K => K []
  | .tmp t :: r, K => (match slotOf σ t with
    | some v => retsV P σ w r fun vs => K (v :: vs)
    | none => False)
  | .cell t ty :: r, K => (match slotOf σ t with
    | some (.pointer p) => Pn p fun a => ldVar P ty a w fun v => retsV P σ w r fun vs => K (v :: vs)
    | _ => False)
def retV (P : Program) (rs : List ResultVar) (σ : List (Nat × Value)) (w : World) (R : Value → World → Prop) : Prop :=
  retsV P σ w rs fun vs => (match vs with
    | [v] => R v w
    | vs => R (.tuple vs.toArray) w)

/-! ### The condition -/
def findStop (stops : List (List (Nat × List Nat) × (List (Nat × Value) → World → Prop))) (k : List (Nat × List Nat)) : Option (List (Nat × Value) → World → Prop) := match stops with
  | [] => none
  | s :: r => match eqK s.1 k with
    | true => some s.2
    | false => findStop r k
def kstep (P : Program) (n : Nat) (rs : List ResultVar) (body : Code) (R : Value → World → Prop) (C : List (Nat × List Nat) → List (Nat × Value) → World → Prop)
    (k : List (Nat × List Nat)) (σ : List (Nat × Value)) (w : World) : Prop := match k with
  | [] => retV P rs σ w R
  | x :: k' => match x.1 with
    | 0 => (match sub body x.2 with
      | .skip => C k' σ w
      | .seq _ _ => C ((0, x.2 ++ [0]) :: (0, x.2 ++ [1]) :: k') σ w
      | .cond c _ _ => (match ev σ c with
        | some (.bool b) => Bm b (C ((0, x.2 ++ [0]) :: k') σ w) (C ((0, x.2 ++ [1]) :: k') σ w)
        | _ => False)
      | .block id _ => C ((0, x.2 ++ [0]) :: (1, [id]) :: k') σ w
      | .loop _ => C ((0, x.2 ++ [0]) :: (2, x.2 ++ [0]) :: k') σ w
      | .exit id => (match exitP id k' with
        | some k'' => C k'' σ w
        | none => False)
      | .ret => retV P rs σ w R
      | .region _ ops draw => (match draw with
        | false => opsV P n ops.toList ops.toList 0 σ w fun σ' w' => C k' σ' w'
        | true => ckBool (Region.noSelect ops) (dV P n ops (masks ops.toList []) ops.size (Array.replicate ops.size false) [] σ w.drew fun σ' w' => C k' σ' w'))
      | _ => False)
    | 1 => C k' σ w
    | _ => C ((0, x.2) :: (2, x.2) :: k') σ w
def kvc (P : Program) (n : Nat) (rs : List ResultVar) (body : Code) (R : Value → World → Prop) (stops : List (List (Nat × List Nat) × (List (Nat × Value) → World → Prop))) :
    Nat → List (Nat × List Nat) → List (Nat × Value) → World → Prop
  | 0, _, _, _ => False
  | fuel + 1, k, σ, w => match findStop stops k with
    | some J => J σ w
    | none => kstep P n rs body R (kvc P n rs body R stops fuel) k σ w

/-! ### What it says of the machine -/
def KW (P : Program) (f n : Nat) (R : Value → World → Prop) (k : List Item) (σ : List (Nat × Value)) (w : World) : Prop :=
  ∀ (a : Act) (b : Frame) (cs : List Frame), Agrees σ a → a.tmps.size = n → a.defers = [] → b.fn = f → b.kind = .normal →
    ∃ v w' fr, R v w' ∧ Steps P (lone (b.at a k) cs w) (lone fr cs w') ∧ fr.fn = f ∧ fr.leaving P w' (.returned v)
def Sub (τ σ : List (Nat × Value)) : Prop := ∀ i v, slotOf τ i = some v → slotOf σ i = some v
theorem Sub.nil (σ : List (Nat × Value)) : Sub [] σ := fun i v h => by simp [slotOf] at h
theorem Sub.cons {τ σ : List (Nat × Value)} (h : Sub τ σ) {j : Nat} {v : Value} (hj : slotOf σ j = some v) : Sub ((j, v) :: τ) σ := fun i u hu => by
  by_cases hij : j = i
  · subst hij
    rw [slot_cons_eq] at hu
    rw [hj, hu]
  · rw [slot_cons_ne _ _ hij] at hu
    exact h i u hu
theorem KW.weaken {P : Program} {f n : Nat} {R : Value → World → Prop} {k : List Item} {σ τ : List (Nat × Value)} {w : World} (h : KW P f n R k τ w) (hs : Sub τ σ) : KW P f n R k σ w :=
  fun a b cs ha hn hd hf hk => h a b cs (fun i v hv => ha i v (hs i v hv)) hn hd hf hk
theorem KW.loop {P : Program} {f n : Nat} {R : Value → World → Prop} {k : List Item} (I : Nat → List (Nat × Value) → World → Prop)
    (h : ∀ m, (∀ m', m' < m → ∀ σ w, I m' σ w → KW P f n R k σ w) → ∀ σ w, I m σ w → KW P f n R k σ w) : ∀ m σ w, I m σ w → KW P f n R k σ w := by
  intro m
  induction m using Nat.strongRecOn with
  | _ m ih => exact h m ih

section
variable {P : Program} {f n : Nat} {R : Value → World → Prop}
theorem KW.step {k k' : List Item} {σ : List (Nat × Value)} {w : World} (h : KW P f n R k' σ w) (hs : ∀ (b : Frame) (a : Act) (cs : List Frame), step P (lone (b.at a k) cs w) = .next (lone (b.at a k') cs w)) : KW P f n R k σ w := by
  intro a b cs ha hn hd hf hk
  obtain ⟨v, w', fr, hR, hst, hrest⟩ := h a b cs ha hn hd hf hk
  exact ⟨v, w', fr, hR, .head (hs b a cs) hst, hrest⟩
def resOne (tmps : Array Value) (x : ResultVar) : Sem Value := match x with
  | .tmp t => pure (tmps.getD t undef)
  | .cell t ty => do loadVar ty (← asAddr (tmps.getD t undef))
theorem results_eq (fn : Func) (tmps : Array Value) : results fn tmps = (do let vs ← fn.results.mapM (resOne tmps); pure (if h : vs.size = 1 then vs[0] else .tuple vs)) := rfl
theorem retsV_spec {σ : List (Nat × Value)} {w : World} {a : Act} (ha : Agrees σ a) : ∀ {rs : List ResultVar} {K : List Value → Prop}, retsV P σ w rs K →
    ∃ vs, K vs ∧ (rs.mapM (resOne a.tmps) : Sem (List Value)).run P w = .ok vs w
  | [], K, h => ⟨[], h, by simp⟩
  | .tmp t :: r, K, h => by
    simp only [retsV] at h
    split at h
    · rename_i v hv
      obtain ⟨vs, hk, hr⟩ := retsV_spec ha h
      refine ⟨v :: vs, hk, ?_⟩
      have hv' : a.tmps.getD t undef = v := by simp [ha t v hv]
      have h1 : (resOne a.tmps (.tmp t)).run P w = .ok v w := by simp only [resOne, hv', Sem.run_pure]
      rw [List.mapM_cons]
      simp only [h1, Sem.run_bind, Sem.run_pure, Result.andThen_ok, hr]
    · exact h.elim
  | .cell t ty :: r, K, h => by
    simp only [retsV] at h
    split at h
    · rename_i p hv
      obtain ⟨ad, rfl, h2⟩ := Pn_spec h
      obtain ⟨v, hl, h3⟩ := ldVar_spec h2
      obtain ⟨vs, hk, hr⟩ := retsV_spec ha h3
      refine ⟨v :: vs, hk, ?_⟩
      have hv' : a.tmps.getD t undef = .pointer (some ad) := by simp [ha t _ hv]
      have h1 : (resOne a.tmps (.cell t ty)).run P w = .ok v w := by simp only [resOne, hv', asAddr, Sem.run_bind, Sem.run_pure, Result.andThen_ok, hl]
      rw [List.mapM_cons]
      simp only [h1, Sem.run_bind, Sem.run_pure, Result.andThen_ok, hr]
    · exact h.elim
theorem retV_spec {fn : Func} {σ : List (Nat × Value)} {w : World} {a : Act} (ha : Agrees σ a) (h : retV P fn.results.toList σ w R) : ∃ v, R v w ∧ (results fn a.tmps).run P w = .ok v w := by
  obtain ⟨vs, hk, hr⟩ := retsV_spec ha h
  have hr2 : (results fn a.tmps).run P w = .ok (if h : vs.toArray.size = 1 then vs.toArray[0] else .tuple vs.toArray) w := by
    rw [results_eq]
    simp only [Array.mapM_eq_mapM_toList, Sem.run_bind, Sem.run_map, hr, Result.andThen_ok, Sem.run_pure]
  match vs, hk, hr2 with
  | [v], hk, hr2 => exact ⟨v, hk, by simpa using hr2⟩
  | [], hk, hr2 => exact ⟨_, hk, by simpa using hr2⟩
  | v :: u :: l, hk, hr2 => exact ⟨_, hk, by simpa using hr2⟩
theorem exitP_spec {body : Code} {id : Nat} : ∀ {k k' : List (Nat × List Nat)}, exitP id k = some k' → exitTo id (k.map (toItem body)) = some (k'.map (toItem body))
  | [], _, h => by simp [exitP] at h
  | (t, p) :: k, k', h => by
    simp only [exitP] at h
    split at h
    · split at h
      · rename_i hb
        simp only [Option.some.injEq] at h
        subst h
        have he := Nat.eq_of_beq_eq_true hb
        simp only [List.headD_eq_head?_getD] at he
        simp [toItem, exitTo, he]
      · rename_i hb
        have hne : ¬ p.headD 0 = id := fun e => by rw [e, Nat.beq_refl] at hb; cases hb
        have := exitP_spec (body := body) h
        simp only [List.headD_eq_head?_getD] at hne
        simp [toItem, exitTo, hne, this]
    · rename_i ht
      have hi := exitP_spec (body := body) h
      have hne : t ≠ 1 := fun e => ht e
      match t, hne with
      | 0, _ => simpa [toItem, exitTo] using hi
      | t + 2, _ => simpa [toItem, exitTo] using hi
theorem kstep_spec {fn : Func} {body : Code} {C : List (Nat × List Nat) → List (Nat × Value) → World → Prop} (hf : P.funcs[f]? = some fn) (hm : P.follows .mixedOrders = true)
    (hC : ∀ k σ w, C k σ w → KW P f n R (k.map (toItem body)) σ w) {k : List (Nat × List Nat)} {σ : List (Nat × Value)} {w : World}
    (h : kstep P n fn.results.toList body R C k σ w) : KW P f n R (k.map (toItem body)) σ w := by
  unfold kstep at h
  split at h
  · intro a b cs ha hn hd hbf hbk
    obtain ⟨v, hR, hr⟩ := retV_spec (fn := fn) ha h
    exact ⟨v, w, _, hR, .one step_end, hbf, rfl, hd, hbk, fn, by rw [← hbf] at hf; exact hf, hr⟩
  · rename_i x k'
    obtain ⟨t, p⟩ := x
    simp only at h
    split at h
    · simp only [List.map_cons, toItem]
      split at h
      · rename_i hs; rw [hs]; exact (hC _ _ _ h).step fun b a cs => step_skip
      · rename_i c1 c2 hs
        have h0 : sub body (p ++ [0]) = c1 ∧ sub body (p ++ [1]) = c2 := sub_seq hs
        rw [hs]
        have := hC _ _ _ h
        simp only [List.map_cons, toItem, h0.1, h0.2] at this
        exact this.step fun b a cs => step_seq
      · rename_i c c1 c2 hs
        have h0 : sub body (p ++ [0]) = c1 ∧ sub body (p ++ [1]) = c2 := sub_cond hs
        rw [hs]
        split at h
        · rename_i t ht
          cases t
          · have h1 := hC _ _ _ h
            simp only [List.map_cons, toItem, h0.2] at h1
            intro a b cs ha hn hd hbf hbk
            obtain ⟨v, w', fr, hR, hst, hrest⟩ := h1 a b cs ha hn hd hbf hbk
            have he : a.eval c = .bool false := by rw [evD_eval ha ht]; simp [evD, ht]
            exact ⟨v, w', fr, hR, .head (step_cond he) hst, hrest⟩
          · have h1 := hC _ _ _ h
            simp only [List.map_cons, toItem, h0.1] at h1
            intro a b cs ha hn hd hbf hbk
            obtain ⟨v, w', fr, hR, hst, hrest⟩ := h1 a b cs ha hn hd hbf hbk
            have he : a.eval c = .bool true := by rw [evD_eval ha ht]; simp [evD, ht]
            exact ⟨v, w', fr, hR, .head (step_cond he) hst, hrest⟩
        · exact h.elim
      · rename_i id c hs
        have h0 : sub body (p ++ [0]) = c := sub_block hs
        rw [hs]
        have h1 := hC _ _ _ h
        simp only [List.map_cons, toItem, h0, List.headD_cons] at h1
        exact h1.step fun b a cs => step_block
      · rename_i c hs
        have h0 : sub body (p ++ [0]) = c := sub_loop hs
        rw [hs]
        have h1 := hC _ _ _ h
        simp only [List.map_cons, toItem, h0] at h1
        exact h1.step fun b a cs => step_loop
      · rename_i id hs
        rw [hs]
        split at h
        · rename_i k'' he
          exact (hC _ _ _ h).step fun b a cs => step_exit (exitP_spec he)
        · exact h.elim
      · rename_i hs
        rw [hs]
        intro a b cs ha hn hd hbf hbk
        obtain ⟨v, hR, hr⟩ := retV_spec (fn := fn) ha h
        exact ⟨v, w, _, hR, .one step_ret, hbf, rfl, hd, hbk, fn, by rw [← hbf] at hf; exact hf, hr⟩
      · rename_i id ops draw hs
        rw [hs]
        intro a b cs ha hn hd hbf hbk
        have hwp : (Code.region id ops draw).wp P (QN n fun σ' w' => C k' σ' w') a w := by
          split at h
          · exact region_text h ha hn hd
          · obtain ⟨hsel, hv⟩ := ckBool_spec h
            exact region_drawn hm hsel hv ha hn hd
        obtain ⟨e, a', w', ⟨he, σ', ha', hn', hd', hc⟩, harr⟩ := hwp b (k'.map (toItem body)) cs
        subst he
        obtain ⟨v, w2, fr, hR, hst, hrest⟩ := hC _ _ _ hc a' b cs ha' hn' hd' hbf hbk
        exact ⟨v, w2, fr, hR, Steps.trans harr hst, hrest⟩
      · exact h.elim
    · simp only [List.map_cons, toItem]
      exact (hC _ _ _ h).step fun b a cs => step_inBlock
    · rename_i h0 h1
      have ht : ∃ t', t = t' + 2 := by
        match t, h0, h1 with
        | 0, h0, _ => exact (h0 rfl).elim
        | 1, _, h1 => exact (h1 rfl).elim
        | t' + 2, _, _ => exact ⟨t', rfl⟩
      obtain ⟨t', rfl⟩ := ht
      have h2 := hC _ _ _ h
      simp only [List.map_cons, toItem] at h2 ⊢
      exact h2.step fun b a cs => step_inLoop
theorem findStop_spec {stops : List (List (Nat × List Nat) × (List (Nat × Value) → World → Prop))} {k : List (Nat × List Nat)} {J : List (Nat × Value) → World → Prop} (h : findStop stops k = some J) : (k, J) ∈ stops := by
  induction stops with
  | nil => simp [findStop] at h
  | cons s r ih =>
    simp only [findStop] at h
    split at h
    · rename_i hk
      simp only [Option.some.injEq] at h
      have := eqK_spec hk
      subst this; subst h
      exact List.mem_cons_self
    · exact List.mem_cons_of_mem _ (ih h)
theorem kvc_spec {fn : Func} {body : Code} {stops : List (List (Nat × List Nat) × (List (Nat × Value) → World → Prop))} (hf : P.funcs[f]? = some fn) (hm : P.follows .mixedOrders = true)
    (hstops : ∀ s ∈ stops, ∀ σ w, s.2 σ w → KW P f n R (s.1.map (toItem body)) σ w) :
    ∀ (fuel : Nat) (k : List (Nat × List Nat)) (σ : List (Nat × Value)) (w : World), kvc P n fn.results.toList body R stops fuel k σ w → KW P f n R (k.map (toItem body)) σ w := by
  intro fuel
  induction fuel with
  | zero => intro k σ w h; exact h.elim
  | succ fuel ih =>
    intro k σ w h
    simp only [kvc] at h
    split at h
    · rename_i J hJ
      exact hstops _ (findStop_spec hJ) σ w h
    · exact kstep_spec hf hm ih h
/-- A block: from its list of things to do, up to the stops. -/
theorem block_spec {fn : Func} {body : Code} {stops : List (List (Nat × List Nat) × (List (Nat × Value) → World → Prop))} {fuel : Nat} {k : List (Nat × List Nat)} {σ : List (Nat × Value)} {w : World} (hf : P.funcs[f]? = some fn) (hm : P.follows .mixedOrders = true)
    (hstops : ∀ s ∈ stops, ∀ σ w, s.2 σ w → KW P f n R (s.1.map (toItem body)) σ w)
    (h : kstep P n fn.results.toList body R (kvc P n fn.results.toList body R stops fuel) k σ w) : KW P f n R (k.map (toItem body)) σ w :=
  kstep_spec hf hm (kvc_spec hf hm hstops fuel) h
/-- The whole function. -/
theorem calls_of_block {fn : Func} {body : Code} {args : Array Value} {w : World} {σ : List (Nat × Value)} (hf : P.funcs[f]? = some fn) (hb : fn.body = some body) (hn' : Nat.ble args.size fn.ntmps = true)
    (hs : ∀ i v, slotOf σ i = some v → args[i]? = some v) (h : KW P f fn.ntmps R ([(0, [])].map (toItem body)) σ w) :
    Calls P f args w fun e w' => ∃ v, e = .returned v ∧ R v w' := by
  have hn := Nat.le_of_ble_eq_true hn'
  intro cs
  have henter : Frame.enter P f args .normal =
      ({ (default : Frame) with fn := f, kind := .normal } : Frame).at { tmps := args ++ Array.replicate (fn.ntmps - args.size) undef, defers := [] } [.code body] := by
    simp [Frame.enter, Frame.at, hf, hb]
  have hag : Agrees σ { tmps := args ++ Array.replicate (fn.ntmps - args.size) undef, defers := [] } := fun i v hv => by
    have h1 := hs i v hv
    have hlt : i < args.size := (Array.getElem?_eq_some_iff.1 h1).1
    rw [Array.getElem?_append_left hlt]; exact h1
  obtain ⟨v, w', fr, hR, hst, hfn, hl⟩ := h { tmps := args ++ Array.replicate (fn.ntmps - args.size) undef, defers := [] } { (default : Frame) with fn := f, kind := .normal } cs hag (by simp; omega) rfl rfl rfl
  refine ⟨.returned v, w', fr, ⟨v, rfl, hR⟩, ?_, hfn, hl⟩
  rw [henter]
  have e1 : sub body [] = body := by cases body <;> rfl
  simp only [List.map_cons, List.map_nil, toItem, e1] at hst
  exact hst
end

/-! ### Reading a store's slots as typed values -/
def dI (k : IntKind) (v : Option Value) (K : Int → Prop) : Prop := match v with
  | some (.int k' n) => ckBool (decide (k' = k)) (K n)
  | _ => False
def dB (v : Option Value) (K : Bool → Prop) : Prop := match v with
  | some (.bool n) => K n
  | _ => False
def dS (v : Option Value) (K : ByteArray → Prop) : Prop := match v with
  | some (.string n) => K n
  | _ => False
def dP (v : Option Value) (K : Option Addr → Prop) : Prop := match v with
  | some (.pointer n) => K n
  | _ => False
def dL (v : Option Value) (K : Option Addr → Nat → Nat → Prop) : Prop := match v with
  | some (.slice b l c) => K b l c
  | _ => False
theorem dI_elim {k : IntKind} {v : Option Value} {K : Int → Prop} (h : dI k v K) : ∃ n, v = some (.int k n) ∧ K n := by
  unfold dI at h
  split at h
  · obtain ⟨h1, h2⟩ := ckBool_spec h
    simp only [decide_eq_true_eq] at h1
    subst h1
    exact ⟨_, rfl, h2⟩
  · exact h.elim
theorem dB_elim {v : Option Value} {K : Bool → Prop} (h : dB v K) : ∃ n, v = some (.bool n) ∧ K n := by
  unfold dB at h
  split at h
  · exact ⟨_, rfl, h⟩
  · exact h.elim
theorem dS_elim {v : Option Value} {K : ByteArray → Prop} (h : dS v K) : ∃ n, v = some (.string n) ∧ K n := by
  unfold dS at h
  split at h
  · exact ⟨_, rfl, h⟩
  · exact h.elim
theorem dP_elim {v : Option Value} {K : Option Addr → Prop} (h : dP v K) : ∃ n, v = some (.pointer n) ∧ K n := by
  unfold dP at h
  split at h
  · exact ⟨_, rfl, h⟩
  · exact h.elim
theorem dL_elim {v : Option Value} {K : Option Addr → Nat → Nat → Prop} (h : dL v K) : ∃ b l c, v = some (.slice b l c) ∧ K b l c := by
  unfold dL at h
  split at h
  · exact ⟨_, _, _, rfl, h⟩
  · exact h.elim
/-- A pointer to a block's first cell. -/
def dK (v : Option Value) (K : Nat → Prop) : Prop := match v with
  | some (.pointer (some ⟨b, 0, none⟩)) => K b
  | _ => False
theorem dK_elim {v : Option Value} {K : Nat → Prop} (h : dK v K) : ∃ n, v = some (.pointer (some ⟨n, 0, none⟩)) ∧ K n := by
  unfold dK at h
  split at h
  · exact ⟨_, rfl, h⟩
  · exact h.elim
section
variable {P : Program} {f n : Nat} {R : Value → World → Prop} {body : Code}
theorem stops_nil : ∀ s ∈ ([] : List (List (Nat × List Nat) × (List (Nat × Value) → World → Prop))), ∀ σ w, s.2 σ w → KW P f n R (s.1.map (toItem body)) σ w :=
  fun s hs => by cases hs
theorem stops_cons {k : List (Nat × List Nat)} {J : List (Nat × Value) → World → Prop} {r : List (List (Nat × List Nat) × (List (Nat × Value) → World → Prop))}
    (h : ∀ σ w, J σ w → KW P f n R (k.map (toItem body)) σ w) (t : ∀ s ∈ r, ∀ σ w, s.2 σ w → KW P f n R (s.1.map (toItem body)) σ w) :
    ∀ s ∈ (k, J) :: r, ∀ σ w, s.2 σ w → KW P f n R (s.1.map (toItem body)) σ w := by
  intro s hs
  cases hs with
  | head => exact h
  | tail _ hs => exact t s hs
end
/-- The arguments' slots. -/
def argS : Nat → List Value → List (Nat × Value)
  | _, [] => []
  | i, v :: r => (i, v) :: argS (i + 1) r
theorem slot_argS : ∀ (l : List Value) (k i : Nat) (v : Value), slotOf (argS k l) i = some v → k ≤ i ∧ l[i - k]? = some v
  | [], k, i, v, h => by simp [argS, slotOf] at h
  | u :: r, k, i, v, h => by
    simp only [argS] at h
    by_cases hki : k = i
    · subst hki
      rw [slot_cons_eq] at h
      simp only [Option.some.injEq] at h
      simp [h]
    · rw [slot_cons_ne _ _ hki] at h
      obtain ⟨h1, h2⟩ := slot_argS r (k + 1) i v h
      refine ⟨by omega, ?_⟩
      have : i - k = (i - (k + 1)) + 1 := by omega
      rw [this]; simpa using h2
theorem args_slot (l : List Value) : ∀ i v, slotOf (argS 0 l) i = some v → l.toArray[i]? = some v := fun i v h => by
  have := (slot_argS l 0 i v h).2
  simpa using this
end Go.Vc
