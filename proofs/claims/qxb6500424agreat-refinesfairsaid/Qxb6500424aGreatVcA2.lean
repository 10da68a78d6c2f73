/-
  Vc, part A2: all operations together.
-/
import Derived.Test.Qxb6500424aGreatVcA
namespace Go.Vc
section
variable {P : Program} {w : World}
theorem opv_run {ρ : Operand → Value} {o : Oper} {K : Value → World → Prop} (hρ : ∀ f, ρ (.func f) = .func (.func f) #[] #[]) (h : opv P ρ o w K) : runOK P (execOp ρ o) w K := by
  obtain ⟨dst, op, type, pos, after, guard⟩ := o
  cases op <;> simp only [opv] at h <;> try exact h.elim
  case move x => exact h
  case assign x => exact h
  case pick c a b =>
    split at h
    · rename_i t ht
      simp only [runOK, execOp, ht, asBool, Sem.run_bind, Sem.run_pure, Result.andThen_ok]
      cases t <;> exact h
    · exact h.elim
  case alloc t =>
    split at h
    · rename_i z hz
      exact execOp_value ⟨_, _, by simp [Instr.alloc, run_zeroValue hz, newVar, newRow], h⟩
    · exact h.elim
  case box t x => exact execOp_value ⟨_, _, by simp [Instr.box, newVar, newRow], h⟩
  case build t parts =>
    split at h
    · rename_i v hv
      refine execOp_value ⟨v, w, buildV_run ?_, h⟩
      rw [Array.toList_map]; exact hv
    · exact h.elim
  case buildSlice t len parts =>
    split at h
    · rename_i e cs hv
      refine execOp_value ⟨_, _, buildSliceV_run ?_, h⟩
      rw [Array.toList_map]; exact hv
    · exact h.elim
  case load t x =>
    split at h
    · rename_i p hp
      obtain ⟨a, rfl, h2⟩ := Pn_spec h
      obtain ⟨v, hr, hk⟩ := ldVar_spec h2
      exact execOp_value ⟨v, w, by simp [Instr.loadAt, hp, Instr.sureAddr, hr], hk⟩
    · exact h.elim
  case store t x y =>
    split at h
    · rename_i p hp
      obtain ⟨a, rfl, h2⟩ := Pn_spec h
      obtain ⟨w', hr, hk⟩ := stVar_spec h2
      exact runOK_unit (s := Instr.storeAt t (ρ x) (ρ y)) (by simp [Instr.storeAt, hp, Instr.sureAddr, hr]) hk
    · exact h.elim
  case nilCheck x =>
    split at h
    · rename_i p hp
      obtain ⟨a, rfl, h2⟩ := Pn_spec h
      simp only [runOK, execOp, hp, Sem.run_pure]
      exact h2
    · exact h.elim
  case binOp op t x y t' =>
    obtain ⟨v, hr, hk⟩ := binV_run (x := x) (y := y) h
    exact execOp_value ⟨v, w, hr w, hk⟩
  case unOp op t x =>
    obtain ⟨v, hr, hk⟩ := unV_run (P := P) h
    exact execOp_value ⟨v, w, hr w, hk⟩
  case convert src dst x => exact execOp_value (convV_run h)
  case makeSlice t l c =>
    split at h
    · rename_i hu hl hc
      split at h
      · rename_i hi
        split at h
        · rename_i hz
          obtain ⟨w', hr, hk⟩ := Make_run hu hi hz h
          exact execOp_value ⟨_, w', by rw [hl, hc]; exact hr, hk⟩
        · exact h.elim
      · exact h.elim
    · exact h.elim
  case slice t x lo hi mx =>
    split at h
    · rename_i s hu hx
      split at h
      · obtain ⟨l, h', m, hr, hk⟩ := sliceV_spec (P := P) (isS := false) h
        exact execOp_value ⟨_, w, by simp [Instr.sliceAt, run_underlying hu, Instr.slice, hx, hr], hk⟩
      · exact h.elim
    · rename_i e b len cap hu hx
      split at h
      · rename_i n hs
        obtain ⟨l, h', m, hr, hk⟩ := sliceV_spec (P := P) (isS := true) h
        exact execOp_value ⟨_, w, by simp [Instr.sliceAt, run_underlying hu, Instr.slice, hx, hr, run_sizeOf hs]; rfl, hk⟩
      · exact h.elim
    · rename_i k e p hu hx
      split at h
      · rename_i n hs
        obtain ⟨a, rfl, h2⟩ := Pn_spec h
        obtain ⟨l, h', m, hr, hk⟩ := sliceV_spec (P := P) (isS := false) h2
        exact execOp_value ⟨_, w, by simp [Instr.sliceAt, run_underlying hu, hx, Instr.sureAddr, hr, run_sizeOf hs]; rfl, hk⟩
      · exact h.elim
    · exact h.elim
  case fieldAddr s x f =>
    split at h
    · rename_i fields hu
      split at h
      · rename_i fd hf
        split at h
        · rename_i n p hs hx
          obtain ⟨a, rfl, h2⟩ := Pn_spec h
          have hf' : fields[f]? = some fd := by simpa using hf
          exact execOp_value ⟨_, w, by simp [Instr.fieldAt, run_underlying hu, hf', hx, Instr.sureAddr, fieldPlace, run_sizeOf hs], h2⟩
        · exact h.elim
      · exact h.elim
    · exact h.elim
  case indexAddr t x ix =>
    split at h
    · rename_i len e p hu hx
      unfold idxQ at h
      split at h
      · rename_i n k i hs hi
        obtain ⟨a, rfl, hb, hk⟩ := Pn_spec h
        exact execOp_value ⟨_, w, by simp [Instr.indexAt, run_underlying hu, hx, hi, asIntOf, Instr.sureAddr, hb, run_sizeOf hs], hk⟩
      · exact h.elim
    · rename_i e b len c hu hx
      unfold idxQ at h
      split at h
      · rename_i n k i hs hi
        obtain ⟨a, rfl, hb, hk⟩ := Pn_spec h
        exact execOp_value ⟨_, w, by simp [Instr.indexAt, run_underlying hu, hx, hi, asIntOf, hb, run_sizeOf hs], hk⟩
      · exact h.elim
    · exact h.elim
  case index t x ix =>
    split at h
    · rename_i s k i hu hx hi
      obtain ⟨⟨h0, h1⟩, hk⟩ := h
      have hlt : i.toNat < s.size := by omega
      have hget : s[i.toNat]? = some (s[i.toNat]) := by simp [hlt]
      have hb : byteAt s i = ((s[i.toNat]).toNat : Int) := by
        have hl : i.toNat < s.data.toList.length := by simpa using hlt
        unfold byteAt
        rw [List.getD_eq_getElem?_getD, List.getElem?_eq_getElem hl]
        rfl
      refine execOp_value ⟨_, w, ?_, hk⟩
      simp [Instr.index, run_underlying hu, hx, hi, asIntOf, h0, hget, hb]
    · exact h.elim
  case extract x i =>
    split at h
    · rename_i vs hx
      split at h
      · rename_i v hv
        have hv' : vs[i]? = some v := by simpa using hv
        exact execOp_value ⟨v, w, by simp [Instr.extract, hx, hv'], h⟩
      · exact h.elim
    · exact h.elim
  case call c => exact callV_run hρ h

/-- Operations that look at no memory and change none. -/
def pureOp (P : Program) : Op → Bool
  | .move _ => true
  | .assign _ => true
  | .pick _ _ _ => true
  | .build _ _ => true
  | .nilCheck _ => true
  | .binOp _ _ _ _ _ => true
  | .unOp _ _ _ => true
  | .slice _ _ _ _ _ => true
  | .fieldAddr _ _ _ => true
  | .indexAddr _ _ _ => true
  | .index _ _ _ => true
  | .extract _ _ => true
  | .convert _ dst _ => isInt P dst
  | .call c => (match c.callee with
    | .builtin .len => true
    | .builtin .cap => true
    | _ => false)
  | _ => false
theorem run_val {s : Sem Value} {v : Value} (h : ∀ w : World, s.run P w = .ok v w) : ∀ w : World, (do pure (Next.value (← s)) : Sem Next).run P w = .ok (.value v) w := by
  intro w; simp only [Sem.run_bind, h, Result.andThen_ok, Sem.run_pure]
theorem opv_pure {ρ : Operand → Value} {o : Oper} {K : Value → World → Prop} (hp : pureOp P o.op = true) (h : opv P ρ o w K) :
    ∃ v, K v w ∧ ∀ w' : World, (execOp ρ o).run P w' = .ok (.value v) w' := by
  obtain ⟨dst, op, type, pos, after, guard⟩ := o
  cases op <;> simp only [pureOp, Bool.false_eq_true] at hp <;> simp only [opv] at h
  case move x => exact ⟨_, h, fun w => rfl⟩
  case assign x => exact ⟨_, h, fun w => rfl⟩
  case pick c a b =>
    split at h
    · rename_i t ht
      cases t
      · exact ⟨_, h, fun w => by simp [execOp, ht, asBool]⟩
      · exact ⟨_, h, fun w => by simp [execOp, ht, asBool]⟩
    · exact h.elim
  case build t parts =>
    split at h
    · rename_i v hv
      refine ⟨v, h, run_val fun w => buildV_run ?_⟩
      rw [Array.toList_map]; exact hv
    · exact h.elim
  case nilCheck x =>
    split at h
    · rename_i p hp
      obtain ⟨a, rfl, h2⟩ := Pn_spec h
      exact ⟨_, h2, fun w => by simp only [execOp, hp, Sem.run_pure]⟩
    · exact h.elim
  case binOp op t x y t' =>
    obtain ⟨v, hr, hk⟩ := binV_run (x := x) (y := y) h
    exact ⟨v, hk, run_val hr⟩
  case unOp op t x =>
    obtain ⟨v, hr, hk⟩ := unV_run (P := P) h
    exact ⟨v, hk, run_val hr⟩
  case convert src dst x =>
    unfold convV at h
    unfold isInt at hp
    split at h
    · rename_i h1 h2 h3
      exact ⟨_, h, run_val fun w => by simp [convert, run_underlying h1, run_underlying h2, h3, Conv.intToInt]⟩
    · rename_i h2 _; simp [h2] at hp
    · rename_i h2 _; simp [h2] at hp
    · exact h.elim
  case slice t x lo hi mx =>
    split at h
    · rename_i s hu hx
      split at h
      · obtain ⟨l, h', m, hr, hk⟩ := sliceV_spec (P := P) (isS := false) h
        exact ⟨_, hk, run_val fun w => by simp [Instr.sliceAt, run_underlying hu, Instr.slice, hx, hr]⟩
      · exact h.elim
    · rename_i e b len cap hu hx
      split at h
      · rename_i n hs
        obtain ⟨l, h', m, hr, hk⟩ := sliceV_spec (P := P) (isS := true) h
        exact ⟨_, hk, run_val fun w => by simp [Instr.sliceAt, run_underlying hu, Instr.slice, hx, hr, run_sizeOf hs]; rfl⟩
      · exact h.elim
    · rename_i k e p hu hx
      split at h
      · rename_i n hs
        obtain ⟨a, rfl, h2⟩ := Pn_spec h
        obtain ⟨l, h', m, hr, hk⟩ := sliceV_spec (P := P) (isS := false) h2
        exact ⟨_, hk, run_val fun w => by simp [Instr.sliceAt, run_underlying hu, hx, Instr.sureAddr, hr, run_sizeOf hs]; rfl⟩
      · exact h.elim
    · exact h.elim
  case fieldAddr s x f =>
    split at h
    · rename_i fields hu
      split at h
      · rename_i fd hf
        split at h
        · rename_i n p hs hx
          obtain ⟨a, rfl, h2⟩ := Pn_spec h
          have hf' : fields[f]? = some fd := by simpa using hf
          exact ⟨_, h2, run_val fun w => by simp [Instr.fieldAt, run_underlying hu, hf', hx, Instr.sureAddr, fieldPlace, run_sizeOf hs]⟩
        · exact h.elim
      · exact h.elim
    · exact h.elim
  case indexAddr t x ix =>
    split at h
    · rename_i len e p hu hx
      unfold idxQ at h
      split at h
      · rename_i n k i hs hi
        obtain ⟨a, rfl, hb, hk⟩ := Pn_spec h
        exact ⟨_, hk, run_val fun w => by simp [Instr.indexAt, run_underlying hu, hx, hi, asIntOf, Instr.sureAddr, hb, run_sizeOf hs]⟩
      · exact h.elim
    · rename_i e b len c hu hx
      unfold idxQ at h
      split at h
      · rename_i n k i hs hi
        obtain ⟨a, rfl, hb, hk⟩ := Pn_spec h
        exact ⟨_, hk, run_val fun w => by simp [Instr.indexAt, run_underlying hu, hx, hi, asIntOf, hb, run_sizeOf hs]⟩
      · exact h.elim
    · exact h.elim
  case index t x ix =>
    split at h
    · rename_i s k i hu hx hi
      obtain ⟨⟨h0, h1⟩, hk⟩ := h
      have hlt : i.toNat < s.size := by omega
      have hget : s[i.toNat]? = some (s[i.toNat]) := by simp [hlt]
      have hb : byteAt s i = ((s[i.toNat]).toNat : Int) := by
        have hl : i.toNat < s.data.toList.length := by simpa using hlt
        unfold byteAt
        rw [List.getD_eq_getElem?_getD, List.getElem?_eq_getElem hl]
        rfl
      refine ⟨_, hk, run_val fun w => ?_⟩
      simp [Instr.index, run_underlying hu, hx, hi, asIntOf, h0, hget, hb]
    · exact h.elim
  case extract x i =>
    split at h
    · rename_i vs hx
      split at h
      · rename_i v hv
        have hv' : vs[i]? = some v := by simpa using hv
        exact ⟨v, h, run_val fun w => by simp [Instr.extract, hx, hv']⟩
      · exact h.elim
    · exact h.elim
  case call c =>
    obtain ⟨callee, ⟨args⟩, ⟨argTypes⟩⟩ := c
    unfold callV at h
    simp only at h hp
    split at h
    · simp at hp
    · split at h
      · rename_i hu hx
        refine ⟨_, h, fun w => ?_⟩
        simp only [execOp, resolve, Sem.run_bind, Sem.run_pure, Result.andThen_ok, invoke, builtin, List.map_toArray, List.map_cons, List.map_nil, hx, Builtin.len_]
        simp [run_underlying hu, goInt]
      · rename_i hu hx
        refine ⟨_, h, fun w => ?_⟩
        simp only [execOp, resolve, Sem.run_bind, Sem.run_pure, Result.andThen_ok, invoke, builtin, List.map_toArray, List.map_cons, List.map_nil, hx, Builtin.len_]
        simp [run_underlying hu, goInt]
      · exact h.elim
    · split at h
      · rename_i hu hx
        refine ⟨_, h, fun w => ?_⟩
        simp only [execOp, resolve, Sem.run_bind, Sem.run_pure, Result.andThen_ok, invoke, builtin, List.map_toArray, List.map_cons, List.map_nil, hx, Builtin.cap_]
        simp [run_underlying hu, goInt]
      · exact h.elim
    · simp at hp
    · simp at hp
    · exact h.elim
end
end Go.Vc
