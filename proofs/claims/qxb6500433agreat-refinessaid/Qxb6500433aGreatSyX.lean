/-
  synclaw: what the law keeps; Write.
-/
import Derived.Test.Qxb6500433aGreatSyW
set_option linter.unusedVariables false
set_option linter.unusedSimpArgs false
open Go.Vc
namespace Go.Proofs.Qxb6500433aGreat
abbrev MemT : List TypeId := [T_synclaw_Below, T_api_Msg, T_synclaw_Sent, T_api_Entry, T_synclaw_Kept, T_entsl]
structure MR where
  bb : Nat
  rg : Nat
  ws : Nat
  m : MsgV
  rb : Option Addr
  rc : Nat
  nb : Option Addr
  nc : Nat
  K : List KI
def MR.RB (ρ : MR) (k : Nat) : Prop := k = ρ.rg ∨ k ∈ rowBlk ρ.rb
def MR.KB (ρ : MR) (k : Nat) : Prop := ∃ I ∈ ρ.K, I.foot k
structure MemC (w : World) (lo d l : Nat) (ρ : MR) : Prop where
  ob : Own w ρ.bb #[.pointer (some ⟨d, 0, none⟩), .pointer (some ⟨l, 0, none⟩)] T_synclaw_Below
  orr : Own w ρ.rg (msgC ρ.m ρ.rb ρ.m.ents.length ρ.rc).toArray T_api_Msg
  ea : EA w ρ.rb ρ.m.ents.length ρ.rc ρ.m.ents
  rl : ρ.m.ents.length ≤ 3
  ow : ∃ cs, Own w ρ.ws cs T_synclaw_Sent ∧ cs.size = 2
  nrow : Row w ρ.nb ρ.K.length ρ.nc 2 T_synclaw_Kept (ρ.K.flatMap kiC)
  kp : ∀ I ∈ ρ.K, KpAt w I
  kl : ρ.K.length ≤ 8
  drk : ∀ k, ρ.RB k → ¬ ρ.KB k
  ge : ∀ k, (k = ρ.bb ∨ ρ.RB k ∨ k = ρ.ws ∨ k ∈ rowBlk ρ.nb ∨ ρ.KB k) → lo ≤ k
def MR.foot (ρ : MR) (k : Nat) : Prop := k = ρ.bb ∨ ρ.RB k ∨ k = ρ.ws ∨ k ∈ rowBlk ρ.nb ∨ ρ.KB k
section
variable {w w' : World} {lo d l d' l' : Nat} {ρ : MR}
theorem MemC.ty (h : MemC w lo d l ρ) {k : Nat} (hk : ρ.foot k) : ∃ cs T, Own w k cs T ∧ T ∈ MemT := by
  obtain ⟨csw, ow, _⟩ := h.ow
  rcases hk with rfl | (rfl | z) | rfl | z | ⟨I, hI, z⟩
  · exact ⟨_, _, h.ob, by simp⟩
  · exact ⟨_, _, h.orr, by simp⟩
  · obtain ⟨cs, ho⟩ := Row.ty h.ea z
    exact ⟨_, _, ho, by simp⟩
  · exact ⟨_, _, ow, by simp⟩
  · obtain ⟨cs, ho⟩ := h.nrow.ty z
    exact ⟨_, _, ho, by simp⟩
  · obtain ⟨cs, T, ho, hT⟩ := (h.kp I hI).ty z
    refine ⟨cs, T, ho, ?_⟩
    simp only [List.mem_cons, List.not_mem_nil, or_false] at hT
    rcases hT with e | e | e <;> simp [e]
theorem MemC.lt (h : MemC w lo d l ρ) {k : Nat} (hk : ρ.foot k) : k < w.heap.size := by
  obtain ⟨cs, T, ho, _⟩ := h.ty hk
  exact ho.lt
theorem MemC.ext {Z : List Nat} (h : MemC w lo d l ρ) (he : Ext Z w w') (hZ : ∀ y ∈ Z, y < w.heap.size → ¬ ρ.foot y) : MemC w' lo d l ρ := by
  obtain ⟨csw, ow, hsw⟩ := h.ow
  exact ⟨he.own h.ob (fun hx => hZ _ hx h.ob.lt (.inl rfl)), he.own h.orr (fun hx => hZ _ hx h.orr.lt (.inr (.inl (.inl rfl)))), Row.ext h.ea he (fun k hk hx => hZ k hx (Row.lt h.ea k hk) (.inr (.inl (.inr hk)))), h.rl, ⟨csw, he.own ow (fun hx => hZ _ hx ow.lt (.inr (.inr (.inl rfl)))), hsw⟩, h.nrow.ext he (fun k hk hx => hZ k hx (h.nrow.lt k hk) (.inr (.inr (.inr (.inl hk))))), fun I hI => (h.kp I hI).ext he (fun y hy hl hf => hZ y hy hl (.inr (.inr (.inr (.inr ⟨I, hI, hf⟩))))), h.kl, h.drk, h.ge⟩
theorem MemC.extT {ts : List TypeId} (h : MemC w lo d l ρ) (he : ExtT w w' ts) (ht : ∀ q ∈ ts, q ∉ MemT) : MemC w' lo d l ρ := by
  obtain ⟨Z, hz, hT⟩ := he
  refine h.ext hz fun y hy hl hf => ?_
  obtain ⟨cs, T, ho, hTm⟩ := hT y hy hl
  obtain ⟨cs', T', ho', hT'⟩ := h.ty hf
  rw [(ho'.unique ho).2] at hT'
  exact ht T hTm hT'
theorem MemC.ext0 (h : MemC w lo d l ρ) (he : Ext [] w w') : MemC w' lo d l ρ := h.ext he (fun y hy => by cases hy)
/-- The lower layers changed. -/
theorem MemC.stB {Q : World → Prop} (h : MemC w lo d l ρ) (hQ : ∀ w', MemC w' lo d' l' ρ → Ext [ρ.bb] w w' → Q w') : Sts [.pointer (some ⟨d', 0, none⟩), .pointer (some ⟨l', 0, none⟩)] ⟨ρ.bb, 0, none⟩ 0 w Q := by
  refine Sts.full h.ob rfl rfl fun w' hs o he => hQ w' ?_ he
  have t := Tys.one h.ob
  obtain ⟨csw, ow, hsw⟩ := h.ow
  refine ⟨o, ownT he t h.orr (by decide), rowT h.ea he t (by decide), h.rl, ⟨csw, ownT he t ow (by decide), hsw⟩, rowT h.nrow he t (by decide), fun I hI => (h.kp I hI).ext he (fun y hy hl hf => ?_), h.kl, h.drk, h.ge⟩
  simp at hy
  subst hy
  obtain ⟨cs, T, ho, hT⟩ := (h.kp I hI).ty hf
  rw [(ho.unique h.ob).2] at hT
  exact absurd hT (by decide)
/-- The register laid anew. -/
theorem MemC.reg {m' : MsgV} {rb' : Option Addr} {rc' : Nat} (h : MemC w lo d l ρ) (he : Ext (ρ.rg :: rowBlk ρ.rb) w w') (o : Own w' ρ.rg (msgC m' rb' m'.ents.length rc').toArray T_api_Msg) (ea : EA w' rb' m'.ents.length rc' m'.ents) (rl : m'.ents.length ≤ 3) (hrb : ∀ k ∈ rowBlk rb', k ∈ rowBlk ρ.rb ∨ w.heap.size ≤ k) (hlo : lo ≤ w.heap.size) : MemC w' lo d l { ρ with m := m', rb := rb', rc := rc' } := by
  obtain ⟨csw, ow, hsw⟩ := h.ow
  have t : Tys w (ρ.rg :: rowBlk ρ.rb) [T_api_Msg, T_api_Entry] := fun k hk _ => by
    rcases List.mem_cons.1 hk with rfl | z
    · exact ⟨_, _, h.orr, by simp⟩
    · obtain ⟨cs, ho⟩ := Row.ty h.ea z
      exact ⟨_, _, ho, by simp⟩
  have rbk : ∀ y ∈ ρ.rg :: rowBlk ρ.rb, ρ.RB y := fun y hy => by
    rcases List.mem_cons.1 hy with z | z
    · exact .inl z
    · exact .inr z
  refine ⟨ownT he t h.ob (by decide), o, ea, rl, ⟨csw, ownT he t ow (by decide), hsw⟩, rowT h.nrow he t (by decide), fun I hI => (h.kp I hI).ext he (fun y hy hl hf => h.drk y (rbk y hy) ⟨I, hI, hf⟩), h.kl, fun k hk hkb => ?_, fun k hk => ?_⟩
  · obtain ⟨I, hI, hf⟩ := hkb
    rcases hk with z | z
    · exact h.drk k (.inl z) ⟨I, hI, hf⟩
    · rcases hrb k z with y | y
      · exact h.drk k (.inr y) ⟨I, hI, hf⟩
      · obtain ⟨cs, T, ho, _⟩ := (h.kp I hI).ty hf
        have := ho.lt
        omega
  · rcases hk with z | (z | z) | z | z | z
    · exact h.ge k (.inl z)
    · exact h.ge k (.inr (.inl (.inl z)))
    · rcases hrb k z with y | y
      · exact h.ge k (.inr (.inl (.inr y)))
      · omega
    · exact h.ge k (.inr (.inr (.inl z)))
    · exact h.ge k (.inr (.inr (.inr (.inl z))))
    · exact h.ge k (.inr (.inr (.inr (.inr z))))
/-- A list stamped and kept. -/
theorem MemC.push {I : KI} {nb' : Option Addr} {nc' : Nat} {K' : List KI} (h : MemC w lo d l ρ) (he : Ext (rowBlk ρ.nb) w w') (hsub : ∀ J ∈ K', J ∈ ρ.K ∨ J = I) (hI : KpAt w I) (hIr : ∀ k, I.foot k → ¬ ρ.RB k) (hIg : ∀ k, I.foot k → lo ≤ k) (row : Row w' nb' K'.length nc' 2 T_synclaw_Kept (K'.flatMap kiC)) (hk8 : K'.length ≤ 8) (hnb : ∀ k ∈ rowBlk nb', k ∈ rowBlk ρ.nb ∨ w.heap.size ≤ k) (hlo : lo ≤ w.heap.size) : MemC w' lo d l { ρ with nb := nb', nc := nc', K := K' } := by
  obtain ⟨csw, ow, hsw⟩ := h.ow
  have t := Tys.row h.nrow
  have kpx : ∀ J, KpAt w J → KpAt w' J := fun J hJ => hJ.ext he (fun y hy hl hf => by
    obtain ⟨cs, T, ho, hT⟩ := hJ.ty hf
    obtain ⟨cs', ho'⟩ := h.nrow.ty hy
    rw [(ho.unique ho').2] at hT
    exact absurd hT (by decide))
  refine ⟨ownT he t h.ob (by decide), ownT he t h.orr (by decide), rowT h.ea he t (by decide), h.rl, ⟨csw, ownT he t ow (by decide), hsw⟩, row, fun J hJ => ?_, hk8, fun k hk hkb => ?_, fun k hk => ?_⟩
  · rcases hsub J hJ with z | z
    · exact kpx J (h.kp J z)
    · rw [z]; exact kpx I hI
  · obtain ⟨J, hJ, hf⟩ := hkb
    rcases hsub J hJ with z | z
    · exact h.drk k hk ⟨J, z, hf⟩
    · rw [z] at hf; exact hIr k hf hk
  · rcases hk with z | z | z | z | ⟨J, hJ, hf⟩
    · exact h.ge k (.inl z)
    · exact h.ge k (.inr (.inl z))
    · exact h.ge k (.inr (.inr (.inl z)))
    · rcases hnb k z with y | y
      · exact h.ge k (.inr (.inr (.inr (.inl y))))
      · omega
    · rcases hsub J hJ with y | y
      · exact h.ge k (.inr (.inr (.inr (.inr ⟨J, y, hf⟩))))
      · rw [y] at hf; exact hIg k hf
end
/-! ### the messages of the event before -/
structure WR where
  xb : Option Addr
  xc : Nat
  EX : List ME
  yb : Option Addr
  yc : Nat
  EM : List ME
def WR.XB (ω : WR) (k : Nat) : Prop := k ∈ rowBlk ω.xb ∨ k ∈ EB ω.EX
def WR.YB (ω : WR) (k : Nat) : Prop := k ∈ rowBlk ω.yb ∨ k ∈ EB ω.EM
def WR.cells (ω : WR) : Array Value := #[.slice ω.xb ω.EX.length ω.xc, .slice ω.yb ω.EM.length ω.yc]
structure Was (w : World) (lo : Nat) (ρ : MR) (ω : WR) : Prop where
  mx : ML w ω.xb ω.EX.length ω.xc lo ω.EX
  my : ML w ω.yb ω.EM.length ω.yc lo ω.EM
  same : ω.EX.map (·.1) = ω.EM.map (·.1)
  ent : ∀ y ∈ ω.EX, EntOk y.1
  xl : ω.EX.length ≤ 3
  dxy : ∀ k, ω.XB k → ¬ ω.YB k
  dx : ∀ k, ω.XB k → ¬ ρ.RB k ∧ ¬ ρ.KB k
  dy : ∀ k, ω.YB k → ¬ ρ.RB k
section
variable {w w' : World} {lo : Nat} {ρ ρ' : MR} {ω : WR}
theorem Was.xty (h : Was w lo ρ ω) {k : Nat} (hk : ω.XB k ∨ ω.YB k) : ∃ cs T, Own w k cs T ∧ T ∈ [T_api_Msg, T_api_Entry] := by
  have go : ∀ {b : Option Addr} {l c : Nat} {E : List ME}, ML w b l c lo E → (k ∈ rowBlk b ∨ k ∈ EB E) → ∃ cs T, Own w k cs T ∧ T ∈ [T_api_Msg, T_api_Entry] := fun {b l c E} hm hk => by
    rcases hk with z | z
    · obtain ⟨cs, ho⟩ := hm.row.ty z
      exact ⟨_, _, ho, by simp⟩
    · obtain ⟨y, hy, hz⟩ := mem_EB.1 z
      obtain ⟨cs, ho⟩ := Row.ty (hm.bd.dat y hy) hz
      exact ⟨_, _, ho, by simp⟩
  rcases hk with z | z
  · exact go h.mx z
  · exact go h.my z
theorem Was.lt (h : Was w lo ρ ω) {k : Nat} (hk : ω.XB k ∨ ω.YB k) : k < w.heap.size := by
  obtain ⟨cs, T, ho, _⟩ := h.xty hk
  exact ho.lt
theorem ML.extZ {b : Option Addr} {l c lo : Nat} {E : List ME} {Z : List Nat} (h : ML w b l c lo E) (he : Ext Z w w') (hZ : ∀ y ∈ Z, y < w.heap.size → ¬ (y ∈ rowBlk b ∨ y ∈ EB E)) : ML w' b l c lo E :=
  ⟨h.row.ext he (fun k hk hx => hZ k hx (h.row.lt k hk) (.inl hk)), h.bd.ext he (fun y hy k hk hx => hZ k hx (Row.lt (h.bd.dat y hy) k hk) (.inr (mem_EB.2 ⟨y, hy, hk⟩))), h.blk⟩
theorem Was.ext {Z : List Nat} (h : Was w lo ρ ω) (he : Ext Z w w') (hZ : ∀ y ∈ Z, y < w.heap.size → ¬ ω.XB y ∧ ¬ ω.YB y) : Was w' lo ρ ω :=
  ⟨h.mx.extZ he (fun y hy hl => (hZ y hy hl).1), h.my.extZ he (fun y hy hl => (hZ y hy hl).2), h.same, h.ent, h.xl, h.dxy, h.dx, h.dy⟩
theorem Was.extT {ts : List TypeId} (h : Was w lo ρ ω) (he : ExtT w w' ts) (h1 : T_api_Msg ∉ ts) (h2 : T_api_Entry ∉ ts) : Was w' lo ρ ω :=
  ⟨h.mx.extT he h1 h2, h.my.extT he h1 h2, h.same, h.ent, h.xl, h.dxy, h.dx, h.dy⟩
theorem Was.ext0 (h : Was w lo ρ ω) (he : Ext [] w w') : Was w' lo ρ ω := h.ext he (fun y hy => by cases hy)
theorem Was.nil (w : World) (lo : Nat) (ρ : MR) : Was w lo ρ ⟨none, 0, [], none, 0, []⟩ :=
  ⟨ML.nil _ _, ML.nil _ _, rfl, fun y hy => (by cases hy), by simp, fun k hk => (by rcases hk with z | z <;> cases z), fun k hk => (by rcases hk with z | z <;> cases z), fun k hk => (by rcases hk with z | z <;> cases z)⟩
/-- The register laid anew. -/
theorem Was.reg {m' : MsgV} {rb' : Option Addr} {rc' : Nat} (h : Was w lo ρ ω) (he : Ext (ρ.rg :: rowBlk ρ.rb) w w') (hrb : ∀ k ∈ rowBlk rb', k ∈ rowBlk ρ.rb ∨ w.heap.size ≤ k) : Was w' lo { ρ with m := m', rb := rb', rc := rc' } ω := by
  have rbk : ∀ y ∈ ρ.rg :: rowBlk ρ.rb, ρ.RB y := fun y hy => by
    rcases List.mem_cons.1 hy with z | z
    · exact .inl z
    · exact .inr z
  have h2 := h.ext he (fun y hy hl => ⟨fun z => (h.dx y z).1 (rbk y hy), fun z => h.dy y z (rbk y hy)⟩)
  refine ⟨h2.mx, h2.my, h2.same, h2.ent, h2.xl, h2.dxy, fun k hk => ⟨fun z => ?_, (h.dx k hk).2⟩, fun k hk z => ?_⟩
  · rcases z with z | z
    · exact (h.dx k hk).1 (.inl z)
    · rcases hrb k z with y | y
      · exact (h.dx k hk).1 (.inr y)
      · have := h.lt (.inl hk); omega
  · rcases z with z | z
    · exact h.dy k hk (.inl z)
    · rcases hrb k z with y | y
      · exact h.dy k hk (.inr y)
      · have := h.lt (.inr hk); omega
end
/-! ### Write -/
section
variable {w w' : World}
def zMsg : MsgV := ⟨0, 0, 0, 0, 0, 0, 0, false, [], estr⟩
theorem wWrite_ok {m : MsgV} {rb : Option Addr} {rc : Nat} {o0 o1 o2 o3 : Int} {o4 o5 : ByteArray} {R : RM} (hE : EA w rb m.ents.length rc m.ents) (hl : m.ents.length ≤ 3)
    (hR : ∀ (m' : MsgV) rb' rc' w', EA w' rb' m'.ents.length rc' m'.ents → m'.ents.length ≤ 3 → (∀ k ∈ rowBlk rb', k ∈ rowBlk rb ∨ w.heap.size ≤ k) → Ext (rowBlk rb) w w' → R m'.kind m'.fr m'.to m'.term m'.idx m'.lt m'.cm m'.ok rb' m'.ents.length rc' m'.data w') : synclaw_Write.Call m.kind m.fr m.to m.term m.idx m.lt m.cm m.ok rb m.ents.length rc m.data o0 o1 o2 o3 o4 o5 w R := by
  apply synclaw_Write.sound
  unfold synclaw_Write.B0
  refine New.mk fun rg w1 h1 s1 or1 he1 => New.mk fun oo w2 h2 s2 oo2 he2 => New.mk fun b4 w3 h3 s3 ob3 he3 => ?_
  have E3 := (he1.trans he2).trans he3
  have z1 := he1.size
  have z2 := he2.size
  have or3 : Own w3 rg (msgC m rb m.ents.length rc).toArray T_api_Msg := he3.own (he2.own or1 (by simp)) (by simp)
  have oo3 : Own w3 oo #[.int .i64 o0, .int .i64 o1, .int .i64 o2, .int .i64 o3, .string o4, .string o5] T_api_Op := he3.own oo2 (by simp)
  have hE3 := EA.ext0 hE E3
  have rlt := or1.lt
  have olt := oo2.lt
  have hrb4 : b4 ≠ rg := by omega
  -- the end
  have b1 : ∀ {wx : World} {m' : MsgV} {rb' : Option Addr} {rc' : Nat}, Own wx rg (msgC m' rb' m'.ents.length rc').toArray T_api_Msg → Own wx b4 #[.int .i64 0, .int .i64 0, .int .i64 0, .int .i64 0, .int .i64 0, .int .i64 0, .int .i64 0, .bool false, .slice none 0 0, .string (ByteArray.mk #[])] T_api_Msg → EA wx rb' m'.ents.length rc' m'.ents → m'.ents.length ≤ 3 → (∀ k ∈ rowBlk rb', k ∈ rowBlk rb ∨ w.heap.size ≤ k) → Ext (rowBlk rb) w wx → synclaw_Write.B1 rg b4 wx R := fun {wx m' rb' rc'} o1 o2 ea hl' hrb he => by
    unfold synclaw_Write.B1
    refine retMsg o1 o2 rfl fun wy hey => hR m' rb' rc' wy (Row.ext ea hey (fun k hk hx => ?_)) hl' hrb (he.trans' hey (fun y hy hlt => by simp at hy; omega))
    simp at hx
    obtain ⟨cs, ho⟩ := Row.ty ea hk
    rw [hx] at ho
    exact Own.ne_type ho o2 (by decide) rfl
  have base : synclaw_Write.B1 rg b4 w3 R := b1 or3 ob3 hE3 hl (fun k hk => .inl hk) E3.nil
  refine LdI.mk oo3 rfl (Bm.mk (fun _ => ?_) fun _ => Bm.mk (fun _ => ?_) fun _ => Bm.mk (fun _ => LdL.mk or3 rfl (Bm.ite (fun hle => ?_) fun hgt => base)) fun _ => Bm.mk (fun _ => LdS.mk oo3 rfl ?_) fun _ => base)
  · have oo3d : Own w3.drew oo _ _ := oo3
    have or3d : Own w3.drew rg _ _ := or3
    have ne : oo ≠ rg := by omega
    refine LdI.mk oo3d rfl (LdI.mk oo3d rfl (LdI.mk oo3d rfl (Sts.mk or3d (by simp [msgC]) rfl fun w4 hs4 o4' he4 => ⟨(he4.own oo3d (by simpa using ne)).cell rfl, (he4.own oo3d (by simpa using ne)).cell rfl, Sts.mk o4' (by rw [size_putArr]; simp [msgC]) rfl fun w5 hs5 o5' he5 => ⟨(he5.own (he4.own oo3d (by simpa using ne)) (by simpa using ne)).cell rfl, Sts.mk o5' (by rw [size_putArr, size_putArr]; simp [msgC]) rfl fun w6 hs6 o6' he6 => ?_⟩⟩)))
    have e36 : Ext [rg] w3.drew w6 := (he4.trans he5).trans he6
    refine b1 (m' := { m with fr := o1, to := o2, term := o3 }) o6' (e36.own (Own.drew ob3) (by simpa using hrb4)) (Row.ext (EA.ext0 hE3 (Ext.drew [] w3)) e36 (fun k hk hx => ?_)) hl (fun k hk => .inl hk) (((E3.trans (Ext.drew [] w3)).trans' e36 (fun y hy hlt => by simp at hy; omega)).nil)
    simp at hx
    have := Row.lt hE k hk
    omega
  · have oo3d : Own w3.drew oo _ _ := oo3
    have or3d : Own w3.drew rg _ _ := or3
    have ne : oo ≠ rg := by omega
    refine LdI.mk oo3d rfl (LdI.mk oo3d rfl (LdI.mk oo3d rfl (Sts.mk or3d (by simp [msgC]) rfl fun w4 hs4 o4' he4 => ⟨(he4.own oo3d (by simpa using ne)).cell rfl, (he4.own oo3d (by simpa using ne)).cell rfl, Sts.mk o4' (by rw [size_putArr]; simp [msgC]) rfl fun w5 hs5 o5' he5 => ⟨(he5.own (he4.own oo3d (by simpa using ne)) (by simpa using ne)).cell rfl, Sts.mk o5' (by rw [size_putArr, size_putArr]; simp [msgC]) rfl fun w6 hs6 o6' he6 => ?_⟩⟩)))
    have e36 : Ext [rg] w3.drew w6 := (he4.trans he5).trans he6
    refine b1 (m' := { m with idx := o1, lt := o2, cm := o3 }) o6' (e36.own (Own.drew ob3) (by simpa using hrb4)) (Row.ext (EA.ext0 hE3 (Ext.drew [] w3)) e36 (fun k hk hx => ?_)) hl (fun k hk => .inl hk) (((E3.trans (Ext.drew [] w3)).trans' e36 (fun y hy hlt => by simp at hy; omega)).nil)
    simp at hx
    have := Row.lt hE k hk
    omega
  · refine LdL.mk or3 rfl (LdI.mk oo3 rfl (LdS.mk oo3 rfl (New.mk fun nb w4 hnb hs4 on4 he4 => ?_)))
    have hE4 := EA.ext0 hE3 he4
    refine Vc.Append.mk (e := T_api_Entry) (news := entC (o1, o4)) hE4 (CellsAt.own on4 (fun j v hj => by simpa [entC] using hj)) rfl rfl rfl (by omega) (by omega) fun rb' rc' w5 re5 he5 hb5 => ?_
    have t5 := Tys.row hE4
    have or5 := ownT he5 t5 (he4.own or3 (by simp)) (by decide)
    have ob5 := ownT he5 t5 (he4.own ob3 (by simp)) (by decide)
    refine Sts.mk or5 (by simp [msgC]) rfl fun w6 hs6 or6 he6 => ?_
    have hll : (m.ents ++ [(o1, o4)]).length = m.ents.length + 1 := by simp
    have o6' : Own w6 rg (msgC { m with ents := m.ents ++ [(o1, o4)] } rb' (m.ents ++ [(o1, o4)]).length rc').toArray T_api_Msg := by
      rw [hll]
      exact or6
    refine b1 (m' := { m with ents := m.ents ++ [(o1, o4)] }) o6' (he6.own ob5 (by simpa using hrb4)) ?_ (by show (m.ents ++ [(o1, o4)]).length ≤ 3; rw [hll]; omega) (fun k hk => ?_) ?_
    · show Row w6 rb' (m.ents ++ [(o1, o4)]).length rc' 2 T_api_Entry ((m.ents ++ [(o1, o4)]).flatMap entC)
      rw [hll, List.flatMap_append]
      refine Row.ext (by simpa using re5) he6 (fun k hk hx => ?_)
      simp at hx
      obtain ⟨cs, ho⟩ := Row.ty re5 hk
      rw [hx] at ho
      exact Own.ne_type ho or5 (by decide) rfl
    · rcases hb5 k hk with z | z
      · exact .inl z
      · have := E3.size; have := he4.size; exact .inr (by omega)
    · exact (((E3.trans he4).nil).trans he5).trans' he6 (fun y hy hlt => by simp at hy; omega)
  · refine Sts.mk or3 (by simp [msgC]) rfl fun w4 hs4 o4' he4 => ?_
    refine b1 (m' := { m with data := o4 }) o4' (he4.own ob3 (by simpa using hrb4)) (Row.ext hE3 he4 (fun k hk hx => ?_)) hl (fun k hk => .inl hk) ((E3.trans' he4 (fun y hy hlt => by simp at hy; omega)).nil)
    simp at hx
    have := Row.lt hE k hk
    omega
end
end Go.Proofs.Qxb6500433aGreat
