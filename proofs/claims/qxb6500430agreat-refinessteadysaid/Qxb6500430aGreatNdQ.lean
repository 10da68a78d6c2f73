/-
  nodelaw: what the law keeps; the two sides.
-/
import Derived.Test.Qxb6500430aGreatNdP
set_option linter.unusedVariables false
set_option linter.unusedSimpArgs false
open Go.Vc
namespace Go.Proofs.Qxb6500430aGreat
open Kv
theorem slB0 (b : Option Addr) (m : Int) (n : Nat) : slBase b ((0 : Nat) : Int) m n = b := by
  cases b with
  | none => simp [slBase]
  | some a =>
    simp only [slBase]
    split
    · rfl
    · simp [Addr.add]
abbrev MemT : List TypeId := [T_nodelaw_Below, T_api_Did, T_api_Out, T_api_Reply]
abbrev BT : List TypeId := NT ++ MNT
structure MR where
  bb : Nat
  ws : Nat
  wm : Nat
  nb : Option Addr
  nc : Nat
  K : List KD
def MR.KB (ρ : MR) (k : Nat) : Prop := ∃ I ∈ ρ.K, I.foot k
def MR.foot (ρ : MR) (k : Nat) : Prop := k = ρ.bb ∨ k ∈ rowBlk ρ.nb ∨ ρ.KB k
structure MemC (w : World) (lo d s : Nat) (idv : Int) (ρ : MR) : Prop where
  ob : Own w ρ.bb #[.pointer (some ⟨d, 0, none⟩), .pointer (some ⟨s, 0, none⟩), .int .i64 idv] T_nodelaw_Below
  nrow : Row w ρ.nb ρ.K.length ρ.nc 3 T_api_Did (ρ.K.flatMap kdC)
  kp : ∀ I ∈ ρ.K, KpAt w I
  kl : ρ.K.length ≤ 8
  nws : ρ.ws ∉ rowBlk ρ.nb
  nwm : ρ.wm ∉ rowBlk ρ.nb
  ne : ρ.ws ≠ ρ.wm
  gw : lo ≤ ρ.ws
  gm : lo ≤ ρ.wm
  ge : ∀ k, ρ.foot k → lo ≤ k
section
variable {w w' : World} {lo d s d' s' : Nat} {idv idv' : Int} {ρ : MR}
theorem MemC.ty (h : MemC w lo d s idv ρ) {k : Nat} (hk : ρ.foot k) : ∃ cs T, Own w k cs T ∧ T ∈ MemT := by
  rcases hk with rfl | z | ⟨I, hI, z⟩
  · exact ⟨_, _, h.ob, by simp⟩
  · obtain ⟨cs, ho⟩ := h.nrow.ty z
    exact ⟨_, _, ho, by simp⟩
  · obtain ⟨cs, T, ho, hT⟩ := (h.kp I hI).ty z
    refine ⟨cs, T, ho, ?_⟩
    simp only [List.mem_cons, List.not_mem_nil, or_false] at hT
    rcases hT with e | e <;> simp [e]
theorem MemC.lt (h : MemC w lo d s idv ρ) {k : Nat} (hk : ρ.foot k) : k < w.heap.size := by
  obtain ⟨cs, T, ho, _⟩ := h.ty hk
  exact ho.lt
theorem MemC.ext {Z : List Nat} (h : MemC w lo d s idv ρ) (he : Ext Z w w') (hZ : ∀ y ∈ Z, y < w.heap.size → ¬ ρ.foot y) : MemC w' lo d s idv ρ :=
  ⟨he.own h.ob (fun hx => hZ _ hx h.ob.lt (.inl rfl)), h.nrow.ext he (fun k hk hx => hZ k hx (h.nrow.lt k hk) (.inr (.inl hk))), fun I hI => (h.kp I hI).ext he (fun y hy hl hf => hZ y hy hl (.inr (.inr ⟨I, hI, hf⟩))), h.kl, h.nws, h.nwm, h.ne, h.gw, h.gm, h.ge⟩
theorem MemC.extT {ts : List TypeId} (h : MemC w lo d s idv ρ) (he : ExtT w w' ts) (ht : ∀ q ∈ ts, q ∉ MemT) : MemC w' lo d s idv ρ := by
  obtain ⟨Z, hz, hT⟩ := he
  refine h.ext hz fun y hy hl hf => ?_
  obtain ⟨cs, T, ho, hTm⟩ := hT y hy hl
  obtain ⟨cs', T', ho', hT'⟩ := h.ty hf
  rw [(ho'.unique ho).2] at hT'
  exact ht T hTm hT'
theorem MemC.ext0 (h : MemC w lo d s idv ρ) (he : Ext [] w w') : MemC w' lo d s idv ρ := h.ext he (fun y hy => by cases hy)
/-- The lower layers changed. -/
theorem MemC.stB {Q : World → Prop} (h : MemC w lo d s idv ρ) (hQ : ∀ w', MemC w' lo d' s' idv' ρ → Ext [ρ.bb] w w' → ExtT w w' [T_nodelaw_Below] → Q w') : Sts [.pointer (some ⟨d', 0, none⟩), .pointer (some ⟨s', 0, none⟩), .int .i64 idv'] ⟨ρ.bb, 0, none⟩ 0 w Q := by
  refine Sts.full h.ob rfl rfl fun w' hs o he => ?_
  have t := Tys.one h.ob
  refine hQ w' ⟨o, rowT h.nrow he t (by decide), fun I hI => (h.kp I hI).ext he (fun y hy hl hf => ?_), h.kl, h.nws, h.nwm, h.ne, h.gw, h.gm, h.ge⟩ he (ExtT.of he t)
  simp at hy
  subst hy
  obtain ⟨cs, T, ho, hT⟩ := (h.kp I hI).ty hf
  rw [(ho.unique h.ob).2] at hT
  exact absurd hT (by decide)
/-- A list stamped and kept. -/
theorem MemC.push {I : KD} {nb' : Option Addr} {nc' : Nat} {K' : List KD} (h : MemC w lo d s idv ρ) (he : Ext (rowBlk ρ.nb) w w') (hsub : ∀ J ∈ K', J ∈ ρ.K ∨ J = I) (hI : KpAt w I) (hIg : ∀ k, I.foot k → lo ≤ k) (row : Row w' nb' K'.length nc' 3 T_api_Did (K'.flatMap kdC)) (hk8 : K'.length ≤ 8) (hnb : ∀ k ∈ rowBlk nb', k ∈ rowBlk ρ.nb ∨ w.heap.size ≤ k) (hlo : lo ≤ w.heap.size) (hws : ρ.ws < w.heap.size) (hwm : ρ.wm < w.heap.size) : MemC w' lo d s idv { ρ with nb := nb', nc := nc', K := K' } := by
  have t := Tys.row h.nrow
  have kpx : ∀ J, KpAt w J → KpAt w' J := fun J hJ => hJ.ext he (fun y hy hl hf => by
    obtain ⟨cs, T, ho, hT⟩ := hJ.ty hf
    obtain ⟨cs', ho'⟩ := h.nrow.ty hy
    rw [(ho.unique ho').2] at hT
    exact absurd hT (by decide))
  have hn : ∀ k, k < w.heap.size → k ∉ rowBlk ρ.nb → k ∉ rowBlk nb' := fun k hk hx hy => by
    rcases hnb k hy with z | z
    · exact hx z
    · omega
  refine ⟨ownT he t h.ob (by decide), row, fun J hJ => ?_, hk8, hn _ hws h.nws, hn _ hwm h.nwm, h.ne, h.gw, h.gm, fun k hk => ?_⟩
  · rcases hsub J hJ with z | z
    · exact kpx J (h.kp J z)
    · rw [z]; exact kpx I hI
  · rcases hk with z | z | ⟨J, hJ, hf⟩
    · exact h.ge k (.inl z)
    · rcases hnb k z with y | y
      · exact h.ge k (.inr (.inl y))
      · omega
    · rcases hsub J hJ with y | y
      · exact h.ge k (.inr (.inr ⟨J, y, hf⟩))
      · rw [y] at hf; exact hIg k hf
end
/-! ### what the event before gave -/
structure WR where
  er : Int
  ob : Option Addr
  oc : Nat
  rb : Option Addr
  rc : Nat
  ob2 : Option Addr
  oc2 : Nat
  rb2 : Option Addr
  rc2 : Nat
  O : List OutV
  Rp : List Rep
def WR.kx (ω : WR) : KD := ⟨ω.er, ω.ob, ω.O.length, ω.oc, ω.rb, ω.Rp.length, ω.rc⟩
def WR.ky (ω : WR) : KD := ⟨ω.er, ω.ob2, ω.O.length, ω.oc2, ω.rb2, ω.Rp.length, ω.rc2⟩
structure Was (w : World) (lo : Nat) (ρ : MR) (ω : WR) : Prop where
  mx : DidAt w lo ω.ob ω.oc ω.rb ω.rc ω.O ω.Rp
  my : DidAt w lo ω.ob2 ω.oc2 ω.rb2 ω.rc2 ω.O ω.Rp
  ol : ω.O.length ≤ 100
  rl : ω.Rp.length ≤ 100
  dx : ∀ k, ω.kx.foot k → ¬ ρ.KB k
section
variable {w w' : World} {lo : Nat} {ρ ρ' : MR} {ω : WR}
theorem DidAt.extZ {ob rb : Option Addr} {oc rc : Nat} {O : List OutV} {Rp : List Rep} {Z : List Nat} (h : DidAt w lo ob oc rb rc O Rp) (he : Ext Z w w') (hZ : ∀ y ∈ Z, y < w.heap.size → ¬ (y ∈ rowBlk ob ∨ y ∈ rowBlk rb)) : DidAt w' lo ob oc rb rc O Rp :=
  ⟨h.o.ext he (fun k hk hx => hZ k hx (h.o.lt k hk) (.inl hk)), h.r.ext he (fun k hk hx => hZ k hx (h.r.lt k hk) (.inr hk)), h.og, h.rg⟩
theorem Was.xlt (h : Was w lo ρ ω) {k : Nat} (hk : ω.kx.foot k) : k < w.heap.size := by
  rcases hk with z | z
  · exact h.mx.o.lt k z
  · exact h.mx.r.lt k z
theorem Was.xge (h : Was w lo ρ ω) {k : Nat} (hk : ω.kx.foot k) : lo ≤ k := by
  rcases hk with z | z
  · exact h.mx.og k z
  · exact h.mx.rg k z
theorem Was.extT {ts : List TypeId} (h : Was w lo ρ ω) (he : ExtT w w' ts) (h1 : T_api_Out ∉ ts) (h2 : T_api_Reply ∉ ts) : Was w' lo ρ ω := ⟨h.mx.extT he h1 h2, h.my.extT he h1 h2, h.ol, h.rl, h.dx⟩
theorem Was.ext0 (h : Was w lo ρ ω) (he : Ext [] w w') : Was w' lo ρ ω := h.extT (ExtT.nil he []) (by simp) (by simp)
end
/-! ### the two sides -/
structure RR where
  p : Nat
  kp : Nat
  k : Nat
  s : Nat
  l : Nat
  t : Nat
  d : Nat
  e : Nat
  D0 : DiskS
  N0 : Int
  L0 : LogS
  D : DiskS
  F : List Nat
  A : AbsS
  n : NS
  S : List LogS
  raw : Nat → Value
  Rs : List Rep
  p2 : Nat
  kp2 : Nat
  s2 : Nat
  q2 : Nat
  me2 : Nat
  M : MSt
structure Sd (w : World) (lo : Nat) (N : Int) (r : RR) : Prop where
  re : NReal w lo r.p r.kp r.k r.s r.l r.t r.d r.e r.D0 r.N0 r.L0 r.D r.F r.A r.n r.S r.raw r.Rs
  mo : NMod w lo r.p2 r.kp2 r.s2 r.q2 r.me2 r.M r.n
  ok : NOk r.n
  A0 : r.M.A0 = gs r.L0
  H : r.M.H.map (·.2) = r.S.map gs
  aok : AllOk (r.L0 :: r.S)
  slen : r.S.length ≤ 13
  log : r.D.log.length ≤ 400
  nn : r.N0 + (r.S.length : Int) ≤ N
section
variable {w w' : World} {lo : Nat} {N N' : Int} {r : RR}
theorem Sd.extT {ts : List TypeId} (h : Sd w lo N r) (he : ExtT w w' ts) (ht : ∀ q ∈ ts, q ∉ BT) : Sd w' lo N r :=
  ⟨h.re.extT he (fun q hq hx => ht q hq (List.mem_append.2 (.inl hx))), h.mo.extT he (fun q hq hx => ht q hq (List.mem_append.2 (.inr hx))), h.ok, h.A0, h.H, h.aok, h.slen, h.log, h.nn⟩
theorem Sd.ext0 (h : Sd w lo N r) (he : Ext [] w w') : Sd w' lo N r := h.extT (ExtT.nil he []) (fun q hq => by cases hq)
theorem Sd.mono (h : Sd w lo N r) (hn : N ≤ N') : Sd w lo N' r := ⟨h.re, h.mo, h.ok, h.A0, h.H, h.aok, h.slen, h.log, by have := h.nn; omega⟩
theorem Sd.hlen (h : Sd w lo N r) : r.M.H.length = r.S.length := by simpa using congrArg List.length h.H
theorem Sd.path (h : Sd w lo N r) : Path r.D (r.L0 :: r.S) N := h.re.sm.path.mono (fun x hx => hx) h.nn
/-- What a cut leaves. -/
theorem Sd.cut (h : Sd w lo N r) (a : Int) : Good (img (cutI r.D a.toNat)) N ∧ ∃ A' L', L' ∈ r.L0 :: r.S ∧ Holds A' L' ∧ LikeI (cutI r.D a.toNat) A' ∧ (a ≤ 0 → L' = r.L0) ∧ ((r.D.log.length : Int) ≤ a → L' = finL r.L0 r.S) := by
  have hall : Good (img (cutI r.D a.toNat)) N ∧ PV (r.L0 :: r.S) (cutI r.D a.toNat) := by
    by_cases c : a.toNat ≤ r.D.log.length
    · exact h.path.all _ c
    · rw [cutI_over (by omega)]
      exact h.path.all _ (Nat.le_refl _)
  obtain ⟨hg, A', L', hin, hh, hl⟩ := hall
  have okL := h.aok L' hin
  refine ⟨hg, A', L', hin, hh, hl, fun h0 => ?_, fun h1 => ?_⟩
  · have e0 : a.toNat = 0 := by omega
    have e1 : cutI r.D 0 = r.D.mark := by unfold cutI; simp
    rw [e0, e1] at hl
    obtain ⟨A2, L2, hin2, hh2, hl2⟩ := h.path.first r.L0 rfl
    simp at hin2
    subst hin2
    exact holds_uniq hl hl2 hh hh2 okL (h.aok _ (by simp))
  · have e1 : cutI r.D a.toNat = r.D.now := by rw [cutI_over (by omega), h.path.fin]
    rw [e1] at hl
    have re := h.re.sm.rest.real
    rw [h.re.sm.fin] at re
    exact holds_uniq hl re.st.like hh re.holds okL re.ok
/-- The disk marked. -/
theorem NReal.mark {p s kp k l t d e : Nat} {D0 D : DiskS} {N : Int} {L0 : LogS} {F F' : List Nat} {A : AbsS} {n : NS} {S : List LogS} {raw : Nat → Value} {Rs : List Rep} (h : NReal w lo p kp k s l t d e D0 N L0 D F A n S raw Rs) (hD : DiskAt w' d D.marked F') (he : Ext F w w') (hg : Grew w F F') (hlo : lo ≤ w.heap.size) : NReal w' lo p kp k s l t d e D.marked (N + (S.length : Int)) n.Y.L D.marked F' A n [] raw Rs ∧ Fr NT lo w w' := by
  have tF : Tys w F [T_rlog_Log, T_store_Store, T_diskm_Disk, T_string, T_diskm_half] := fun k hk hz => h.sm.rest.real.tys k (List.mem_cons_of_mem _ (List.mem_cons_of_mem _ hk)) hz
  obtain ⟨bx, o⟩ := h.sm.rest.own
  have rest1 : Rest w' s l t d e D.marked F' A n.Y := ⟨⟨bx, ownT he tF o (by decide)⟩, h.sm.rest.real.marked he hD, ownT he tF h.sm.rest.el (by decide)⟩
  have x1 : ExtT w w' [T_rlog_Log, T_store_Store, T_diskm_Disk, T_string, T_diskm_half] := ExtT.of he tF
  have pm : Path D.marked [n.Y.L] (N + (S.length : Int)) := path_marked h.sm.path.good h.sm.rest.real.st.like h.sm.rest.real.holds
  have sm : SM w' s l t d e D.marked (N + (S.length : Int)) n.Y.L D.marked F' A n.Y [] := ⟨rest1, by simpa using pm, by simp, fun _ => rfl, rfl⟩
  obtain ⟨T, m, ho2, hk2⟩ := h.kv
  obtain ⟨f, n0, s0, oe, he0⟩ := h.en
  refine ⟨⟨x1.own h.nd (by decide), sm, ⟨T, m, ⟨x1.own ho2.1 (by decide), ho2.2⟩, hk2⟩, ⟨f, n0, s0, x1.own oe (by decide), he0⟩, h.raw, h.rl, fun y hy => ?_⟩, ⟨x1.mono (by decide), Above.of he fun y hy => h.ge y (by simp [hy])⟩⟩
  have old := h.ge
  simp only [List.mem_cons] at hy old
  rcases hy with q | q | q | q | q | q | q | q
  · exact old y (by simp [q])
  · exact old y (by simp [q])
  · exact old y (by simp [q])
  · exact old y (by simp [q])
  · exact old y (by simp [q])
  · exact old y (by simp [q])
  · exact old y (by simp [q])
  · rcases hg y q with z | z
    · exact old y (by simp [z])
    · omega
end
/-! ### the law's invariant -/
structure LawI (w0 w : World) (N : Int) (ρ : MR) (ω : WR) (idv : Int) (r : RR) : Prop where
  sd : Sd w w0.heap.size N r
  mc : MemC w w0.heap.size r.d r.s idv ρ
  wx : Was w w0.heap.size ρ ω
  ow : Own w ρ.ws (kdC ω.kx).toArray T_api_Did
  om : Own w ρ.wm (kdC ω.ky).toArray T_api_Did
  id : r.n.Y.e.id = (El.newF idv).id
  ext : Ext [] w0 w
section
variable {w0 w w' : World} {N N' : Int} {ρ : MR} {ω : WR} {idv : Int} {r : RR}
theorem LawI.ext0 (h : LawI w0 w N ρ ω idv r) (he : Ext [] w w') : LawI w0 w' N ρ ω idv r := ⟨h.sd.ext0 he, h.mc.ext0 he, h.wx.ext0 he, he.own h.ow (by simp), he.own h.om (by simp), h.id, h.ext.trans he⟩
theorem LawI.mono (h : LawI w0 w N ρ ω idv r) (hn : N ≤ N') : LawI w0 w N' ρ ω idv r := ⟨h.sd.mono hn, h.mc, h.wx, h.ow, h.om, h.id, h.ext⟩
end
abbrev NW := Option Addr → Nat → Nat → Bool → Bool → Nat → Option Addr → Option Addr → Nat → Nat → Option Addr → Nat → Nat → Int → World → Prop
/-- What the walk goes on with. -/
def LawE (w0 : World) (bb ws wm : Nat) (N : Int) (p p2 : Nat) (nb : Option Addr) (nl nc : Nat) (w : World) : Prop :=
  ∃ ρ ω idv r, ρ.bb = bb ∧ ρ.ws = ws ∧ ρ.wm = wm ∧ ρ.nb = nb ∧ ρ.K.length = nl ∧ ρ.nc = nc ∧ r.p = p ∧ r.p2 = p2 ∧ LawI w0 w N ρ ω idv r
end Go.Proofs.Qxb6500430aGreat
