/-
  host: the real host's memory; lists of frames.
-/
import Derived.Test.Qxb6500424aGreatHoB
import Derived.Test.Qxb6500424aGreatCnH
import Derived.Test.Qxb6500424aGreatSkN
set_option linter.unusedVariables false
set_option linter.unusedSimpArgs false
open Go.Vc
namespace Go.Proofs.Qxb6500424aGreat
/-- A host's blocks. -/
structure HB where
  hp : Nat
  lk : Nat
  ip : Nat
  tb : Nat
  cx : Nat → Nat
  cs : Nat → Nat
  cr : Nat → Nat
def HB.all (B : HB) : List Nat := [B.hp, B.lk, B.ip, B.tb, B.cx 0, B.cx 1, B.cx 2, B.cx 3, B.cs 0, B.cs 1, B.cs 2, B.cs 3, B.cr 0, B.cr 1, B.cr 2, B.cr 3]
section
variable {B : HB} {s : Nat}
theorem HB.mcx (hs : s < 4) : B.cx s ∈ B.all := by
  match s, hs with
  | 0, _ => simp [HB.all]
  | 1, _ => simp [HB.all]
  | 2, _ => simp [HB.all]
  | 3, _ => simp [HB.all]
theorem HB.mcs (hs : s < 4) : B.cs s ∈ B.all := by
  match s, hs with
  | 0, _ => simp [HB.all]
  | 1, _ => simp [HB.all]
  | 2, _ => simp [HB.all]
  | 3, _ => simp [HB.all]
theorem HB.mcr (hs : s < 4) : B.cr s ∈ B.all := by
  match s, hs with
  | 0, _ => simp [HB.all]
  | 1, _ => simp [HB.all]
  | 2, _ => simp [HB.all]
  | 3, _ => simp [HB.all]
theorem HB.cases {y : Nat} (h : y ∈ B.all) : y = B.hp ∨ y = B.lk ∨ y = B.ip ∨ y = B.tb ∨ ∃ s, s < 4 ∧ (y = B.cx s ∨ y = B.cs s ∨ y = B.cr s) := by
  simp only [HB.all, List.mem_cons, List.not_mem_nil, or_false] at h
  rcases h with h | h | h | h | h | h | h | h | h | h | h | h | h | h | h | h
  · exact .inl h
  · exact .inr (.inl h)
  · exact .inr (.inr (.inl h))
  · exact .inr (.inr (.inr (.inl h)))
  · exact .inr (.inr (.inr (.inr ⟨0, by omega, .inl h⟩)))
  · exact .inr (.inr (.inr (.inr ⟨1, by omega, .inl h⟩)))
  · exact .inr (.inr (.inr (.inr ⟨2, by omega, .inl h⟩)))
  · exact .inr (.inr (.inr (.inr ⟨3, by omega, .inl h⟩)))
  · exact .inr (.inr (.inr (.inr ⟨0, by omega, .inr (.inl h)⟩)))
  · exact .inr (.inr (.inr (.inr ⟨1, by omega, .inr (.inl h)⟩)))
  · exact .inr (.inr (.inr (.inr ⟨2, by omega, .inr (.inl h)⟩)))
  · exact .inr (.inr (.inr (.inr ⟨3, by omega, .inr (.inl h)⟩)))
  · exact .inr (.inr (.inr (.inr ⟨0, by omega, .inr (.inr h)⟩)))
  · exact .inr (.inr (.inr (.inr ⟨1, by omega, .inr (.inr h)⟩)))
  · exact .inr (.inr (.inr (.inr ⟨2, by omega, .inr (.inr h)⟩)))
  · exact .inr (.inr (.inr (.inr ⟨3, by omega, .inr (.inr h)⟩)))
end
def hostF (B : HB) (h : HS) (o : Nat) : Value :=
  if o = 0 then .int .i64 h.addr else if o = 1 then .int .i64 h.clk else if o = 2 then .int .i64 h.lost else if o < 11 then .int .i64 (h.dr (o - 3))
  else if o = 11 then .pointer (some ⟨B.lk, 0, none⟩) else if o = 12 then .pointer (some ⟨B.ip, 0, none⟩) else if o < 17 then .pointer (some ⟨B.cx (o - 13), 0, none⟩) else .pointer (some ⟨B.tb, 0, none⟩)
structure IpAt (w : World) (p : Nat) (addr nx cr : Int) (A : List Ip.AR) : Prop where
  ex : ∃ S, Ip.RealAt w p S ∧ Ip.Rel A S ∧ S.addr = addr ∧ S.next = nx ∧ S.credit = cr
structure HostAt (w : World) (B : HB) (h : HS) : Prop where
  own : Own w B.hp (fnArr 18 (hostF B h)) T_host_Host
  L : Fm.RealAt w B.lk h.L
  P : IpAt w B.ip h.addr h.nx h.cr h.A
  T : Sk.RAt w B.tb h.t.K
  C : ∀ s, s < 4 → CnR w (B.cx s) (B.cs s) (B.cr s) (h.t.C s)
  inj : ∀ i j, i < 4 → j < 4 → i ≠ j → B.cx i ≠ B.cx j ∧ B.cs i ≠ B.cs j ∧ B.cr i ≠ B.cr j
def hostTys : List TypeId := [T_host_Host, T_frame_Link, T_ip_IP, T_sock_Table, T_conn_Conn, T_seg_SendBuf, T_seg_RecvBuf]
/-- What is always so of a host's numbers. -/
structure HsOk (n : Int) (h : HS) : Prop where
  addr : 1 ≤ h.addr ∧ h.addr ≤ 3
  La : h.L.addr = h.addr
  L : h.L.Wf n
  nx : 0 ≤ h.nx ∧ h.nx < 256
  cr : 0 ≤ h.cr ∧ h.cr ≤ 24
  sk : Sk.SkOk h.t.K
  cs : ∀ s, s < 4 → CsOk (h.t.C s)
  clk : 0 ≤ h.clk ∧ h.clk ≤ n
  lost : 0 ≤ h.lost ∧ h.lost ≤ n
  dr : ∀ j, j < 8 → 0 ≤ h.dr j ∧ h.dr j ≤ n
  nsd : h.t.K.nsd ≤ n + 1
theorem HsOk.mono {n m : Int} {h : HS} (k : HsOk n h) (hm : n ≤ m) : HsOk m h :=
  ⟨k.addr, k.La, k.L.mono hm, k.nx, k.cr, k.sk, k.cs, ⟨k.clk.1, by have := k.clk; omega⟩, ⟨k.lost.1, by have := k.lost; omega⟩, fun j hj => ⟨(k.dr j hj).1, by have := k.dr j hj; omega⟩, by have := k.nsd; omega⟩
section
variable {w w' w0 : World} {B : HB} {h : HS}
theorem IpAt.ext {p : Nat} {a nx cr : Int} {A : List Ip.AR} {X : List Nat} (k : IpAt w p a nx cr A) (he : Ext X w w') (hp : p ∉ X) : IpAt w' p a nx cr A := by
  obtain ⟨S, h1, h2⟩ := k.ex
  exact ⟨S, he.own h1 hp, h2⟩
theorem HostAt.keep {X : List Nat} (k : HostAt w B h) (he : Ext X w w') (hX : ∀ y ∈ B.all, y ∉ X) : HostAt w' B h :=
  ⟨he.own k.own (hX _ (by simp [HB.all])), he.own k.L (hX _ (by simp [HB.all])), k.P.ext he (hX _ (by simp [HB.all])), k.T.ext he (hX _ (by simp [HB.all])), fun s hs => (k.C s hs).ext he (hX _ (HB.mcx hs)) (hX _ (HB.mcs hs)) (hX _ (HB.mcr hs)), k.inj⟩
theorem HostAt.ext0 (k : HostAt w B h) (he : Ext [] w w') : HostAt w' B h := k.keep he (fun y _ q => by cases q)
theorem HostAt.drew (k : HostAt w B h) : HostAt w.drew B h := k.ext0 (Ext.drew _ _)
theorem HostAt.tys (k : HostAt w B h) : Tys w B.all hostTys := fun y hy _ => by
  rcases HB.cases hy with rfl | rfl | rfl | rfl | ⟨s, hs, q⟩
  · exact ⟨_, _, k.own, by simp [hostTys]⟩
  · exact ⟨_, _, k.L, by simp [hostTys]⟩
  · obtain ⟨S, h1, _⟩ := k.P.ex
    exact ⟨_, _, h1, by simp [hostTys]⟩
  · obtain ⟨T, F, C, o, h1, _⟩ := k.T
    exact ⟨_, _, h1, by simp [hostTys]⟩
  · have hc := k.C s hs
    rcases q with rfl | rfl | rfl
    · exact ⟨_, _, hc.own, by simp [hostTys]⟩
    · obtain ⟨X, h1, _⟩ := hc.s
      exact ⟨_, _, h1, by simp [hostTys]⟩
    · obtain ⟨X, h1, _⟩ := hc.b
      exact ⟨_, _, h1, by simp [hostTys]⟩
theorem HostAt.lt (k : HostAt w B h) : ∀ y ∈ B.all, y < w.heap.size := fun y hy => by
  rcases HB.cases hy with rfl | rfl | rfl | rfl | ⟨s, hs, q⟩
  · exact k.own.lt
  · exact Own.lt k.L
  · obtain ⟨S, h1, _⟩ := k.P.ex
    exact Own.lt h1
  · exact k.T.lt
  · have hc := (k.C s hs).lt
    rcases q with rfl | rfl | rfl
    · exact hc.1
    · exact hc.2.1
    · exact hc.2.2
/-- What lies behind the host is another's. -/
theorem HostAt.notin (k : HostAt w B h) {X : List Nat} {ts : List TypeId} (hX : Tys w X ts) (ht : ∀ t ∈ hostTys, t ∉ ts) : ∀ y ∈ B.all, y ∉ X := fun y hy hx => by
  obtain ⟨cs, t, ho, h1⟩ := k.tys y hy (k.lt y hy)
  obtain ⟨cs', t', ho', h2⟩ := hX y hx (k.lt y hy)
  rw [(ho.unique ho').2] at h1
  exact ht t' h1 h2
theorem HostAt.fresh (k : HostAt w B h) : ∀ y ∈ B.all, ∀ z, w.heap.size ≤ z → y ≠ z := fun y hy z hz => by have := k.lt y hy; omega
/-- One block of the host has been turned: the others stand. -/
theorem HostAt.ne (k : HostAt w B h) : B.hp ≠ B.lk ∧ B.hp ≠ B.ip ∧ B.hp ≠ B.tb ∧ B.lk ≠ B.ip ∧ B.lk ≠ B.tb ∧ B.ip ≠ B.tb ∧ ∀ s, s < 4 → B.hp ≠ B.cx s ∧ B.hp ≠ B.cs s ∧ B.hp ≠ B.cr s ∧ B.lk ≠ B.cx s ∧ B.lk ≠ B.cs s ∧ B.lk ≠ B.cr s ∧ B.ip ≠ B.cx s ∧ B.ip ≠ B.cs s ∧ B.ip ≠ B.cr s ∧ B.tb ≠ B.cx s ∧ B.tb ≠ B.cs s ∧ B.tb ≠ B.cr s := by
  obtain ⟨S, hi, _⟩ := k.P.ex
  obtain ⟨T, F, C, o, ht, _⟩ := k.T
  refine ⟨Own.ne_type k.own k.L (by decide), Own.ne_type k.own hi (by decide), Own.ne_type k.own ht (by decide), Own.ne_type k.L hi (by decide), Own.ne_type k.L ht (by decide), Own.ne_type hi ht (by decide), fun s hs => ?_⟩
  have hc := k.C s hs
  obtain ⟨X, hsb, _⟩ := hc.s
  obtain ⟨Y, hrb, _⟩ := hc.b
  exact ⟨Own.ne_type k.own hc.own (by decide), Own.ne_type k.own hsb (by decide), Own.ne_type k.own hrb (by decide), Own.ne_type k.L hc.own (by decide), Own.ne_type k.L hsb (by decide), Own.ne_type k.L hrb (by decide), Own.ne_type hi hc.own (by decide), Own.ne_type hi hsb (by decide), Own.ne_type hi hrb (by decide), Own.ne_type ht hc.own (by decide), Own.ne_type ht hsb (by decide), Own.ne_type ht hrb (by decide)⟩
theorem HostAt.setL {L' : Fm.LinkS} (k : HostAt w B h) (hL : Fm.RealAt w' B.lk L') (he : Ext [B.lk] w w') : HostAt w' B { h with L := L' } := by
  obtain ⟨n1, n2, n3, n4, n5, n6, n7⟩ := k.ne
  have own : Own w' B.hp (fnArr 18 (hostF B h)) T_host_Host := he.own k.own (by simp; exact n1)
  refine ⟨own, hL, k.P.ext he (by simp; exact fun q => n4 q.symm), k.T.ext he (by simp; exact fun q => n5 q.symm), fun s hs => ?_, k.inj⟩
  obtain ⟨_, _, _, a, b, c, _⟩ := n7 s hs
  exact (k.C s hs).ext he (by simp; exact fun q => a q.symm) (by simp; exact fun q => b q.symm) (by simp; exact fun q => c q.symm)
theorem HostAt.setP {nx cr : Int} {A : List Ip.AR} (k : HostAt w B h) (hP : IpAt w' B.ip h.addr nx cr A) (he : Ext [B.ip] w w') : HostAt w' B { h with nx := nx, cr := cr, A := A } := by
  obtain ⟨n1, n2, n3, n4, n5, n6, n7⟩ := k.ne
  have own : Own w' B.hp (fnArr 18 (hostF B h)) T_host_Host := he.own k.own (by simp; exact n2)
  refine ⟨own, he.own k.L (by simp; exact n4), hP, k.T.ext he (by simp; exact fun q => n6 q.symm), fun s hs => ?_, k.inj⟩
  obtain ⟨_, _, _, _, _, _, a, b, c, _⟩ := n7 s hs
  exact (k.C s hs).ext he (by simp; exact fun q => a q.symm) (by simp; exact fun q => b q.symm) (by simp; exact fun q => c q.symm)
theorem HostAt.setT {K' : Sk.SkS} (k : HostAt w B h) (hT : Sk.RAt w' B.tb K') (he : Ext [B.tb] w w') : HostAt w' B { h with t := ⟨K', h.t.C⟩ } := by
  obtain ⟨n1, n2, n3, n4, n5, n6, n7⟩ := k.ne
  have own : Own w' B.hp (fnArr 18 (hostF B h)) T_host_Host := he.own k.own (by simp; exact n3)
  refine ⟨own, he.own k.L (by simp; exact n5), k.P.ext he (by simp; exact n6), hT, fun s hs => ?_, k.inj⟩
  obtain ⟨_, _, _, _, _, _, _, _, _, a, b, c⟩ := n7 s hs
  exact (k.C s hs).ext he (by simp; exact fun q => a q.symm) (by simp; exact fun q => b q.symm) (by simp; exact fun q => c q.symm)
theorem HostAt.setC {s : Nat} {C' : CS} (k : HostAt w B h) (hs : s < 4) (hC : CnR w' (B.cx s) (B.cs s) (B.cr s) C') (he : Ext [B.cx s, B.cs s, B.cr s] w w') : HostAt w' B { h with t := ⟨h.t.K, updX h.t.C s C'⟩ } := by
  obtain ⟨n1, n2, n3, n4, n5, n6, n7⟩ := k.ne
  obtain ⟨a1, a2, a3, a4, a5, a6, a7, a8, a9, a10, a11, a12⟩ := n7 s hs
  have own : Own w' B.hp (fnArr 18 (hostF B h)) T_host_Host := he.own k.own (by simp; exact ⟨a1, a2, a3⟩)
  refine ⟨own, he.own k.L (by simp; exact ⟨a4, a5, a6⟩), k.P.ext he (by simp; exact ⟨a7, a8, a9⟩), k.T.ext he (by simp; exact ⟨a10, a11, a12⟩), fun j hj => ?_, k.inj⟩
  show CnR w' (B.cx j) (B.cs j) (B.cr j) (updX h.t.C s C' j)
  unfold updX
  by_cases q : j = s
  · rw [if_pos q, q]; exact hC
  · rw [if_neg q]
    obtain ⟨i1, i2, i3⟩ := k.inj j s hj hs q
    have hj' := k.C j hj
    have hs' := k.C s hs
    obtain ⟨X, hsb, _⟩ := hj'.s
    obtain ⟨Y, hrb, _⟩ := hj'.b
    obtain ⟨X2, hsb2, _⟩ := hs'.s
    obtain ⟨Y2, hrb2, _⟩ := hs'.b
    refine hj'.ext he ?_ ?_ ?_
    · simp only [List.mem_cons, List.not_mem_nil, or_false, not_or]
      exact ⟨i1, Own.ne_type hj'.own hsb2 (by decide), Own.ne_type hj'.own hrb2 (by decide)⟩
    · simp only [List.mem_cons, List.not_mem_nil, or_false, not_or]
      exact ⟨Own.ne_type hsb hs'.own (by decide), i2, Own.ne_type hsb hrb2 (by decide)⟩
    · simp only [List.mem_cons, List.not_mem_nil, or_false, not_or]
      exact ⟨Own.ne_type hrb hs'.own (by decide), Own.ne_type hrb hsb2 (by decide), i3⟩
/-- A cell of the host's own. -/
theorem HostAt.st {h' : HS} {o : Nat} {v : Value} {K : World → Prop} (k : HostAt w B h) (ho : o < 18) (h1 : v.oneCell' = true) (hg : ∀ j, j < 18 → (if j = o then v else hostF B h j) = hostF B h' j) (e1 : h'.L = h.L) (e2 : h'.addr = h.addr) (e3 : h'.nx = h.nx) (e4 : h'.cr = h.cr) (e5 : h'.A = h.A) (e6 : h'.t = h.t)
    (hk : ∀ w', w'.heap.size = w.heap.size → HostAt w' B h' → Ext [B.hp] w w' → K w') : Sts [v] ⟨B.hp, o, none⟩ 0 w K := by
  refine Sts.fn k.own (by simp; omega) (by simp [h1]) (g := hostF B h') (fun j hj => ?_) fun w' hs ho' he => ?_
  · rw [← hg j hj]
    unfold fnPut
    by_cases q : j = o
    · subst q; simp
    · rw [if_neg (by simp; omega), if_neg q]
  · obtain ⟨n1, n2, n3, n4, n5, n6, n7⟩ := k.ne
    refine hk w' hs ⟨ho', by rw [e1]; exact he.own k.L (by simp; exact fun q => n1 q.symm), by rw [e2, e3, e4, e5]; exact k.P.ext he (by simp; exact fun q => n2 q.symm), by rw [e6]; exact k.T.ext he (by simp; exact fun q => n3 q.symm), fun s hs => ?_, k.inj⟩ he
    obtain ⟨a, b, c, _⟩ := n7 s hs
    rw [e6]
    exact (k.C s hs).ext he (by simp; exact fun q => a q.symm) (by simp; exact fun q => b q.symm) (by simp; exact fun q => c q.symm)
end
/-! ### lists of frames -/
def frC (e : List Int × Nat) : Value := .slice (some ⟨e.2, 0, none⟩) e.1.length e.1.length
structure FrL (w : World) (b : Option Addr) (l c lo : Nat) (F : List (List Int × Nat)) : Prop where
  row : Row w b l c 1 81 (F.map frC)
  dat : ∀ e ∈ F, Bf w e.2 e.1
  asc : F.Pairwise (fun a b => a.2 < b.2)
  ge : ∀ e ∈ F, lo ≤ e.2
  blk : ∀ k ∈ rowBlk b, lo ≤ k
  cap : c ≤ 9223372036854775807
section
variable {w w' : World} {b : Option Addr} {l c lo : Nat} {F : List (List Int × Nat)}
theorem FrL.len (h : FrL w b l c lo F) : F.length = l := by have := h.row.1; simpa using this
theorem FrL.nil (w : World) (lo : Nat) : FrL w none 0 0 lo [] := ⟨Row.nil _ _ _, fun e he => (by cases he), .nil, fun e he => (by cases he), fun k hk => (by cases hk), by omega⟩
theorem FrL.keep {X : List Nat} (h : FrL w b l c lo F) (he : Ext X w w') (hX : ∀ y ∈ X, y < lo ∨ w.heap.size ≤ y) : FrL w' b l c lo F := by
  refine ⟨h.row.ext he (fun k hk hx => ?_), fun e hm => (h.dat e hm).ext he (fun hx => ?_), h.asc, h.ge, h.blk, h.cap⟩
  · have h1 := h.blk k hk
    have h2 := h.row.lt k hk
    rcases hX k hx with z | z <;> omega
  · have h1 := h.ge e hm
    have h2 := (h.dat e hm).lt
    rcases hX _ hx with z | z <;> omega
theorem FrL.keepT {X : List Nat} {ts : List TypeId} (h : FrL w b l c lo F) (he : Ext X w w') (hX : Tys w X ts) (h1 : (81 : TypeId) ∉ ts) (h2 : T_uint8 ∉ ts) : FrL w' b l c lo F :=
  ⟨rowT h.row he hX h1, fun e hm => ⟨ownT he hX (h.dat e hm).1 h2, (h.dat e hm).2⟩, h.asc, h.ge, h.blk, h.cap⟩
theorem FrL.ext0 (h : FrL w b l c lo F) (he : Ext [] w w') : FrL w' b l c lo F := h.keep he (fun y hy => by cases hy)
theorem FrL.push {k : Nat} {v : List Int} {K : Option Addr → Nat → World → Prop} (h : FrL w b l c lo F) (hk : Bf w k v) (hlo : lo ≤ k) (hw : lo ≤ w.heap.size) (hgt : ∀ e ∈ F, e.2 < k) (hl : l ≤ 100000000)
    (hK : ∀ b' c' w', FrL w' b' (l + 1) c' lo (F ++ [(v, k)]) → Ext (rowBlk b) w w' → (∀ y ∈ rowBlk b', y ∈ rowBlk b ∨ w.heap.size ≤ y) → K b' c' w') :
    New (.cells #[.slice (some ⟨k, 0, none⟩) v.length v.length] 81) w fun nb w1 => Append 81 (.slice none 0 0) 1 24 b l c (some ⟨nb, 0, none⟩) 1 w1 K := by
  refine New.mk fun nb w1 hnb hs1 onb he1 => ?_
  have h1 := h.ext0 he1
  refine Vc.Append.mkC (e := 81) (news := [frC (v, k)]) h1.row (CellsAt.own onb (fun j v hj => by simpa [frC] using hj)) rfl rfl rfl (by omega) (by omega) fun b' c' w2 hrow2 hE2 hb2 hcc => ?_
  have hz1 := he1.size
  have hkl := hk.lt
  have nin : ∀ {y : Nat}, (∃ v, Bf w1 y v) → y ∉ rowBlk b := fun {y} hy hx => by
    obtain ⟨v, hv⟩ := hy
    obtain ⟨cs, ho⟩ := h1.row.ty hx
    exact Own.ne_type hv.1 ho (by decide) rfl
  refine hK b' c' w2 ⟨by rw [List.map_append]; exact hrow2, fun e he => ?_, ?_, fun e he => ?_, fun y hy => ?_, by have := h.cap; omega⟩ (he1.nil.trans hE2) (fun y hy => ?_)
  · rcases List.mem_append.1 he with q | q
    · have hd := h1.dat e q
      exact hd.ext hE2 (nin ⟨_, hd⟩)
    · rw [List.mem_singleton.1 q]
      have hd := hk.ext0 he1
      exact hd.ext hE2 (nin ⟨_, hd⟩)
  · refine List.pairwise_append.2 ⟨h.asc, List.pairwise_singleton _ _, fun a ha b hb => ?_⟩
    rw [List.mem_singleton.1 hb]
    exact hgt a ha
  · rcases List.mem_append.1 he with q | q
    · exact h.ge e q
    · rw [List.mem_singleton.1 q]; exact hlo
  · rcases hb2 y hy with q | ⟨q, _⟩
    · exact h.blk y q
    · omega
  · rcases hb2 y hy with q | ⟨q, _⟩
    · exact .inl q
    · exact .inr (by omega)
end
end Go.Proofs.Qxb6500424aGreat
