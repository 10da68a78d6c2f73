import Derived.Test.Qxb6500426aSig
set_option maxRecDepth 100000
set_option linter.unusedVariables false
open Go.Vc
namespace Go.Proofs.Qxb6500426a
def segm_RecvBuf_Avail.B0 (b : Option Addr) (w : World)   (R : Int → World → Prop) : Prop :=
  Pn b fun a =>
  LdL (a.add 1) w fun x6_b x6_l x6_c =>
  R ((x6_l : Nat) : Int) w
theorem segm_RecvBuf_Avail.B0_eq (b : Option Addr) (w : World)   (R : Int → World → Prop)  :
    (
  Pn b fun a =>
  LdL (a.add 1) w fun x6_b x6_l x6_c =>
  R ((x6_l : Nat) : Int) w) = kstep Try.prog 8 Try.f36.results.toList (Try.f36.body.getD .skip) (segm_RecvBuf_Avail.RV R) (kvc Try.prog 8 Try.f36.results.toList (Try.f36.body.getD .skip) (segm_RecvBuf_Avail.RV R) [] 2000) [(0, [])] [(0, .pointer b)] w := by kernel_rfl
theorem segm_RecvBuf_Avail.B0_sound {R : Int → World → Prop}  (b : Option Addr) (w : World) (h : segm_RecvBuf_Avail.B0 b w   R) :
    KW Try.prog 36 8 (segm_RecvBuf_Avail.RV R) ([(0, [])].map (toItem (Try.f36.body.getD .skip))) [(0, .pointer b)] w := by
  exact block_spec Try.func36 Try.mixed stops_nil (Eq.mp (segm_RecvBuf_Avail.B0_eq b w   R ) h)
theorem segm_RecvBuf_Avail.sound (b : Option Addr) (w : World) (R : Int → World → Prop) (h : segm_RecvBuf_Avail.B0 b w R) : segm_RecvBuf_Avail.Call b w R := by
  have hc := calls_of_block (args := #[.pointer b]) Try.func36 (body := (Try.f36.body.getD .skip)) (by kernel_rfl) (by kernel_rfl) (args_slot _) (segm_RecvBuf_Avail.B0_sound b w h)
  exact hc.mono fun e w' he => by
    obtain ⟨v, rfl, hv⟩ := he
    exact segm_RecvBuf_Avail.RV_elim hv
def seg_RecvBuf_Window.B0 (b : Option Addr) (w : World)   (R : Int → World → Prop) : Prop :=
  Pn b fun a =>
  LdI .i64 (a.add 17) w fun x6 =>
  R (IntKind.i64.wrap ((16 : Int) - x6)) w
theorem seg_RecvBuf_Window.B0_eq (b : Option Addr) (w : World)   (R : Int → World → Prop)  :
    (
  Pn b fun a =>
  LdI .i64 (a.add 17) w fun x6 =>
  R (IntKind.i64.wrap ((16 : Int) - x6)) w) = kstep Try.prog 8 Try.f37.results.toList (Try.f37.body.getD .skip) (seg_RecvBuf_Window.RV R) (kvc Try.prog 8 Try.f37.results.toList (Try.f37.body.getD .skip) (seg_RecvBuf_Window.RV R) [] 2000) [(0, [])] [(0, .pointer b)] w := by kernel_rfl
theorem seg_RecvBuf_Window.B0_sound {R : Int → World → Prop}  (b : Option Addr) (w : World) (h : seg_RecvBuf_Window.B0 b w   R) :
    KW Try.prog 37 8 (seg_RecvBuf_Window.RV R) ([(0, [])].map (toItem (Try.f37.body.getD .skip))) [(0, .pointer b)] w := by
  exact block_spec Try.func37 Try.mixed stops_nil (Eq.mp (seg_RecvBuf_Window.B0_eq b w   R ) h)
theorem seg_RecvBuf_Window.sound (b : Option Addr) (w : World) (R : Int → World → Prop) (h : seg_RecvBuf_Window.B0 b w R) : seg_RecvBuf_Window.Call b w R := by
  have hc := calls_of_block (args := #[.pointer b]) Try.func37 (body := (Try.f37.body.getD .skip)) (by kernel_rfl) (by kernel_rfl) (args_slot _) (seg_RecvBuf_Window.B0_sound b w h)
  exact hc.mono fun e w' he => by
    obtain ⟨v, rfl, hv⟩ := he
    exact seg_RecvBuf_Window.RV_elim hv
def segm_RecvBuf_Window.B0 (b : Option Addr) (w : World)   (R : Int → World → Prop) : Prop :=
  Pn b fun a =>
  LdL (a.add 1) w fun x6_b x6_l x6_c =>
  R (IntKind.i64.wrap ((16 : Int) - ((x6_l : Nat) : Int))) w
theorem segm_RecvBuf_Window.B0_eq (b : Option Addr) (w : World)   (R : Int → World → Prop)  :
    (
  Pn b fun a =>
  LdL (a.add 1) w fun x6_b x6_l x6_c =>
  R (IntKind.i64.wrap ((16 : Int) - ((x6_l : Nat) : Int))) w) = kstep Try.prog 9 Try.f38.results.toList (Try.f38.body.getD .skip) (segm_RecvBuf_Window.RV R) (kvc Try.prog 9 Try.f38.results.toList (Try.f38.body.getD .skip) (segm_RecvBuf_Window.RV R) [] 2000) [(0, [])] [(0, .pointer b)] w := by kernel_rfl
theorem segm_RecvBuf_Window.B0_sound {R : Int → World → Prop}  (b : Option Addr) (w : World) (h : segm_RecvBuf_Window.B0 b w   R) :
    KW Try.prog 38 9 (segm_RecvBuf_Window.RV R) ([(0, [])].map (toItem (Try.f38.body.getD .skip))) [(0, .pointer b)] w := by
  exact block_spec Try.func38 Try.mixed stops_nil (Eq.mp (segm_RecvBuf_Window.B0_eq b w   R ) h)
theorem segm_RecvBuf_Window.sound (b : Option Addr) (w : World) (R : Int → World → Prop) (h : segm_RecvBuf_Window.B0 b w R) : segm_RecvBuf_Window.Call b w R := by
  have hc := calls_of_block (args := #[.pointer b]) Try.func38 (body := (Try.f38.body.getD .skip)) (by kernel_rfl) (by kernel_rfl) (args_slot _) (segm_RecvBuf_Window.B0_sound b w h)
  exact hc.mono fun e w' he => by
    obtain ⟨v, rfl, hv⟩ := he
    exact segm_RecvBuf_Window.RV_elim hv
def seg_RecvBuf_Held.L1b (n m0 : Int) (w : World)  (N1 : Int → Int → World → Prop) (R : Int → World → Prop) : Prop :=
  Bm (m0 != (0 : Int)) (
    N1 (IntKind.i64.wrap (n + (1 : Int))) (IntKind.u16.wrap (BitVec.ofInt IntKind.u16.bits m0 &&& BitVec.ofInt IntKind.u16.bits (IntKind.u16.wrap (m0 - (1 : Int)))).toNat) w) (
    R n w)
theorem seg_RecvBuf_Held.L1b_eq (n m0 : Int) (w : World)  (N1 : Int → Int → World → Prop) (R : Int → World → Prop)  :
    (
  Bm (m0 != (0 : Int)) (
    N1 (IntKind.i64.wrap (n + (1 : Int))) (IntKind.u16.wrap (BitVec.ofInt IntKind.u16.bits m0 &&& BitVec.ofInt IntKind.u16.bits (IntKind.u16.wrap (m0 - (1 : Int)))).toNat) w) (
    R n w)) = kstep Try.prog 18 Try.f39.results.toList (Try.f39.body.getD .skip) (seg_RecvBuf_Held.RV R) (kvc Try.prog 18 Try.f39.results.toList (Try.f39.body.getD .skip) (seg_RecvBuf_Held.RV R) [([(0, [1, 1, 0, 1, 0, 0]), (2, [1, 1, 0, 1, 0, 0]), (1, [0]), (0, [1, 1, 1])], fun σ w => dI .i64 (slotOf σ 3) fun n_ => dI .u16 (slotOf σ 4) fun m0_ => N1 n_ m0_ w)] 2000) [(0, [1, 1, 0, 1, 0, 0]), (2, [1, 1, 0, 1, 0, 0]), (1, [0]), (0, [1, 1, 1])] [(3, .int .i64 n), (4, .int .u16 m0)] w := by kernel_rfl
theorem seg_RecvBuf_Held.L1b_sound {R : Int → World → Prop} {N1 : Int → Int → World → Prop} (hN1 : ∀ n m0 w, N1 n m0 w → KW Try.prog 39 18 (seg_RecvBuf_Held.RV R) ([(0, [1, 1, 0, 1, 0, 0]), (2, [1, 1, 0, 1, 0, 0]), (1, [0]), (0, [1, 1, 1])].map (toItem (Try.f39.body.getD .skip))) [(3, .int .i64 n), (4, .int .u16 m0)] w) (n m0 : Int) (w : World) (h : seg_RecvBuf_Held.L1b n m0 w  N1 R) :
    KW Try.prog 39 18 (seg_RecvBuf_Held.RV R) ([(0, [1, 1, 0, 1, 0, 0]), (2, [1, 1, 0, 1, 0, 0]), (1, [0]), (0, [1, 1, 1])].map (toItem (Try.f39.body.getD .skip))) [(3, .int .i64 n), (4, .int .u16 m0)] w := by
  exact block_spec Try.func39 Try.mixed (stops_cons (fun σ w h => by
      obtain ⟨n_, e0, h⟩ := dI_elim h
      obtain ⟨m0_, e1, h⟩ := dI_elim h
      exact (hN1 n_ m0_ w h).weaken (Sub.cons (Sub.cons (Sub.nil _) e1) e0)) stops_nil) (Eq.mp (seg_RecvBuf_Held.L1b_eq n m0 w  N1 R ) h)
def seg_RecvBuf_Held.L1 (n m0 : Int) (w : World)  (R : Int → World → Prop) : Prop :=
  ∃ (I : Nat → Int → Int → World → Prop) (m : Nat), I m n m0 w ∧ ∀ m n m0 w, I m n m0 w → seg_RecvBuf_Held.L1b n m0 w  (fun n' m0' w' => ∃ m', m' < m ∧ I m' n' m0' w') R
theorem seg_RecvBuf_Held.L1_sound {R : Int → World → Prop}  (n m0 : Int) (w : World) (h : seg_RecvBuf_Held.L1 n m0 w  R) :
    KW Try.prog 39 18 (seg_RecvBuf_Held.RV R) ([(0, [1, 1, 0, 1, 0, 0]), (2, [1, 1, 0, 1, 0, 0]), (1, [0]), (0, [1, 1, 1])].map (toItem (Try.f39.body.getD .skip))) [(3, .int .i64 n), (4, .int .u16 m0)] w := by
  obtain ⟨I, m, hBase, hr⟩ := h
  refine KW.loop (fun m σ w => ∃ (n m0 : Int), σ = [(3, .int .i64 n), (4, .int .u16 m0)] ∧ I m n m0 w) ?_ m _ w ⟨n, m0, rfl, hBase⟩
  rintro m ih σ w ⟨n, m0, rfl, hI⟩
  exact seg_RecvBuf_Held.L1b_sound  (N1 := fun n' m0' w' => ∃ m', m' < m ∧ I m' n' m0' w') (fun n' m0' w' hx => by obtain ⟨m', hlt, hI'⟩ := hx; exact ih m' hlt _ w' ⟨n', m0', rfl, hI'⟩) n m0 w (hr m n m0 w hI)
def seg_RecvBuf_Held.B0 (b : Option Addr) (w : World)   (R : Int → World → Prop) : Prop :=
  Pn b fun a =>
  LdI .u16 (a.add 18) w fun x8 =>
  seg_RecvBuf_Held.L1 (0 : Int) x8 w  R
theorem seg_RecvBuf_Held.B0_eq (b : Option Addr) (w : World)   (R : Int → World → Prop) (sL1 : Int → Int → World → Prop) :
    (
  Pn b fun a =>
  LdI .u16 (a.add 18) w fun x8 =>
  sL1 (0 : Int) x8 w) = kstep Try.prog 18 Try.f39.results.toList (Try.f39.body.getD .skip) (seg_RecvBuf_Held.RV R) (kvc Try.prog 18 Try.f39.results.toList (Try.f39.body.getD .skip) (seg_RecvBuf_Held.RV R) [([(0, [1, 1, 0, 1, 0, 0]), (2, [1, 1, 0, 1, 0, 0]), (1, [0]), (0, [1, 1, 1])], fun σ w => dI .i64 (slotOf σ 3) fun n_ => dI .u16 (slotOf σ 4) fun m0_ => sL1 n_ m0_ w)] 2000) [(0, [])] [(0, .pointer b)] w := by kernel_rfl
theorem seg_RecvBuf_Held.B0_sound {R : Int → World → Prop}  (b : Option Addr) (w : World) (h : seg_RecvBuf_Held.B0 b w   R) :
    KW Try.prog 39 18 (seg_RecvBuf_Held.RV R) ([(0, [])].map (toItem (Try.f39.body.getD .skip))) [(0, .pointer b)] w := by
  exact block_spec Try.func39 Try.mixed (stops_cons (fun σ w h => by
      obtain ⟨n_, e0, h⟩ := dI_elim h
      obtain ⟨m0_, e1, h⟩ := dI_elim h
      exact (seg_RecvBuf_Held.L1_sound  n_ m0_ w h).weaken (Sub.cons (Sub.cons (Sub.nil _) e1) e0)) stops_nil) (Eq.mp (seg_RecvBuf_Held.B0_eq b w   R (fun n_ m0_ w => seg_RecvBuf_Held.L1 n_ m0_ w  R)) h)
theorem seg_RecvBuf_Held.sound (b : Option Addr) (w : World) (R : Int → World → Prop) (h : seg_RecvBuf_Held.B0 b w R) : seg_RecvBuf_Held.Call b w R := by
  have hc := calls_of_block (args := #[.pointer b]) Try.func39 (body := (Try.f39.body.getD .skip)) (by kernel_rfl) (by kernel_rfl) (args_slot _) (seg_RecvBuf_Held.B0_sound b w h)
  exact hc.mono fun e w' he => by
    obtain ⟨v, rfl, hv⟩ := he
    exact seg_RecvBuf_Held.RV_elim hv
def segm_RecvBuf_Held.B1 (b : Option Addr) (n d : Int) (w : World) (N1 : Option Addr → Int → Int → World → Prop)  (R : Int → World → Prop) : Prop :=
  N1 b n (IntKind.i64.wrap (d + (1 : Int))) w
theorem segm_RecvBuf_Held.B1_eq (b : Option Addr) (n d : Int) (w : World) (N1 : Option Addr → Int → Int → World → Prop)  (R : Int → World → Prop)  :
    (
  N1 b n (IntKind.i64.wrap (d + (1 : Int))) w) = kstep Try.prog 18 Try.f40.results.toList (Try.f40.body.getD .skip) (segm_RecvBuf_Held.RV R) (kvc Try.prog 18 Try.f40.results.toList (Try.f40.body.getD .skip) (segm_RecvBuf_Held.RV R) [([(0, [1, 1, 0, 1, 0, 0]), (2, [1, 1, 0, 1, 0, 0]), (1, [0]), (0, [1, 1, 1])], fun σ w => dP (slotOf σ 0) fun b_ => dI .i64 (slotOf σ 3) fun n_ => dI .i64 (slotOf σ 4) fun d_ => N1 b_ n_ d_ w)] 2000) [(0, [1, 1, 0, 1, 0, 0, 1, 1]), (2, [1, 1, 0, 1, 0, 0]), (1, [0]), (0, [1, 1, 1])] [(0, .pointer b), (3, .int .i64 n), (4, .int .i64 d)] w := by kernel_rfl
theorem segm_RecvBuf_Held.B1_sound {R : Int → World → Prop} {N1 : Option Addr → Int → Int → World → Prop} (hN1 : ∀ b n d w, N1 b n d w → KW Try.prog 40 18 (segm_RecvBuf_Held.RV R) ([(0, [1, 1, 0, 1, 0, 0]), (2, [1, 1, 0, 1, 0, 0]), (1, [0]), (0, [1, 1, 1])].map (toItem (Try.f40.body.getD .skip))) [(0, .pointer b), (3, .int .i64 n), (4, .int .i64 d)] w) (b : Option Addr) (n d : Int) (w : World) (h : segm_RecvBuf_Held.B1 b n d w N1  R) :
    KW Try.prog 40 18 (segm_RecvBuf_Held.RV R) ([(0, [1, 1, 0, 1, 0, 0, 1, 1]), (2, [1, 1, 0, 1, 0, 0]), (1, [0]), (0, [1, 1, 1])].map (toItem (Try.f40.body.getD .skip))) [(0, .pointer b), (3, .int .i64 n), (4, .int .i64 d)] w := by
  exact block_spec Try.func40 Try.mixed (stops_cons (fun σ w h => by
      obtain ⟨b_, e0, h⟩ := dP_elim h
      obtain ⟨n_, e1, h⟩ := dI_elim h
      obtain ⟨d_, e2, h⟩ := dI_elim h
      exact (hN1 b_ n_ d_ w h).weaken (Sub.cons (Sub.cons (Sub.cons (Sub.nil _) e2) e1) e0)) stops_nil) (Eq.mp (segm_RecvBuf_Held.B1_eq b n d w N1  R ) h)
def segm_RecvBuf_Held.L1b (b : Option Addr) (n d : Int) (w : World)  (N1 : Option Addr → Int → Int → World → Prop) (R : Int → World → Prop) : Prop :=
  Bm (decide (d < (16 : Int))) (
    Pn b fun a =>
    (0 ≤ d ∧ d < ((16 : Nat) : Int)) ∧
    LdB (Addr.add (a.add 2) (d.toNat * 1)) w fun x14 =>
    Bm x14 (
      segm_RecvBuf_Held.B1 b (IntKind.i64.wrap (n + (1 : Int))) d w N1 R) (
      segm_RecvBuf_Held.B1 b n d w N1 R)) (
    R n w)
theorem segm_RecvBuf_Held.L1b_eq (b : Option Addr) (n d : Int) (w : World)  (N1 : Option Addr → Int → Int → World → Prop) (R : Int → World → Prop) (sB1 : Option Addr → Int → Int → World → Prop) :
    (
  Bm (decide (d < (16 : Int))) (
    Pn b fun a =>
    (0 ≤ d ∧ d < ((16 : Nat) : Int)) ∧
    LdB (Addr.add (a.add 2) (d.toNat * 1)) w fun x14 =>
    Bm x14 (
      sB1 b (IntKind.i64.wrap (n + (1 : Int))) d w) (
      sB1 b n d w)) (
    R n w)) = kstep Try.prog 18 Try.f40.results.toList (Try.f40.body.getD .skip) (segm_RecvBuf_Held.RV R) (kvc Try.prog 18 Try.f40.results.toList (Try.f40.body.getD .skip) (segm_RecvBuf_Held.RV R) [([(0, [1, 1, 0, 1, 0, 0, 1, 1]), (2, [1, 1, 0, 1, 0, 0]), (1, [0]), (0, [1, 1, 1])], fun σ w => dP (slotOf σ 0) fun b_ => dI .i64 (slotOf σ 3) fun n_ => dI .i64 (slotOf σ 4) fun d_ => sB1 b_ n_ d_ w)] 2000) [(0, [1, 1, 0, 1, 0, 0]), (2, [1, 1, 0, 1, 0, 0]), (1, [0]), (0, [1, 1, 1])] [(0, .pointer b), (3, .int .i64 n), (4, .int .i64 d)] w := by kernel_rfl
theorem segm_RecvBuf_Held.L1b_sound {R : Int → World → Prop} {N1 : Option Addr → Int → Int → World → Prop} (hN1 : ∀ b n d w, N1 b n d w → KW Try.prog 40 18 (segm_RecvBuf_Held.RV R) ([(0, [1, 1, 0, 1, 0, 0]), (2, [1, 1, 0, 1, 0, 0]), (1, [0]), (0, [1, 1, 1])].map (toItem (Try.f40.body.getD .skip))) [(0, .pointer b), (3, .int .i64 n), (4, .int .i64 d)] w) (b : Option Addr) (n d : Int) (w : World) (h : segm_RecvBuf_Held.L1b b n d w  N1 R) :
    KW Try.prog 40 18 (segm_RecvBuf_Held.RV R) ([(0, [1, 1, 0, 1, 0, 0]), (2, [1, 1, 0, 1, 0, 0]), (1, [0]), (0, [1, 1, 1])].map (toItem (Try.f40.body.getD .skip))) [(0, .pointer b), (3, .int .i64 n), (4, .int .i64 d)] w := by
  exact block_spec Try.func40 Try.mixed (stops_cons (fun σ w h => by
      obtain ⟨b_, e0, h⟩ := dP_elim h
      obtain ⟨n_, e1, h⟩ := dI_elim h
      obtain ⟨d_, e2, h⟩ := dI_elim h
      exact (segm_RecvBuf_Held.B1_sound hN1 b_ n_ d_ w h).weaken (Sub.cons (Sub.cons (Sub.cons (Sub.nil _) e2) e1) e0)) stops_nil) (Eq.mp (segm_RecvBuf_Held.L1b_eq b n d w  N1 R (fun b_ n_ d_ w => segm_RecvBuf_Held.B1 b_ n_ d_ w N1 R)) h)
def segm_RecvBuf_Held.L1 (b : Option Addr) (n d : Int) (w : World)  (R : Int → World → Prop) : Prop :=
  ∃ (I : Nat → Option Addr → Int → Int → World → Prop) (m : Nat), I m b n d w ∧ ∀ m b n d w, I m b n d w → segm_RecvBuf_Held.L1b b n d w  (fun b' n' d' w' => ∃ m', m' < m ∧ I m' b' n' d' w') R
theorem segm_RecvBuf_Held.L1_sound {R : Int → World → Prop}  (b : Option Addr) (n d : Int) (w : World) (h : segm_RecvBuf_Held.L1 b n d w  R) :
    KW Try.prog 40 18 (segm_RecvBuf_Held.RV R) ([(0, [1, 1, 0, 1, 0, 0]), (2, [1, 1, 0, 1, 0, 0]), (1, [0]), (0, [1, 1, 1])].map (toItem (Try.f40.body.getD .skip))) [(0, .pointer b), (3, .int .i64 n), (4, .int .i64 d)] w := by
  obtain ⟨I, m, hBase, hr⟩ := h
  refine KW.loop (fun m σ w => ∃ (b : Option Addr) (n d : Int), σ = [(0, .pointer b), (3, .int .i64 n), (4, .int .i64 d)] ∧ I m b n d w) ?_ m _ w ⟨b, n, d, rfl, hBase⟩
  rintro m ih σ w ⟨b, n, d, rfl, hI⟩
  exact segm_RecvBuf_Held.L1b_sound  (N1 := fun b' n' d' w' => ∃ m', m' < m ∧ I m' b' n' d' w') (fun b' n' d' w' hx => by obtain ⟨m', hlt, hI'⟩ := hx; exact ih m' hlt _ w' ⟨b', n', d', rfl, hI'⟩) b n d w (hr m b n d w hI)
def segm_RecvBuf_Held.B0 (b : Option Addr) (w : World)   (R : Int → World → Prop) : Prop :=
  segm_RecvBuf_Held.L1 b (0 : Int) (0 : Int) w  R
theorem segm_RecvBuf_Held.B0_eq (b : Option Addr) (w : World)   (R : Int → World → Prop) (sL1 : Option Addr → Int → Int → World → Prop) :
    (
  sL1 b (0 : Int) (0 : Int) w) = kstep Try.prog 18 Try.f40.results.toList (Try.f40.body.getD .skip) (segm_RecvBuf_Held.RV R) (kvc Try.prog 18 Try.f40.results.toList (Try.f40.body.getD .skip) (segm_RecvBuf_Held.RV R) [([(0, [1, 1, 0, 1, 0, 0]), (2, [1, 1, 0, 1, 0, 0]), (1, [0]), (0, [1, 1, 1])], fun σ w => dP (slotOf σ 0) fun b_ => dI .i64 (slotOf σ 3) fun n_ => dI .i64 (slotOf σ 4) fun d_ => sL1 b_ n_ d_ w)] 2000) [(0, [])] [(0, .pointer b)] w := by kernel_rfl
theorem segm_RecvBuf_Held.B0_sound {R : Int → World → Prop}  (b : Option Addr) (w : World) (h : segm_RecvBuf_Held.B0 b w   R) :
    KW Try.prog 40 18 (segm_RecvBuf_Held.RV R) ([(0, [])].map (toItem (Try.f40.body.getD .skip))) [(0, .pointer b)] w := by
  exact block_spec Try.func40 Try.mixed (stops_cons (fun σ w h => by
      obtain ⟨b_, e0, h⟩ := dP_elim h
      obtain ⟨n_, e1, h⟩ := dI_elim h
      obtain ⟨d_, e2, h⟩ := dI_elim h
      exact (segm_RecvBuf_Held.L1_sound  b_ n_ d_ w h).weaken (Sub.cons (Sub.cons (Sub.cons (Sub.nil _) e2) e1) e0)) stops_nil) (Eq.mp (segm_RecvBuf_Held.B0_eq b w   R (fun b_ n_ d_ w => segm_RecvBuf_Held.L1 b_ n_ d_ w  R)) h)
theorem segm_RecvBuf_Held.sound (b : Option Addr) (w : World) (R : Int → World → Prop) (h : segm_RecvBuf_Held.B0 b w R) : segm_RecvBuf_Held.Call b w R := by
  have hc := calls_of_block (args := #[.pointer b]) Try.func40 (body := (Try.f40.body.getD .skip)) (by kernel_rfl) (by kernel_rfl) (args_slot _) (segm_RecvBuf_Held.B0_sound b w h)
  exact hc.mono fun e w' he => by
    obtain ⟨v, rfl, hv⟩ := he
    exact segm_RecvBuf_Held.RV_elim hv
def seg_RecvBuf_Bytes.B0 (b : Option Addr) (w : World)   (R : Option Addr → Nat → Nat → World → Prop) : Prop :=
  Pn b fun a =>
  LdI .i64 (a.add 17) w fun x7 =>
  seg_RecvBuf_first.Call b x7 w fun r8_b r8_l r8_c w1 =>
  R r8_b r8_l r8_c w1
theorem seg_RecvBuf_Bytes.B0_eq (b : Option Addr) (w : World)   (R : Option Addr → Nat → Nat → World → Prop)  :
    (
  Pn b fun a =>
  LdI .i64 (a.add 17) w fun x7 =>
  seg_RecvBuf_first.Call b x7 w fun r8_b r8_l r8_c w1 =>
  R r8_b r8_l r8_c w1) = kstep Try.prog 9 Try.f41.results.toList (Try.f41.body.getD .skip) (seg_RecvBuf_Bytes.RV R) (kvc Try.prog 9 Try.f41.results.toList (Try.f41.body.getD .skip) (seg_RecvBuf_Bytes.RV R) [] 2000) [(0, [])] [(0, .pointer b)] w := by kernel_rfl
theorem seg_RecvBuf_Bytes.B0_sound {R : Option Addr → Nat → Nat → World → Prop}  (b : Option Addr) (w : World) (h : seg_RecvBuf_Bytes.B0 b w   R) :
    KW Try.prog 41 9 (seg_RecvBuf_Bytes.RV R) ([(0, [])].map (toItem (Try.f41.body.getD .skip))) [(0, .pointer b)] w := by
  exact block_spec Try.func41 Try.mixed stops_nil (Eq.mp (seg_RecvBuf_Bytes.B0_eq b w   R ) h)
theorem seg_RecvBuf_Bytes.sound (b : Option Addr) (w : World) (R : Option Addr → Nat → Nat → World → Prop) (h : seg_RecvBuf_Bytes.B0 b w R) : seg_RecvBuf_Bytes.Call b w R := by
  have hc := calls_of_block (args := #[.pointer b]) Try.func41 (body := (Try.f41.body.getD .skip)) (by kernel_rfl) (by kernel_rfl) (args_slot _) (seg_RecvBuf_Bytes.B0_sound b w h)
  exact hc.mono fun e w' he => by
    obtain ⟨v, rfl, hv⟩ := he
    exact seg_RecvBuf_Bytes.RV_elim hv
def segm_RecvBuf_Bytes.B0 (b : Option Addr) (w : World)   (R : Option Addr → Nat → Nat → World → Prop) : Prop :=
  Pn b fun a =>
  LdL (a.add 1) w fun x6_b x6_l x6_c =>
  api_CopyBytes.Call x6_b x6_l x6_c w fun r7_b r7_l r7_c w1 =>
  R r7_b r7_l r7_c w1
theorem segm_RecvBuf_Bytes.B0_eq (b : Option Addr) (w : World)   (R : Option Addr → Nat → Nat → World → Prop)  :
    (
  Pn b fun a =>
  LdL (a.add 1) w fun x6_b x6_l x6_c =>
  api_CopyBytes.Call x6_b x6_l x6_c w fun r7_b r7_l r7_c w1 =>
  R r7_b r7_l r7_c w1) = kstep Try.prog 8 Try.f42.results.toList (Try.f42.body.getD .skip) (segm_RecvBuf_Bytes.RV R) (kvc Try.prog 8 Try.f42.results.toList (Try.f42.body.getD .skip) (segm_RecvBuf_Bytes.RV R) [] 2000) [(0, [])] [(0, .pointer b)] w := by kernel_rfl
theorem segm_RecvBuf_Bytes.B0_sound {R : Option Addr → Nat → Nat → World → Prop}  (b : Option Addr) (w : World) (h : segm_RecvBuf_Bytes.B0 b w   R) :
    KW Try.prog 42 8 (segm_RecvBuf_Bytes.RV R) ([(0, [])].map (toItem (Try.f42.body.getD .skip))) [(0, .pointer b)] w := by
  exact block_spec Try.func42 Try.mixed stops_nil (Eq.mp (segm_RecvBuf_Bytes.B0_eq b w   R ) h)
theorem segm_RecvBuf_Bytes.sound (b : Option Addr) (w : World) (R : Option Addr → Nat → Nat → World → Prop) (h : segm_RecvBuf_Bytes.B0 b w R) : segm_RecvBuf_Bytes.Call b w R := by
  have hc := calls_of_block (args := #[.pointer b]) Try.func42 (body := (Try.f42.body.getD .skip)) (by kernel_rfl) (by kernel_rfl) (args_slot _) (segm_RecvBuf_Bytes.B0_sound b w h)
  exact hc.mono fun e w' he => by
    obtain ⟨v, rfl, hv⟩ := he
    exact segm_RecvBuf_Bytes.RV_elim hv
def seg_RecvBuf_Ahead.B1 (b out_b : Option Addr) (out_l out_c : Nat) (d : Int) (w : World) (N1 : Option Addr → Option Addr → Nat → Nat → Int → World → Prop)  (R : Option Addr → Nat → Nat → World → Prop) : Prop :=
  N1 b out_b out_l out_c (IntKind.i64.wrap (d + (1 : Int))) w
theorem seg_RecvBuf_Ahead.B1_eq (b out_b : Option Addr) (out_l out_c : Nat) (d : Int) (w : World) (N1 : Option Addr → Option Addr → Nat → Nat → Int → World → Prop)  (R : Option Addr → Nat → Nat → World → Prop)  :
    (
  N1 b out_b out_l out_c (IntKind.i64.wrap (d + (1 : Int))) w) = kstep Try.prog 40 Try.f43.results.toList (Try.f43.body.getD .skip) (seg_RecvBuf_Ahead.RV R) (kvc Try.prog 40 Try.f43.results.toList (Try.f43.body.getD .skip) (seg_RecvBuf_Ahead.RV R) [([(0, [1, 1, 0, 1, 0, 0]), (2, [1, 1, 0, 1, 0, 0]), (1, [0]), (0, [1, 1, 1])], fun σ w => dP (slotOf σ 0) fun b_ => dL (slotOf σ 3) fun out_b_ out_l_ out_c_ => dI .i64 (slotOf σ 4) fun d_ => N1 b_ out_b_ out_l_ out_c_ d_ w)] 2000) [(0, [1, 1, 0, 1, 0, 0, 1, 1]), (2, [1, 1, 0, 1, 0, 0]), (1, [0]), (0, [1, 1, 1])] [(0, .pointer b), (3, .slice out_b out_l out_c), (4, .int .i64 d)] w := by kernel_rfl
theorem seg_RecvBuf_Ahead.B1_sound {R : Option Addr → Nat → Nat → World → Prop} {N1 : Option Addr → Option Addr → Nat → Nat → Int → World → Prop} (hN1 : ∀ b out_b out_l out_c d w, N1 b out_b out_l out_c d w → KW Try.prog 43 40 (seg_RecvBuf_Ahead.RV R) ([(0, [1, 1, 0, 1, 0, 0]), (2, [1, 1, 0, 1, 0, 0]), (1, [0]), (0, [1, 1, 1])].map (toItem (Try.f43.body.getD .skip))) [(0, .pointer b), (3, .slice out_b out_l out_c), (4, .int .i64 d)] w) (b out_b : Option Addr) (out_l out_c : Nat) (d : Int) (w : World) (h : seg_RecvBuf_Ahead.B1 b out_b out_l out_c d w N1  R) :
    KW Try.prog 43 40 (seg_RecvBuf_Ahead.RV R) ([(0, [1, 1, 0, 1, 0, 0, 1, 1]), (2, [1, 1, 0, 1, 0, 0]), (1, [0]), (0, [1, 1, 1])].map (toItem (Try.f43.body.getD .skip))) [(0, .pointer b), (3, .slice out_b out_l out_c), (4, .int .i64 d)] w := by
  exact block_spec Try.func43 Try.mixed (stops_cons (fun σ w h => by
      obtain ⟨b_, e0, h⟩ := dP_elim h
      obtain ⟨out_b_, out_l_, out_c_, e1, h⟩ := dL_elim h
      obtain ⟨d_, e2, h⟩ := dI_elim h
      exact (hN1 b_ out_b_ out_l_ out_c_ d_ w h).weaken (Sub.cons (Sub.cons (Sub.cons (Sub.nil _) e2) e1) e0)) stops_nil) (Eq.mp (seg_RecvBuf_Ahead.B1_eq b out_b out_l out_c d w N1  R ) h)
def seg_RecvBuf_Ahead.L1b (b out_b : Option Addr) (out_l out_c : Nat) (d : Int) (w : World)  (N1 : Option Addr → Option Addr → Nat → Nat → Int → World → Prop) (R : Option Addr → Nat → Nat → World → Prop) : Prop :=
  Bm (decide (d < (16 : Int))) (
    Pn out_b fun a =>
    (0 ≤ d ∧ d < ((out_l : Nat) : Int)) ∧
    Sts [.int .i64 (-1 : Int)] (Addr.add a (d.toNat * 1)) 0 w fun w1 =>
    Pn b fun a_1 =>
    LdI .u16 (a_1.add 18) w1.drew fun x16 =>
    seg_RecvBuf_bit.Call b d w1.drew fun r19 w2 =>
    w2.cell? (a_1.add 18) = some (.int .u16 x16) ∧
    Bm ((IntKind.u16.wrap (BitVec.ofInt IntKind.u16.bits x16 &&& BitVec.ofInt IntKind.u16.bits r19).toNat) != (0 : Int)) (
      Pn b fun a_2 =>
      LdI .u8 (a_2.add 16) w2.drew fun x28 =>
      (16 : Int) ≠ 0 ∧
      Pn b fun a_3 =>
      (0 ≤ ((IntKind.i64.wrap ((IntKind.i64.wrap x28) + d)).tmod (16 : Int)) ∧ ((IntKind.i64.wrap ((IntKind.i64.wrap x28) + d)).tmod (16 : Int)) < ((16 : Nat) : Int)) ∧
      LdI .u8 (Addr.add a_3 (((IntKind.i64.wrap ((IntKind.i64.wrap x28) + d)).tmod (16 : Int)).toNat * 1)) w2.drew fun x36 =>
      Pn out_b fun a_4 =>
      (0 ≤ d ∧ d < ((out_l : Nat) : Int)) ∧
      Sts [.int .i64 (IntKind.i64.wrap x36)] (Addr.add a_4 (d.toNat * 1)) 0 w2.drew fun w3 =>
      seg_RecvBuf_Ahead.B1 b out_b out_l out_c d w3 N1 R) (
      seg_RecvBuf_Ahead.B1 b out_b out_l out_c d w2 N1 R)) (
    R out_b out_l out_c w)
theorem seg_RecvBuf_Ahead.L1b_eq (b out_b : Option Addr) (out_l out_c : Nat) (d : Int) (w : World)  (N1 : Option Addr → Option Addr → Nat → Nat → Int → World → Prop) (R : Option Addr → Nat → Nat → World → Prop) (sB1 : Option Addr → Option Addr → Nat → Nat → Int → World → Prop) :
    (
  Bm (decide (d < (16 : Int))) (
    Pn out_b fun a =>
    (0 ≤ d ∧ d < ((out_l : Nat) : Int)) ∧
    Sts [.int .i64 (-1 : Int)] (Addr.add a (d.toNat * 1)) 0 w fun w1 =>
    Pn b fun a_1 =>
    LdI .u16 (a_1.add 18) w1.drew fun x16 =>
    seg_RecvBuf_bit.Call b d w1.drew fun r19 w2 =>
    w2.cell? (a_1.add 18) = some (.int .u16 x16) ∧
    Bm ((IntKind.u16.wrap (BitVec.ofInt IntKind.u16.bits x16 &&& BitVec.ofInt IntKind.u16.bits r19).toNat) != (0 : Int)) (
      Pn b fun a_2 =>
      LdI .u8 (a_2.add 16) w2.drew fun x28 =>
      (16 : Int) ≠ 0 ∧
      Pn b fun a_3 =>
      (0 ≤ ((IntKind.i64.wrap ((IntKind.i64.wrap x28) + d)).tmod (16 : Int)) ∧ ((IntKind.i64.wrap ((IntKind.i64.wrap x28) + d)).tmod (16 : Int)) < ((16 : Nat) : Int)) ∧
      LdI .u8 (Addr.add a_3 (((IntKind.i64.wrap ((IntKind.i64.wrap x28) + d)).tmod (16 : Int)).toNat * 1)) w2.drew fun x36 =>
      Pn out_b fun a_4 =>
      (0 ≤ d ∧ d < ((out_l : Nat) : Int)) ∧
      Sts [.int .i64 (IntKind.i64.wrap x36)] (Addr.add a_4 (d.toNat * 1)) 0 w2.drew fun w3 =>
      sB1 b out_b out_l out_c d w3) (
      sB1 b out_b out_l out_c d w2)) (
    R out_b out_l out_c w)) = kstep Try.prog 40 Try.f43.results.toList (Try.f43.body.getD .skip) (seg_RecvBuf_Ahead.RV R) (kvc Try.prog 40 Try.f43.results.toList (Try.f43.body.getD .skip) (seg_RecvBuf_Ahead.RV R) [([(0, [1, 1, 0, 1, 0, 0, 1, 1]), (2, [1, 1, 0, 1, 0, 0]), (1, [0]), (0, [1, 1, 1])], fun σ w => dP (slotOf σ 0) fun b_ => dL (slotOf σ 3) fun out_b_ out_l_ out_c_ => dI .i64 (slotOf σ 4) fun d_ => sB1 b_ out_b_ out_l_ out_c_ d_ w)] 2000) [(0, [1, 1, 0, 1, 0, 0]), (2, [1, 1, 0, 1, 0, 0]), (1, [0]), (0, [1, 1, 1])] [(0, .pointer b), (3, .slice out_b out_l out_c), (4, .int .i64 d)] w := by kernel_rfl
theorem seg_RecvBuf_Ahead.L1b_sound {R : Option Addr → Nat → Nat → World → Prop} {N1 : Option Addr → Option Addr → Nat → Nat → Int → World → Prop} (hN1 : ∀ b out_b out_l out_c d w, N1 b out_b out_l out_c d w → KW Try.prog 43 40 (seg_RecvBuf_Ahead.RV R) ([(0, [1, 1, 0, 1, 0, 0]), (2, [1, 1, 0, 1, 0, 0]), (1, [0]), (0, [1, 1, 1])].map (toItem (Try.f43.body.getD .skip))) [(0, .pointer b), (3, .slice out_b out_l out_c), (4, .int .i64 d)] w) (b out_b : Option Addr) (out_l out_c : Nat) (d : Int) (w : World) (h : seg_RecvBuf_Ahead.L1b b out_b out_l out_c d w  N1 R) :
    KW Try.prog 43 40 (seg_RecvBuf_Ahead.RV R) ([(0, [1, 1, 0, 1, 0, 0]), (2, [1, 1, 0, 1, 0, 0]), (1, [0]), (0, [1, 1, 1])].map (toItem (Try.f43.body.getD .skip))) [(0, .pointer b), (3, .slice out_b out_l out_c), (4, .int .i64 d)] w := by
  exact block_spec Try.func43 Try.mixed (stops_cons (fun σ w h => by
      obtain ⟨b_, e0, h⟩ := dP_elim h
      obtain ⟨out_b_, out_l_, out_c_, e1, h⟩ := dL_elim h
      obtain ⟨d_, e2, h⟩ := dI_elim h
      exact (seg_RecvBuf_Ahead.B1_sound hN1 b_ out_b_ out_l_ out_c_ d_ w h).weaken (Sub.cons (Sub.cons (Sub.cons (Sub.nil _) e2) e1) e0)) stops_nil) (Eq.mp (seg_RecvBuf_Ahead.L1b_eq b out_b out_l out_c d w  N1 R (fun b_ out_b_ out_l_ out_c_ d_ w => seg_RecvBuf_Ahead.B1 b_ out_b_ out_l_ out_c_ d_ w N1 R)) h)
def seg_RecvBuf_Ahead.L1 (b out_b : Option Addr) (out_l out_c : Nat) (d : Int) (w : World)  (R : Option Addr → Nat → Nat → World → Prop) : Prop :=
  ∃ (I : Nat → Option Addr → Option Addr → Nat → Nat → Int → World → Prop) (m : Nat), I m b out_b out_l out_c d w ∧ ∀ m b out_b out_l out_c d w, I m b out_b out_l out_c d w → seg_RecvBuf_Ahead.L1b b out_b out_l out_c d w  (fun b' out_b' out_l' out_c' d' w' => ∃ m', m' < m ∧ I m' b' out_b' out_l' out_c' d' w') R
theorem seg_RecvBuf_Ahead.L1_sound {R : Option Addr → Nat → Nat → World → Prop}  (b out_b : Option Addr) (out_l out_c : Nat) (d : Int) (w : World) (h : seg_RecvBuf_Ahead.L1 b out_b out_l out_c d w  R) :
    KW Try.prog 43 40 (seg_RecvBuf_Ahead.RV R) ([(0, [1, 1, 0, 1, 0, 0]), (2, [1, 1, 0, 1, 0, 0]), (1, [0]), (0, [1, 1, 1])].map (toItem (Try.f43.body.getD .skip))) [(0, .pointer b), (3, .slice out_b out_l out_c), (4, .int .i64 d)] w := by
  obtain ⟨I, m, hBase, hr⟩ := h
  refine KW.loop (fun m σ w => ∃ (b out_b : Option Addr) (out_l out_c : Nat) (d : Int), σ = [(0, .pointer b), (3, .slice out_b out_l out_c), (4, .int .i64 d)] ∧ I m b out_b out_l out_c d w) ?_ m _ w ⟨b, out_b, out_l, out_c, d, rfl, hBase⟩
  rintro m ih σ w ⟨b, out_b, out_l, out_c, d, rfl, hI⟩
  exact seg_RecvBuf_Ahead.L1b_sound  (N1 := fun b' out_b' out_l' out_c' d' w' => ∃ m', m' < m ∧ I m' b' out_b' out_l' out_c' d' w') (fun b' out_b' out_l' out_c' d' w' hx => by obtain ⟨m', hlt, hI'⟩ := hx; exact ih m' hlt _ w' ⟨b', out_b', out_l', out_c', d', rfl, hI'⟩) b out_b out_l out_c d w (hr m b out_b out_l out_c d w hI)
def seg_RecvBuf_Ahead.B0 (b : Option Addr) (w : World)   (R : Option Addr → Nat → Nat → World → Prop) : Prop :=
  Make 3 (.int .i64 (0 : Int)) 1 8 (16 : Int) (16 : Int) w fun b5 w1 =>
  seg_RecvBuf_Ahead.L1 b (some ⟨b5, 0, none⟩) 16 16 (0 : Int) w1  R
theorem seg_RecvBuf_Ahead.B0_eq (b : Option Addr) (w : World)   (R : Option Addr → Nat → Nat → World → Prop) (sL1 : Option Addr → Option Addr → Nat → Nat → Int → World → Prop) :
    (
  Make 3 (.int .i64 (0 : Int)) 1 8 (16 : Int) (16 : Int) w fun b5 w1 =>
  sL1 b (some ⟨b5, 0, none⟩) 16 16 (0 : Int) w1) = kstep Try.prog 40 Try.f43.results.toList (Try.f43.body.getD .skip) (seg_RecvBuf_Ahead.RV R) (kvc Try.prog 40 Try.f43.results.toList (Try.f43.body.getD .skip) (seg_RecvBuf_Ahead.RV R) [([(0, [1, 1, 0, 1, 0, 0]), (2, [1, 1, 0, 1, 0, 0]), (1, [0]), (0, [1, 1, 1])], fun σ w => dP (slotOf σ 0) fun b_ => dL (slotOf σ 3) fun out_b_ out_l_ out_c_ => dI .i64 (slotOf σ 4) fun d_ => sL1 b_ out_b_ out_l_ out_c_ d_ w)] 2000) [(0, [])] [(0, .pointer b)] w := by kernel_rfl
theorem seg_RecvBuf_Ahead.B0_sound {R : Option Addr → Nat → Nat → World → Prop}  (b : Option Addr) (w : World) (h : seg_RecvBuf_Ahead.B0 b w   R) :
    KW Try.prog 43 40 (seg_RecvBuf_Ahead.RV R) ([(0, [])].map (toItem (Try.f43.body.getD .skip))) [(0, .pointer b)] w := by
  exact block_spec Try.func43 Try.mixed (stops_cons (fun σ w h => by
      obtain ⟨b_, e0, h⟩ := dP_elim h
      obtain ⟨out_b_, out_l_, out_c_, e1, h⟩ := dL_elim h
      obtain ⟨d_, e2, h⟩ := dI_elim h
      exact (seg_RecvBuf_Ahead.L1_sound  b_ out_b_ out_l_ out_c_ d_ w h).weaken (Sub.cons (Sub.cons (Sub.cons (Sub.nil _) e2) e1) e0)) stops_nil) (Eq.mp (seg_RecvBuf_Ahead.B0_eq b w   R (fun b_ out_b_ out_l_ out_c_ d_ w => seg_RecvBuf_Ahead.L1 b_ out_b_ out_l_ out_c_ d_ w  R)) h)
theorem seg_RecvBuf_Ahead.sound (b : Option Addr) (w : World) (R : Option Addr → Nat → Nat → World → Prop) (h : seg_RecvBuf_Ahead.B0 b w R) : seg_RecvBuf_Ahead.Call b w R := by
  have hc := calls_of_block (args := #[.pointer b]) Try.func43 (body := (Try.f43.body.getD .skip)) (by kernel_rfl) (by kernel_rfl) (args_slot _) (seg_RecvBuf_Ahead.B0_sound b w h)
  exact hc.mono fun e w' he => by
    obtain ⟨v, rfl, hv⟩ := he
    exact seg_RecvBuf_Ahead.RV_elim hv
def segm_RecvBuf_Ahead.B1 (b out_b : Option Addr) (out_l out_c : Nat) (d : Int) (w : World) (N1 : Option Addr → Option Addr → Nat → Nat → Int → World → Prop)  (R : Option Addr → Nat → Nat → World → Prop) : Prop :=
  N1 b out_b out_l out_c (IntKind.i64.wrap (d + (1 : Int))) w
theorem segm_RecvBuf_Ahead.B1_eq (b out_b : Option Addr) (out_l out_c : Nat) (d : Int) (w : World) (N1 : Option Addr → Option Addr → Nat → Nat → Int → World → Prop)  (R : Option Addr → Nat → Nat → World → Prop)  :
    (
  N1 b out_b out_l out_c (IntKind.i64.wrap (d + (1 : Int))) w) = kstep Try.prog 30 Try.f44.results.toList (Try.f44.body.getD .skip) (segm_RecvBuf_Ahead.RV R) (kvc Try.prog 30 Try.f44.results.toList (Try.f44.body.getD .skip) (segm_RecvBuf_Ahead.RV R) [([(0, [1, 1, 0, 1, 0, 0]), (2, [1, 1, 0, 1, 0, 0]), (1, [0]), (0, [1, 1, 1])], fun σ w => dP (slotOf σ 0) fun b_ => dL (slotOf σ 3) fun out_b_ out_l_ out_c_ => dI .i64 (slotOf σ 4) fun d_ => N1 b_ out_b_ out_l_ out_c_ d_ w)] 2000) [(0, [1, 1, 0, 1, 0, 0, 1, 1]), (2, [1, 1, 0, 1, 0, 0]), (1, [0]), (0, [1, 1, 1])] [(0, .pointer b), (3, .slice out_b out_l out_c), (4, .int .i64 d)] w := by kernel_rfl
theorem segm_RecvBuf_Ahead.B1_sound {R : Option Addr → Nat → Nat → World → Prop} {N1 : Option Addr → Option Addr → Nat → Nat → Int → World → Prop} (hN1 : ∀ b out_b out_l out_c d w, N1 b out_b out_l out_c d w → KW Try.prog 44 30 (segm_RecvBuf_Ahead.RV R) ([(0, [1, 1, 0, 1, 0, 0]), (2, [1, 1, 0, 1, 0, 0]), (1, [0]), (0, [1, 1, 1])].map (toItem (Try.f44.body.getD .skip))) [(0, .pointer b), (3, .slice out_b out_l out_c), (4, .int .i64 d)] w) (b out_b : Option Addr) (out_l out_c : Nat) (d : Int) (w : World) (h : segm_RecvBuf_Ahead.B1 b out_b out_l out_c d w N1  R) :
    KW Try.prog 44 30 (segm_RecvBuf_Ahead.RV R) ([(0, [1, 1, 0, 1, 0, 0, 1, 1]), (2, [1, 1, 0, 1, 0, 0]), (1, [0]), (0, [1, 1, 1])].map (toItem (Try.f44.body.getD .skip))) [(0, .pointer b), (3, .slice out_b out_l out_c), (4, .int .i64 d)] w := by
  exact block_spec Try.func44 Try.mixed (stops_cons (fun σ w h => by
      obtain ⟨b_, e0, h⟩ := dP_elim h
      obtain ⟨out_b_, out_l_, out_c_, e1, h⟩ := dL_elim h
      obtain ⟨d_, e2, h⟩ := dI_elim h
      exact (hN1 b_ out_b_ out_l_ out_c_ d_ w h).weaken (Sub.cons (Sub.cons (Sub.cons (Sub.nil _) e2) e1) e0)) stops_nil) (Eq.mp (segm_RecvBuf_Ahead.B1_eq b out_b out_l out_c d w N1  R ) h)
def segm_RecvBuf_Ahead.L1b (b out_b : Option Addr) (out_l out_c : Nat) (d : Int) (w : World)  (N1 : Option Addr → Option Addr → Nat → Nat → Int → World → Prop) (R : Option Addr → Nat → Nat → World → Prop) : Prop :=
  Bm (decide (d < (16 : Int))) (
    Pn out_b fun a =>
    (0 ≤ d ∧ d < ((out_l : Nat) : Int)) ∧
    Sts [.int .i64 (-1 : Int)] (Addr.add a (d.toNat * 1)) 0 w fun w1 =>
    Pn b fun a_1 =>
    (0 ≤ d ∧ d < ((16 : Nat) : Int)) ∧
    LdB (Addr.add (a_1.add 2) (d.toNat * 1)) w1 fun x18 =>
    Bm x18 (
      Pn b fun a_2 =>
      (0 ≤ d ∧ d < ((16 : Nat) : Int)) ∧
      LdI .u8 (Addr.add (a_2.add 18) (d.toNat * 1)) w1 fun x26 =>
      Pn out_b fun a_3 =>
      (0 ≤ d ∧ d < ((out_l : Nat) : Int)) ∧
      Sts [.int .i64 (IntKind.i64.wrap x26)] (Addr.add a_3 (d.toNat * 1)) 0 w1 fun w2 =>
      segm_RecvBuf_Ahead.B1 b out_b out_l out_c d w2 N1 R) (
      segm_RecvBuf_Ahead.B1 b out_b out_l out_c d w1 N1 R)) (
    R out_b out_l out_c w)
theorem segm_RecvBuf_Ahead.L1b_eq (b out_b : Option Addr) (out_l out_c : Nat) (d : Int) (w : World)  (N1 : Option Addr → Option Addr → Nat → Nat → Int → World → Prop) (R : Option Addr → Nat → Nat → World → Prop) (sB1 : Option Addr → Option Addr → Nat → Nat → Int → World → Prop) :
    (
  Bm (decide (d < (16 : Int))) (
    Pn out_b fun a =>
    (0 ≤ d ∧ d < ((out_l : Nat) : Int)) ∧
    Sts [.int .i64 (-1 : Int)] (Addr.add a (d.toNat * 1)) 0 w fun w1 =>
    Pn b fun a_1 =>
    (0 ≤ d ∧ d < ((16 : Nat) : Int)) ∧
    LdB (Addr.add (a_1.add 2) (d.toNat * 1)) w1 fun x18 =>
    Bm x18 (
      Pn b fun a_2 =>
      (0 ≤ d ∧ d < ((16 : Nat) : Int)) ∧
      LdI .u8 (Addr.add (a_2.add 18) (d.toNat * 1)) w1 fun x26 =>
      Pn out_b fun a_3 =>
      (0 ≤ d ∧ d < ((out_l : Nat) : Int)) ∧
      Sts [.int .i64 (IntKind.i64.wrap x26)] (Addr.add a_3 (d.toNat * 1)) 0 w1 fun w2 =>
      sB1 b out_b out_l out_c d w2) (
      sB1 b out_b out_l out_c d w1)) (
    R out_b out_l out_c w)) = kstep Try.prog 30 Try.f44.results.toList (Try.f44.body.getD .skip) (segm_RecvBuf_Ahead.RV R) (kvc Try.prog 30 Try.f44.results.toList (Try.f44.body.getD .skip) (segm_RecvBuf_Ahead.RV R) [([(0, [1, 1, 0, 1, 0, 0, 1, 1]), (2, [1, 1, 0, 1, 0, 0]), (1, [0]), (0, [1, 1, 1])], fun σ w => dP (slotOf σ 0) fun b_ => dL (slotOf σ 3) fun out_b_ out_l_ out_c_ => dI .i64 (slotOf σ 4) fun d_ => sB1 b_ out_b_ out_l_ out_c_ d_ w)] 2000) [(0, [1, 1, 0, 1, 0, 0]), (2, [1, 1, 0, 1, 0, 0]), (1, [0]), (0, [1, 1, 1])] [(0, .pointer b), (3, .slice out_b out_l out_c), (4, .int .i64 d)] w := by kernel_rfl
theorem segm_RecvBuf_Ahead.L1b_sound {R : Option Addr → Nat → Nat → World → Prop} {N1 : Option Addr → Option Addr → Nat → Nat → Int → World → Prop} (hN1 : ∀ b out_b out_l out_c d w, N1 b out_b out_l out_c d w → KW Try.prog 44 30 (segm_RecvBuf_Ahead.RV R) ([(0, [1, 1, 0, 1, 0, 0]), (2, [1, 1, 0, 1, 0, 0]), (1, [0]), (0, [1, 1, 1])].map (toItem (Try.f44.body.getD .skip))) [(0, .pointer b), (3, .slice out_b out_l out_c), (4, .int .i64 d)] w) (b out_b : Option Addr) (out_l out_c : Nat) (d : Int) (w : World) (h : segm_RecvBuf_Ahead.L1b b out_b out_l out_c d w  N1 R) :
    KW Try.prog 44 30 (segm_RecvBuf_Ahead.RV R) ([(0, [1, 1, 0, 1, 0, 0]), (2, [1, 1, 0, 1, 0, 0]), (1, [0]), (0, [1, 1, 1])].map (toItem (Try.f44.body.getD .skip))) [(0, .pointer b), (3, .slice out_b out_l out_c), (4, .int .i64 d)] w := by
  exact block_spec Try.func44 Try.mixed (stops_cons (fun σ w h => by
      obtain ⟨b_, e0, h⟩ := dP_elim h
      obtain ⟨out_b_, out_l_, out_c_, e1, h⟩ := dL_elim h
      obtain ⟨d_, e2, h⟩ := dI_elim h
      exact (segm_RecvBuf_Ahead.B1_sound hN1 b_ out_b_ out_l_ out_c_ d_ w h).weaken (Sub.cons (Sub.cons (Sub.cons (Sub.nil _) e2) e1) e0)) stops_nil) (Eq.mp (segm_RecvBuf_Ahead.L1b_eq b out_b out_l out_c d w  N1 R (fun b_ out_b_ out_l_ out_c_ d_ w => segm_RecvBuf_Ahead.B1 b_ out_b_ out_l_ out_c_ d_ w N1 R)) h)
def segm_RecvBuf_Ahead.L1 (b out_b : Option Addr) (out_l out_c : Nat) (d : Int) (w : World)  (R : Option Addr → Nat → Nat → World → Prop) : Prop :=
  ∃ (I : Nat → Option Addr → Option Addr → Nat → Nat → Int → World → Prop) (m : Nat), I m b out_b out_l out_c d w ∧ ∀ m b out_b out_l out_c d w, I m b out_b out_l out_c d w → segm_RecvBuf_Ahead.L1b b out_b out_l out_c d w  (fun b' out_b' out_l' out_c' d' w' => ∃ m', m' < m ∧ I m' b' out_b' out_l' out_c' d' w') R
theorem segm_RecvBuf_Ahead.L1_sound {R : Option Addr → Nat → Nat → World → Prop}  (b out_b : Option Addr) (out_l out_c : Nat) (d : Int) (w : World) (h : segm_RecvBuf_Ahead.L1 b out_b out_l out_c d w  R) :
    KW Try.prog 44 30 (segm_RecvBuf_Ahead.RV R) ([(0, [1, 1, 0, 1, 0, 0]), (2, [1, 1, 0, 1, 0, 0]), (1, [0]), (0, [1, 1, 1])].map (toItem (Try.f44.body.getD .skip))) [(0, .pointer b), (3, .slice out_b out_l out_c), (4, .int .i64 d)] w := by
  obtain ⟨I, m, hBase, hr⟩ := h
  refine KW.loop (fun m σ w => ∃ (b out_b : Option Addr) (out_l out_c : Nat) (d : Int), σ = [(0, .pointer b), (3, .slice out_b out_l out_c), (4, .int .i64 d)] ∧ I m b out_b out_l out_c d w) ?_ m _ w ⟨b, out_b, out_l, out_c, d, rfl, hBase⟩
  rintro m ih σ w ⟨b, out_b, out_l, out_c, d, rfl, hI⟩
  exact segm_RecvBuf_Ahead.L1b_sound  (N1 := fun b' out_b' out_l' out_c' d' w' => ∃ m', m' < m ∧ I m' b' out_b' out_l' out_c' d' w') (fun b' out_b' out_l' out_c' d' w' hx => by obtain ⟨m', hlt, hI'⟩ := hx; exact ih m' hlt _ w' ⟨b', out_b', out_l', out_c', d', rfl, hI'⟩) b out_b out_l out_c d w (hr m b out_b out_l out_c d w hI)
def segm_RecvBuf_Ahead.B0 (b : Option Addr) (w : World)   (R : Option Addr → Nat → Nat → World → Prop) : Prop :=
  Make 3 (.int .i64 (0 : Int)) 1 8 (16 : Int) (16 : Int) w fun b5 w1 =>
  segm_RecvBuf_Ahead.L1 b (some ⟨b5, 0, none⟩) 16 16 (0 : Int) w1  R
theorem segm_RecvBuf_Ahead.B0_eq (b : Option Addr) (w : World)   (R : Option Addr → Nat → Nat → World → Prop) (sL1 : Option Addr → Option Addr → Nat → Nat → Int → World → Prop) :
    (
  Make 3 (.int .i64 (0 : Int)) 1 8 (16 : Int) (16 : Int) w fun b5 w1 =>
  sL1 b (some ⟨b5, 0, none⟩) 16 16 (0 : Int) w1) = kstep Try.prog 30 Try.f44.results.toList (Try.f44.body.getD .skip) (segm_RecvBuf_Ahead.RV R) (kvc Try.prog 30 Try.f44.results.toList (Try.f44.body.getD .skip) (segm_RecvBuf_Ahead.RV R) [([(0, [1, 1, 0, 1, 0, 0]), (2, [1, 1, 0, 1, 0, 0]), (1, [0]), (0, [1, 1, 1])], fun σ w => dP (slotOf σ 0) fun b_ => dL (slotOf σ 3) fun out_b_ out_l_ out_c_ => dI .i64 (slotOf σ 4) fun d_ => sL1 b_ out_b_ out_l_ out_c_ d_ w)] 2000) [(0, [])] [(0, .pointer b)] w := by kernel_rfl
theorem segm_RecvBuf_Ahead.B0_sound {R : Option Addr → Nat → Nat → World → Prop}  (b : Option Addr) (w : World) (h : segm_RecvBuf_Ahead.B0 b w   R) :
    KW Try.prog 44 30 (segm_RecvBuf_Ahead.RV R) ([(0, [])].map (toItem (Try.f44.body.getD .skip))) [(0, .pointer b)] w := by
  exact block_spec Try.func44 Try.mixed (stops_cons (fun σ w h => by
      obtain ⟨b_, e0, h⟩ := dP_elim h
      obtain ⟨out_b_, out_l_, out_c_, e1, h⟩ := dL_elim h
      obtain ⟨d_, e2, h⟩ := dI_elim h
      exact (segm_RecvBuf_Ahead.L1_sound  b_ out_b_ out_l_ out_c_ d_ w h).weaken (Sub.cons (Sub.cons (Sub.cons (Sub.nil _) e2) e1) e0)) stops_nil) (Eq.mp (segm_RecvBuf_Ahead.B0_eq b w   R (fun b_ out_b_ out_l_ out_c_ d_ w => segm_RecvBuf_Ahead.L1 b_ out_b_ out_l_ out_c_ d_ w  R)) h)
theorem segm_RecvBuf_Ahead.sound (b : Option Addr) (w : World) (R : Option Addr → Nat → Nat → World → Prop) (h : segm_RecvBuf_Ahead.B0 b w R) : segm_RecvBuf_Ahead.Call b w R := by
  have hc := calls_of_block (args := #[.pointer b]) Try.func44 (body := (Try.f44.body.getD .skip)) (by kernel_rfl) (by kernel_rfl) (args_slot _) (segm_RecvBuf_Ahead.B0_sound b w h)
  exact hc.mono fun e w' he => by
    obtain ⟨v, rfl, hv⟩ := he
    exact segm_RecvBuf_Ahead.RV_elim hv
def seglaw_SameInts.L1b (a_b : Option Addr) (a_l a_c : Nat) (b_b : Option Addr) (b_l b_c : Nat) (i : Int) (w : World)  (N1 : Option Addr → Nat → Nat → Option Addr → Nat → Nat → Int → World → Prop) (R : Bool → World → Prop) : Prop :=
  Bm (decide (i < ((a_l : Nat) : Int))) (
    Pn a_b fun a =>
    (0 ≤ i ∧ i < ((a_l : Nat) : Int)) ∧
    LdI .i64 (Addr.add a (i.toNat * 1)) w.drew fun x20 =>
    Pn b_b fun a_1 =>
    (0 ≤ i ∧ i < ((b_l : Nat) : Int)) ∧
    LdI .i64 (Addr.add a_1 (i.toNat * 1)) w.drew fun x24 =>
    Bm (x20 != x24) (
      R false w.drew) (
      N1 a_b a_l a_c b_b b_l b_c (IntKind.i64.wrap (i + (1 : Int))) w.drew)) (
    R true w)
theorem seglaw_SameInts.L1b_eq (a_b : Option Addr) (a_l a_c : Nat) (b_b : Option Addr) (b_l b_c : Nat) (i : Int) (w : World)  (N1 : Option Addr → Nat → Nat → Option Addr → Nat → Nat → Int → World → Prop) (R : Bool → World → Prop)  :
    (
  Bm (decide (i < ((a_l : Nat) : Int))) (
    Pn a_b fun a =>
    (0 ≤ i ∧ i < ((a_l : Nat) : Int)) ∧
    LdI .i64 (Addr.add a (i.toNat * 1)) w.drew fun x20 =>
    Pn b_b fun a_1 =>
    (0 ≤ i ∧ i < ((b_l : Nat) : Int)) ∧
    LdI .i64 (Addr.add a_1 (i.toNat * 1)) w.drew fun x24 =>
    Bm (x20 != x24) (
      R false w.drew) (
      N1 a_b a_l a_c b_b b_l b_c (IntKind.i64.wrap (i + (1 : Int))) w.drew)) (
    R true w)) = kstep Try.prog 26 Try.f45.results.toList (Try.f45.body.getD .skip) (seglaw_SameInts.RV R) (kvc Try.prog 26 Try.f45.results.toList (Try.f45.body.getD .skip) (seglaw_SameInts.RV R) [([(0, [1, 1, 0, 1, 0, 0]), (2, [1, 1, 0, 1, 0, 0]), (1, [0]), (0, [1, 1, 1])], fun σ w => dL (slotOf σ 0) fun a_b_ a_l_ a_c_ => dL (slotOf σ 1) fun b_b_ b_l_ b_c_ => dI .i64 (slotOf σ 5) fun i_ => N1 a_b_ a_l_ a_c_ b_b_ b_l_ b_c_ i_ w)] 2000) [(0, [1, 1, 0, 1, 0, 0]), (2, [1, 1, 0, 1, 0, 0]), (1, [0]), (0, [1, 1, 1])] [(0, .slice a_b a_l a_c), (1, .slice b_b b_l b_c), (5, .int .i64 i)] w := by kernel_rfl
theorem seglaw_SameInts.L1b_sound {R : Bool → World → Prop} {N1 : Option Addr → Nat → Nat → Option Addr → Nat → Nat → Int → World → Prop} (hN1 : ∀ a_b a_l a_c b_b b_l b_c i w, N1 a_b a_l a_c b_b b_l b_c i w → KW Try.prog 45 26 (seglaw_SameInts.RV R) ([(0, [1, 1, 0, 1, 0, 0]), (2, [1, 1, 0, 1, 0, 0]), (1, [0]), (0, [1, 1, 1])].map (toItem (Try.f45.body.getD .skip))) [(0, .slice a_b a_l a_c), (1, .slice b_b b_l b_c), (5, .int .i64 i)] w) (a_b : Option Addr) (a_l a_c : Nat) (b_b : Option Addr) (b_l b_c : Nat) (i : Int) (w : World) (h : seglaw_SameInts.L1b a_b a_l a_c b_b b_l b_c i w  N1 R) :
    KW Try.prog 45 26 (seglaw_SameInts.RV R) ([(0, [1, 1, 0, 1, 0, 0]), (2, [1, 1, 0, 1, 0, 0]), (1, [0]), (0, [1, 1, 1])].map (toItem (Try.f45.body.getD .skip))) [(0, .slice a_b a_l a_c), (1, .slice b_b b_l b_c), (5, .int .i64 i)] w := by
  exact block_spec Try.func45 Try.mixed (stops_cons (fun σ w h => by
      obtain ⟨a_b_, a_l_, a_c_, e0, h⟩ := dL_elim h
      obtain ⟨b_b_, b_l_, b_c_, e1, h⟩ := dL_elim h
      obtain ⟨i_, e2, h⟩ := dI_elim h
      exact (hN1 a_b_ a_l_ a_c_ b_b_ b_l_ b_c_ i_ w h).weaken (Sub.cons (Sub.cons (Sub.cons (Sub.nil _) e2) e1) e0)) stops_nil) (Eq.mp (seglaw_SameInts.L1b_eq a_b a_l a_c b_b b_l b_c i w  N1 R ) h)
def seglaw_SameInts.L1 (a_b : Option Addr) (a_l a_c : Nat) (b_b : Option Addr) (b_l b_c : Nat) (i : Int) (w : World)  (R : Bool → World → Prop) : Prop :=
  ∃ (I : Nat → Option Addr → Nat → Nat → Option Addr → Nat → Nat → Int → World → Prop) (m : Nat), I m a_b a_l a_c b_b b_l b_c i w ∧ ∀ m a_b a_l a_c b_b b_l b_c i w, I m a_b a_l a_c b_b b_l b_c i w → seglaw_SameInts.L1b a_b a_l a_c b_b b_l b_c i w  (fun a_b' a_l' a_c' b_b' b_l' b_c' i' w' => ∃ m', m' < m ∧ I m' a_b' a_l' a_c' b_b' b_l' b_c' i' w') R
theorem seglaw_SameInts.L1_sound {R : Bool → World → Prop}  (a_b : Option Addr) (a_l a_c : Nat) (b_b : Option Addr) (b_l b_c : Nat) (i : Int) (w : World) (h : seglaw_SameInts.L1 a_b a_l a_c b_b b_l b_c i w  R) :
    KW Try.prog 45 26 (seglaw_SameInts.RV R) ([(0, [1, 1, 0, 1, 0, 0]), (2, [1, 1, 0, 1, 0, 0]), (1, [0]), (0, [1, 1, 1])].map (toItem (Try.f45.body.getD .skip))) [(0, .slice a_b a_l a_c), (1, .slice b_b b_l b_c), (5, .int .i64 i)] w := by
  obtain ⟨I, m, hBase, hr⟩ := h
  refine KW.loop (fun m σ w => ∃ (a_b : Option Addr) (a_l a_c : Nat) (b_b : Option Addr) (b_l b_c : Nat) (i : Int), σ = [(0, .slice a_b a_l a_c), (1, .slice b_b b_l b_c), (5, .int .i64 i)] ∧ I m a_b a_l a_c b_b b_l b_c i w) ?_ m _ w ⟨a_b, a_l, a_c, b_b, b_l, b_c, i, rfl, hBase⟩
  rintro m ih σ w ⟨a_b, a_l, a_c, b_b, b_l, b_c, i, rfl, hI⟩
  exact seglaw_SameInts.L1b_sound  (N1 := fun a_b' a_l' a_c' b_b' b_l' b_c' i' w' => ∃ m', m' < m ∧ I m' a_b' a_l' a_c' b_b' b_l' b_c' i' w') (fun a_b' a_l' a_c' b_b' b_l' b_c' i' w' hx => by obtain ⟨m', hlt, hI'⟩ := hx; exact ih m' hlt _ w' ⟨a_b', a_l', a_c', b_b', b_l', b_c', i', rfl, hI'⟩) a_b a_l a_c b_b b_l b_c i w (hr m a_b a_l a_c b_b b_l b_c i w hI)
def seglaw_SameInts.B0 (a_b : Option Addr) (a_l a_c : Nat) (b_b : Option Addr) (b_l b_c : Nat) (w : World)   (R : Bool → World → Prop) : Prop :=
  Bm (((a_l : Nat) : Int) != ((b_l : Nat) : Int)) (
    R false w) (
    seglaw_SameInts.L1 a_b a_l a_c b_b b_l b_c (0 : Int) w  R)
theorem seglaw_SameInts.B0_eq (a_b : Option Addr) (a_l a_c : Nat) (b_b : Option Addr) (b_l b_c : Nat) (w : World)   (R : Bool → World → Prop) (sL1 : Option Addr → Nat → Nat → Option Addr → Nat → Nat → Int → World → Prop) :
    (
  Bm (((a_l : Nat) : Int) != ((b_l : Nat) : Int)) (
    R false w) (
    sL1 a_b a_l a_c b_b b_l b_c (0 : Int) w)) = kstep Try.prog 26 Try.f45.results.toList (Try.f45.body.getD .skip) (seglaw_SameInts.RV R) (kvc Try.prog 26 Try.f45.results.toList (Try.f45.body.getD .skip) (seglaw_SameInts.RV R) [([(0, [1, 1, 0, 1, 0, 0]), (2, [1, 1, 0, 1, 0, 0]), (1, [0]), (0, [1, 1, 1])], fun σ w => dL (slotOf σ 0) fun a_b_ a_l_ a_c_ => dL (slotOf σ 1) fun b_b_ b_l_ b_c_ => dI .i64 (slotOf σ 5) fun i_ => sL1 a_b_ a_l_ a_c_ b_b_ b_l_ b_c_ i_ w)] 2000) [(0, [])] [(0, .slice a_b a_l a_c), (1, .slice b_b b_l b_c)] w := by kernel_rfl
theorem seglaw_SameInts.B0_sound {R : Bool → World → Prop}  (a_b : Option Addr) (a_l a_c : Nat) (b_b : Option Addr) (b_l b_c : Nat) (w : World) (h : seglaw_SameInts.B0 a_b a_l a_c b_b b_l b_c w   R) :
    KW Try.prog 45 26 (seglaw_SameInts.RV R) ([(0, [])].map (toItem (Try.f45.body.getD .skip))) [(0, .slice a_b a_l a_c), (1, .slice b_b b_l b_c)] w := by
  exact block_spec Try.func45 Try.mixed (stops_cons (fun σ w h => by
      obtain ⟨a_b_, a_l_, a_c_, e0, h⟩ := dL_elim h
      obtain ⟨b_b_, b_l_, b_c_, e1, h⟩ := dL_elim h
      obtain ⟨i_, e2, h⟩ := dI_elim h
      exact (seglaw_SameInts.L1_sound  a_b_ a_l_ a_c_ b_b_ b_l_ b_c_ i_ w h).weaken (Sub.cons (Sub.cons (Sub.cons (Sub.nil _) e2) e1) e0)) stops_nil) (Eq.mp (seglaw_SameInts.B0_eq a_b a_l a_c b_b b_l b_c w   R (fun a_b_ a_l_ a_c_ b_b_ b_l_ b_c_ i_ w => seglaw_SameInts.L1 a_b_ a_l_ a_c_ b_b_ b_l_ b_c_ i_ w  R)) h)
theorem seglaw_SameInts.sound (a_b : Option Addr) (a_l a_c : Nat) (b_b : Option Addr) (b_l b_c : Nat) (w : World) (R : Bool → World → Prop) (h : seglaw_SameInts.B0 a_b a_l a_c b_b b_l b_c w R) : seglaw_SameInts.Call a_b a_l a_c b_b b_l b_c w R := by
  have hc := calls_of_block (args := #[.slice a_b a_l a_c, .slice b_b b_l b_c]) Try.func45 (body := (Try.f45.body.getD .skip)) (by kernel_rfl) (by kernel_rfl) (args_slot _) (seglaw_SameInts.B0_sound a_b a_l a_c b_b b_l b_c w h)
  exact hc.mono fun e w' he => by
    obtain ⟨v, rfl, hv⟩ := he
    exact seglaw_SameInts.RV_elim hv
def seglaw_World_OwnInts.L1b (w0 l_b : Option Addr) (l_l l_c : Nat) (j i : Int) (w : World)  (N1 : Option Addr → Option Addr → Nat → Nat → Int → Int → World → Prop) (R : World → Prop) : Prop :=
  Bm (decide (i < ((l_l : Nat) : Int))) (
    Pn l_b fun a =>
    (0 ≤ i ∧ i < ((l_l : Nat) : Int)) ∧
    Sts [.int .i64 (IntKind.i64.wrap ((-1 : Int) - j))] (Addr.add a (i.toNat * 1)) 0 w fun w1 =>
    N1 w0 l_b l_l l_c j (IntKind.i64.wrap (i + (1 : Int))) w1) (
    Pn w0 fun a_1 =>
    LdL (a_1.add 23) w fun x33_b x33_l x33_c =>
    New (.cells #[.slice l_b l_l l_c] 49) w fun b35 w2 =>
    Append 49 (.slice none 0 0) 1 24 x33_b x33_l x33_c (some ⟨b35, 0, none⟩) 1 w2 fun b36 c36 w3 =>
    Pn w0 fun a_2 =>
    Sts [.slice b36 (x33_l + 1) c36] (a_2.add 23) 0 w3 fun w4 =>
    R  w4)
theorem seglaw_World_OwnInts.L1b_eq (w0 l_b : Option Addr) (l_l l_c : Nat) (j i : Int) (w : World)  (N1 : Option Addr → Option Addr → Nat → Nat → Int → Int → World → Prop) (R : World → Prop)  :
    (
  Bm (decide (i < ((l_l : Nat) : Int))) (
    Pn l_b fun a =>
    (0 ≤ i ∧ i < ((l_l : Nat) : Int)) ∧
    Sts [.int .i64 (IntKind.i64.wrap ((-1 : Int) - j))] (Addr.add a (i.toNat * 1)) 0 w fun w1 =>
    N1 w0 l_b l_l l_c j (IntKind.i64.wrap (i + (1 : Int))) w1) (
    Pn w0 fun a_1 =>
    LdL (a_1.add 23) w fun x33_b x33_l x33_c =>
    New (.cells #[.slice l_b l_l l_c] 49) w fun b35 w2 =>
    Append 49 (.slice none 0 0) 1 24 x33_b x33_l x33_c (some ⟨b35, 0, none⟩) 1 w2 fun b36 c36 w3 =>
    Pn w0 fun a_2 =>
    Sts [.slice b36 (x33_l + 1) c36] (a_2.add 23) 0 w3 fun w4 =>
    R  w4)) = kstep Try.prog 39 Try.f46.results.toList (Try.f46.body.getD .skip) (seglaw_World_OwnInts.RV R) (kvc Try.prog 39 Try.f46.results.toList (Try.f46.body.getD .skip) (seglaw_World_OwnInts.RV R) [([(0, [1, 1, 1, 0, 1, 0, 0]), (2, [1, 1, 1, 0, 1, 0, 0]), (1, [0]), (0, [1, 1, 1, 1])], fun σ w => dP (slotOf σ 0) fun w0_ => dL (slotOf σ 1) fun l_b_ l_l_ l_c_ => dI .i64 (slotOf σ 4) fun j_ => dI .i64 (slotOf σ 5) fun i_ => N1 w0_ l_b_ l_l_ l_c_ j_ i_ w)] 2000) [(0, [1, 1, 1, 0, 1, 0, 0]), (2, [1, 1, 1, 0, 1, 0, 0]), (1, [0]), (0, [1, 1, 1, 1])] [(0, .pointer w0), (1, .slice l_b l_l l_c), (4, .int .i64 j), (5, .int .i64 i)] w := by kernel_rfl
theorem seglaw_World_OwnInts.L1b_sound {R : World → Prop} {N1 : Option Addr → Option Addr → Nat → Nat → Int → Int → World → Prop} (hN1 : ∀ w0 l_b l_l l_c j i w, N1 w0 l_b l_l l_c j i w → KW Try.prog 46 39 (seglaw_World_OwnInts.RV R) ([(0, [1, 1, 1, 0, 1, 0, 0]), (2, [1, 1, 1, 0, 1, 0, 0]), (1, [0]), (0, [1, 1, 1, 1])].map (toItem (Try.f46.body.getD .skip))) [(0, .pointer w0), (1, .slice l_b l_l l_c), (4, .int .i64 j), (5, .int .i64 i)] w) (w0 l_b : Option Addr) (l_l l_c : Nat) (j i : Int) (w : World) (h : seglaw_World_OwnInts.L1b w0 l_b l_l l_c j i w  N1 R) :
    KW Try.prog 46 39 (seglaw_World_OwnInts.RV R) ([(0, [1, 1, 1, 0, 1, 0, 0]), (2, [1, 1, 1, 0, 1, 0, 0]), (1, [0]), (0, [1, 1, 1, 1])].map (toItem (Try.f46.body.getD .skip))) [(0, .pointer w0), (1, .slice l_b l_l l_c), (4, .int .i64 j), (5, .int .i64 i)] w := by
  exact block_spec Try.func46 Try.mixed (stops_cons (fun σ w h => by
      obtain ⟨w0_, e0, h⟩ := dP_elim h
      obtain ⟨l_b_, l_l_, l_c_, e1, h⟩ := dL_elim h
      obtain ⟨j_, e2, h⟩ := dI_elim h
      obtain ⟨i_, e3, h⟩ := dI_elim h
      exact (hN1 w0_ l_b_ l_l_ l_c_ j_ i_ w h).weaken (Sub.cons (Sub.cons (Sub.cons (Sub.cons (Sub.nil _) e3) e2) e1) e0)) stops_nil) (Eq.mp (seglaw_World_OwnInts.L1b_eq w0 l_b l_l l_c j i w  N1 R ) h)
def seglaw_World_OwnInts.L1 (w0 l_b : Option Addr) (l_l l_c : Nat) (j i : Int) (w : World)  (R : World → Prop) : Prop :=
  ∃ (I : Nat → Option Addr → Option Addr → Nat → Nat → Int → Int → World → Prop) (m : Nat), I m w0 l_b l_l l_c j i w ∧ ∀ m w0 l_b l_l l_c j i w, I m w0 l_b l_l l_c j i w → seglaw_World_OwnInts.L1b w0 l_b l_l l_c j i w  (fun w0' l_b' l_l' l_c' j' i' w' => ∃ m', m' < m ∧ I m' w0' l_b' l_l' l_c' j' i' w') R
theorem seglaw_World_OwnInts.L1_sound {R : World → Prop}  (w0 l_b : Option Addr) (l_l l_c : Nat) (j i : Int) (w : World) (h : seglaw_World_OwnInts.L1 w0 l_b l_l l_c j i w  R) :
    KW Try.prog 46 39 (seglaw_World_OwnInts.RV R) ([(0, [1, 1, 1, 0, 1, 0, 0]), (2, [1, 1, 1, 0, 1, 0, 0]), (1, [0]), (0, [1, 1, 1, 1])].map (toItem (Try.f46.body.getD .skip))) [(0, .pointer w0), (1, .slice l_b l_l l_c), (4, .int .i64 j), (5, .int .i64 i)] w := by
  obtain ⟨I, m, hBase, hr⟩ := h
  refine KW.loop (fun m σ w => ∃ (w0 l_b : Option Addr) (l_l l_c : Nat) (j i : Int), σ = [(0, .pointer w0), (1, .slice l_b l_l l_c), (4, .int .i64 j), (5, .int .i64 i)] ∧ I m w0 l_b l_l l_c j i w) ?_ m _ w ⟨w0, l_b, l_l, l_c, j, i, rfl, hBase⟩
  rintro m ih σ w ⟨w0, l_b, l_l, l_c, j, i, rfl, hI⟩
  exact seglaw_World_OwnInts.L1b_sound  (N1 := fun w0' l_b' l_l' l_c' j' i' w' => ∃ m', m' < m ∧ I m' w0' l_b' l_l' l_c' j' i' w') (fun w0' l_b' l_l' l_c' j' i' w' hx => by obtain ⟨m', hlt, hI'⟩ := hx; exact ih m' hlt _ w' ⟨w0', l_b', l_l', l_c', j', i', rfl, hI'⟩) w0 l_b l_l l_c j i w (hr m w0 l_b l_l l_c j i w hI)
def seglaw_World_OwnInts.B0 (w0 l_b : Option Addr) (l_l l_c : Nat) (w : World)   (R : World → Prop) : Prop :=
  (0 ≤ ((l_c : Nat) : Int) ∧ ((l_c : Nat) : Int) ≤ ((l_c : Nat) : Int)) ∧
  Bm (((((l_c : Nat) : Int).toNat - ((0 : Nat) : Int).toNat : Nat) : Int) == (0 : Int)) (
    R  w) (
    Pn w0 fun a =>
    LdL (a.add 23) w fun x16_b x16_l x16_c =>
    seglaw_World_OwnInts.L1 w0 (slBase l_b ((0 : Nat) : Int) ((l_c : Nat) : Int) 1) (((l_c : Nat) : Int).toNat - ((0 : Nat) : Int).toNat) (((l_c : Nat) : Int).toNat - ((0 : Nat) : Int).toNat) ((x16_l : Nat) : Int) (0 : Int) w  R)
theorem seglaw_World_OwnInts.B0_eq (w0 l_b : Option Addr) (l_l l_c : Nat) (w : World)   (R : World → Prop) (sL1 : Option Addr → Option Addr → Nat → Nat → Int → Int → World → Prop) :
    (
  (0 ≤ ((l_c : Nat) : Int) ∧ ((l_c : Nat) : Int) ≤ ((l_c : Nat) : Int)) ∧
  Bm (((((l_c : Nat) : Int).toNat - ((0 : Nat) : Int).toNat : Nat) : Int) == (0 : Int)) (
    R  w) (
    Pn w0 fun a =>
    LdL (a.add 23) w fun x16_b x16_l x16_c =>
    sL1 w0 (slBase l_b ((0 : Nat) : Int) ((l_c : Nat) : Int) 1) (((l_c : Nat) : Int).toNat - ((0 : Nat) : Int).toNat) (((l_c : Nat) : Int).toNat - ((0 : Nat) : Int).toNat) ((x16_l : Nat) : Int) (0 : Int) w)) = kstep Try.prog 39 Try.f46.results.toList (Try.f46.body.getD .skip) (seglaw_World_OwnInts.RV R) (kvc Try.prog 39 Try.f46.results.toList (Try.f46.body.getD .skip) (seglaw_World_OwnInts.RV R) [([(0, [1, 1, 1, 0, 1, 0, 0]), (2, [1, 1, 1, 0, 1, 0, 0]), (1, [0]), (0, [1, 1, 1, 1])], fun σ w => dP (slotOf σ 0) fun w0_ => dL (slotOf σ 1) fun l_b_ l_l_ l_c_ => dI .i64 (slotOf σ 4) fun j_ => dI .i64 (slotOf σ 5) fun i_ => sL1 w0_ l_b_ l_l_ l_c_ j_ i_ w)] 2000) [(0, [])] [(0, .pointer w0), (1, .slice l_b l_l l_c)] w := by kernel_rfl
theorem seglaw_World_OwnInts.B0_sound {R : World → Prop}  (w0 l_b : Option Addr) (l_l l_c : Nat) (w : World) (h : seglaw_World_OwnInts.B0 w0 l_b l_l l_c w   R) :
    KW Try.prog 46 39 (seglaw_World_OwnInts.RV R) ([(0, [])].map (toItem (Try.f46.body.getD .skip))) [(0, .pointer w0), (1, .slice l_b l_l l_c)] w := by
  exact block_spec Try.func46 Try.mixed (stops_cons (fun σ w h => by
      obtain ⟨w0_, e0, h⟩ := dP_elim h
      obtain ⟨l_b_, l_l_, l_c_, e1, h⟩ := dL_elim h
      obtain ⟨j_, e2, h⟩ := dI_elim h
      obtain ⟨i_, e3, h⟩ := dI_elim h
      exact (seglaw_World_OwnInts.L1_sound  w0_ l_b_ l_l_ l_c_ j_ i_ w h).weaken (Sub.cons (Sub.cons (Sub.cons (Sub.cons (Sub.nil _) e3) e2) e1) e0)) stops_nil) (Eq.mp (seglaw_World_OwnInts.B0_eq w0 l_b l_l l_c w   R (fun w0_ l_b_ l_l_ l_c_ j_ i_ w => seglaw_World_OwnInts.L1 w0_ l_b_ l_l_ l_c_ j_ i_ w  R)) h)
theorem seglaw_World_OwnInts.sound (w0 l_b : Option Addr) (l_l l_c : Nat) (w : World) (R : World → Prop) (h : seglaw_World_OwnInts.B0 w0 l_b l_l l_c w R) : seglaw_World_OwnInts.Call w0 l_b l_l l_c w R := by
  have hc := calls_of_block (args := #[.pointer w0, .slice l_b l_l l_c]) Try.func46 (body := (Try.f46.body.getD .skip)) (by kernel_rfl) (by kernel_rfl) (args_slot _) (seglaw_World_OwnInts.B0_sound w0 l_b l_l l_c w h)
  exact hc.mono fun e w' he => by
    obtain ⟨v, rfl, hv⟩ := he
    exact seglaw_World_OwnInts.RV_elim hv
def seg_SendBuf_Check.B0 (b : Option Addr) (w : World)   (R : Bool → World → Prop) : Prop :=
  Pn b fun a =>
  LdI .i64 (a.add 16) w.drew fun x6 =>
  Bm (decide (x6 ≥ (0 : Int))) (
    Pn b fun a_1 =>
    LdI .i64 (a_1.add 16) w.drew fun x12 =>
    Bm (decide (x12 < (16 : Int))) (
      Pn b fun a_2 =>
      LdI .i64 (a_2.add 18) w.drew fun x19 =>
      Bm (decide (x19 ≥ (0 : Int))) (
        Pn b fun a_3 =>
        LdI .i64 (a_3.add 18) w.drew fun x26 =>
        Pn b fun a_4 =>
        LdI .i64 (a_4.add 17) w.drew fun x30 =>
        Bm (decide (x26 ≤ x30)) (
          Pn b fun a_5 =>
          LdI .i64 (a_5.add 17) w.drew fun x37 =>
          R (decide (x37 ≤ (16 : Int))) w.drew) (
          R false w.drew)) (
        R false w.drew)) (
      R false w.drew)) (
    R false w.drew)
theorem seg_SendBuf_Check.B0_eq (b : Option Addr) (w : World)   (R : Bool → World → Prop)  :
    (
  Pn b fun a =>
  LdI .i64 (a.add 16) w.drew fun x6 =>
  Bm (decide (x6 ≥ (0 : Int))) (
    Pn b fun a_1 =>
    LdI .i64 (a_1.add 16) w.drew fun x12 =>
    Bm (decide (x12 < (16 : Int))) (
      Pn b fun a_2 =>
      LdI .i64 (a_2.add 18) w.drew fun x19 =>
      Bm (decide (x19 ≥ (0 : Int))) (
        Pn b fun a_3 =>
        LdI .i64 (a_3.add 18) w.drew fun x26 =>
        Pn b fun a_4 =>
        LdI .i64 (a_4.add 17) w.drew fun x30 =>
        Bm (decide (x26 ≤ x30)) (
          Pn b fun a_5 =>
          LdI .i64 (a_5.add 17) w.drew fun x37 =>
          R (decide (x37 ≤ (16 : Int))) w.drew) (
          R false w.drew)) (
        R false w.drew)) (
      R false w.drew)) (
    R false w.drew)) = kstep Try.prog 40 Try.f47.results.toList (Try.f47.body.getD .skip) (seg_SendBuf_Check.RV R) (kvc Try.prog 40 Try.f47.results.toList (Try.f47.body.getD .skip) (seg_SendBuf_Check.RV R) [] 2000) [(0, [])] [(0, .pointer b)] w := by kernel_rfl
theorem seg_SendBuf_Check.B0_sound {R : Bool → World → Prop}  (b : Option Addr) (w : World) (h : seg_SendBuf_Check.B0 b w   R) :
    KW Try.prog 47 40 (seg_SendBuf_Check.RV R) ([(0, [])].map (toItem (Try.f47.body.getD .skip))) [(0, .pointer b)] w := by
  exact block_spec Try.func47 Try.mixed stops_nil (Eq.mp (seg_SendBuf_Check.B0_eq b w   R ) h)
theorem seg_SendBuf_Check.sound (b : Option Addr) (w : World) (R : Bool → World → Prop) (h : seg_SendBuf_Check.B0 b w R) : seg_SendBuf_Check.Call b w R := by
  have hc := calls_of_block (args := #[.pointer b]) Try.func47 (body := (Try.f47.body.getD .skip)) (by kernel_rfl) (by kernel_rfl) (args_slot _) (seg_SendBuf_Check.B0_sound b w h)
  exact hc.mono fun e w' he => by
    obtain ⟨v, rfl, hv⟩ := he
    exact seg_SendBuf_Check.RV_elim hv
def seg_RecvBuf_Check.L1b (b : Option Addr) (k : Int) (w : World)  (N1 : Option Addr → Int → World → Prop) (R : Bool → World → Prop) : Prop :=
  Pn b fun a =>
  LdI .i64 (a.add 17) w fun x33 =>
  Bm (decide (k ≤ x33)) (
    Pn b fun a_1 =>
    LdI .u16 (a_1.add 18) w.drew fun x40 =>
    seg_RecvBuf_bit.Call b (IntKind.i64.wrap ((16 : Int) - k)) w.drew fun r44 w1 =>
    w1.cell? (a_1.add 18) = some (.int .u16 x40) ∧
    Bm ((IntKind.u16.wrap (BitVec.ofInt IntKind.u16.bits x40 &&& BitVec.ofInt IntKind.u16.bits r44).toNat) != (0 : Int)) (
      R false w1) (
      N1 b (IntKind.i64.wrap (k + (1 : Int))) w1)) (
    R true w)
theorem seg_RecvBuf_Check.L1b_eq (b : Option Addr) (k : Int) (w : World)  (N1 : Option Addr → Int → World → Prop) (R : Bool → World → Prop)  :
    (
  Pn b fun a =>
  LdI .i64 (a.add 17) w fun x33 =>
  Bm (decide (k ≤ x33)) (
    Pn b fun a_1 =>
    LdI .u16 (a_1.add 18) w.drew fun x40 =>
    seg_RecvBuf_bit.Call b (IntKind.i64.wrap ((16 : Int) - k)) w.drew fun r44 w1 =>
    w1.cell? (a_1.add 18) = some (.int .u16 x40) ∧
    Bm ((IntKind.u16.wrap (BitVec.ofInt IntKind.u16.bits x40 &&& BitVec.ofInt IntKind.u16.bits r44).toNat) != (0 : Int)) (
      R false w1) (
      N1 b (IntKind.i64.wrap (k + (1 : Int))) w1)) (
    R true w)) = kstep Try.prog 47 Try.f48.results.toList (Try.f48.body.getD .skip) (seg_RecvBuf_Check.RV R) (kvc Try.prog 47 Try.f48.results.toList (Try.f48.body.getD .skip) (seg_RecvBuf_Check.RV R) [([(0, [1, 1, 1, 0, 1, 0, 0]), (2, [1, 1, 1, 0, 1, 0, 0]), (1, [0]), (0, [1, 1, 1, 1])], fun σ w => dP (slotOf σ 0) fun b_ => dI .i64 (slotOf σ 3) fun k_ => N1 b_ k_ w)] 2000) [(0, [1, 1, 1, 0, 1, 0, 0]), (2, [1, 1, 1, 0, 1, 0, 0]), (1, [0]), (0, [1, 1, 1, 1])] [(0, .pointer b), (3, .int .i64 k)] w := by kernel_rfl
theorem seg_RecvBuf_Check.L1b_sound {R : Bool → World → Prop} {N1 : Option Addr → Int → World → Prop} (hN1 : ∀ b k w, N1 b k w → KW Try.prog 48 47 (seg_RecvBuf_Check.RV R) ([(0, [1, 1, 1, 0, 1, 0, 0]), (2, [1, 1, 1, 0, 1, 0, 0]), (1, [0]), (0, [1, 1, 1, 1])].map (toItem (Try.f48.body.getD .skip))) [(0, .pointer b), (3, .int .i64 k)] w) (b : Option Addr) (k : Int) (w : World) (h : seg_RecvBuf_Check.L1b b k w  N1 R) :
    KW Try.prog 48 47 (seg_RecvBuf_Check.RV R) ([(0, [1, 1, 1, 0, 1, 0, 0]), (2, [1, 1, 1, 0, 1, 0, 0]), (1, [0]), (0, [1, 1, 1, 1])].map (toItem (Try.f48.body.getD .skip))) [(0, .pointer b), (3, .int .i64 k)] w := by
  exact block_spec Try.func48 Try.mixed (stops_cons (fun σ w h => by
      obtain ⟨b_, e0, h⟩ := dP_elim h
      obtain ⟨k_, e1, h⟩ := dI_elim h
      exact (hN1 b_ k_ w h).weaken (Sub.cons (Sub.cons (Sub.nil _) e1) e0)) stops_nil) (Eq.mp (seg_RecvBuf_Check.L1b_eq b k w  N1 R ) h)
def seg_RecvBuf_Check.L1 (b : Option Addr) (k : Int) (w : World)  (R : Bool → World → Prop) : Prop :=
  ∃ (I : Nat → Option Addr → Int → World → Prop) (m : Nat), I m b k w ∧ ∀ m b k w, I m b k w → seg_RecvBuf_Check.L1b b k w  (fun b' k' w' => ∃ m', m' < m ∧ I m' b' k' w') R
theorem seg_RecvBuf_Check.L1_sound {R : Bool → World → Prop}  (b : Option Addr) (k : Int) (w : World) (h : seg_RecvBuf_Check.L1 b k w  R) :
    KW Try.prog 48 47 (seg_RecvBuf_Check.RV R) ([(0, [1, 1, 1, 0, 1, 0, 0]), (2, [1, 1, 1, 0, 1, 0, 0]), (1, [0]), (0, [1, 1, 1, 1])].map (toItem (Try.f48.body.getD .skip))) [(0, .pointer b), (3, .int .i64 k)] w := by
  obtain ⟨I, m, hBase, hr⟩ := h
  refine KW.loop (fun m σ w => ∃ (b : Option Addr) (k : Int), σ = [(0, .pointer b), (3, .int .i64 k)] ∧ I m b k w) ?_ m _ w ⟨b, k, rfl, hBase⟩
  rintro m ih σ w ⟨b, k, rfl, hI⟩
  exact seg_RecvBuf_Check.L1b_sound  (N1 := fun b' k' w' => ∃ m', m' < m ∧ I m' b' k' w') (fun b' k' w' hx => by obtain ⟨m', hlt, hI'⟩ := hx; exact ih m' hlt _ w' ⟨b', k', rfl, hI'⟩) b k w (hr m b k w hI)
def seg_RecvBuf_Check.B2 (b : Option Addr) (w : World)   (R : Bool → World → Prop) : Prop :=
  seg_RecvBuf_Check.L1 b (1 : Int) w  R
theorem seg_RecvBuf_Check.B2_eq (b : Option Addr) (w : World)   (R : Bool → World → Prop) (sL1 : Option Addr → Int → World → Prop) :
    (
  sL1 b (1 : Int) w) = kstep Try.prog 47 Try.f48.results.toList (Try.f48.body.getD .skip) (seg_RecvBuf_Check.RV R) (kvc Try.prog 47 Try.f48.results.toList (Try.f48.body.getD .skip) (seg_RecvBuf_Check.RV R) [([(0, [1, 1, 1, 0, 1, 0, 0]), (2, [1, 1, 1, 0, 1, 0, 0]), (1, [0]), (0, [1, 1, 1, 1])], fun σ w => dP (slotOf σ 0) fun b_ => dI .i64 (slotOf σ 3) fun k_ => sL1 b_ k_ w)] 2000) [(0, [1, 1, 1])] [(0, .pointer b)] w := by kernel_rfl
theorem seg_RecvBuf_Check.B2_sound {R : Bool → World → Prop}  (b : Option Addr) (w : World) (h : seg_RecvBuf_Check.B2 b w   R) :
    KW Try.prog 48 47 (seg_RecvBuf_Check.RV R) ([(0, [1, 1, 1])].map (toItem (Try.f48.body.getD .skip))) [(0, .pointer b)] w := by
  exact block_spec Try.func48 Try.mixed (stops_cons (fun σ w h => by
      obtain ⟨b_, e0, h⟩ := dP_elim h
      obtain ⟨k_, e1, h⟩ := dI_elim h
      exact (seg_RecvBuf_Check.L1_sound  b_ k_ w h).weaken (Sub.cons (Sub.cons (Sub.nil _) e1) e0)) stops_nil) (Eq.mp (seg_RecvBuf_Check.B2_eq b w   R (fun b_ k_ w => seg_RecvBuf_Check.L1 b_ k_ w  R)) h)
def seg_RecvBuf_Check.B1 (b : Option Addr) (t15 : Bool) (w : World)   (R : Bool → World → Prop) : Prop :=
  Bm t15 (
    R false w) (
    Pn b fun a =>
    LdI .i64 (a.add 17) w fun x19 =>
    Bm (decide (x19 < (16 : Int))) (
      Pn b fun a_1 =>
      LdI .u16 (a_1.add 18) w.drew fun x24 =>
      seg_RecvBuf_bit.Call b (0 : Int) w.drew fun r26 w1 =>
      w1.cell? (a_1.add 18) = some (.int .u16 x24) ∧
      Bm ((IntKind.u16.wrap (BitVec.ofInt IntKind.u16.bits x24 &&& BitVec.ofInt IntKind.u16.bits r26).toNat) != (0 : Int)) (
        R false w1) (
        seg_RecvBuf_Check.B2 b w1  R)) (
      seg_RecvBuf_Check.B2 b w  R))
theorem seg_RecvBuf_Check.B1_eq (b : Option Addr) (t15 : Bool) (w : World)   (R : Bool → World → Prop) (sB2 : Option Addr → World → Prop) :
    (
  Bm t15 (
    R false w) (
    Pn b fun a =>
    LdI .i64 (a.add 17) w fun x19 =>
    Bm (decide (x19 < (16 : Int))) (
      Pn b fun a_1 =>
      LdI .u16 (a_1.add 18) w.drew fun x24 =>
      seg_RecvBuf_bit.Call b (0 : Int) w.drew fun r26 w1 =>
      w1.cell? (a_1.add 18) = some (.int .u16 x24) ∧
      Bm ((IntKind.u16.wrap (BitVec.ofInt IntKind.u16.bits x24 &&& BitVec.ofInt IntKind.u16.bits r26).toNat) != (0 : Int)) (
        R false w1) (
        sB2 b w1)) (
      sB2 b w))) = kstep Try.prog 47 Try.f48.results.toList (Try.f48.body.getD .skip) (seg_RecvBuf_Check.RV R) (kvc Try.prog 47 Try.f48.results.toList (Try.f48.body.getD .skip) (seg_RecvBuf_Check.RV R) [([(0, [1, 1, 1])], fun σ w => dP (slotOf σ 0) fun b_ => sB2 b_ w)] 2000) [(0, [1, 0, 1]), (0, [1, 1])] [(0, .pointer b), (15, .bool t15)] w := by kernel_rfl
theorem seg_RecvBuf_Check.B1_sound {R : Bool → World → Prop}  (b : Option Addr) (t15 : Bool) (w : World) (h : seg_RecvBuf_Check.B1 b t15 w   R) :
    KW Try.prog 48 47 (seg_RecvBuf_Check.RV R) ([(0, [1, 0, 1]), (0, [1, 1])].map (toItem (Try.f48.body.getD .skip))) [(0, .pointer b), (15, .bool t15)] w := by
  exact block_spec Try.func48 Try.mixed (stops_cons (fun σ w h => by
      obtain ⟨b_, e0, h⟩ := dP_elim h
      exact (seg_RecvBuf_Check.B2_sound  b_ w h).weaken (Sub.cons (Sub.nil _) e0)) stops_nil) (Eq.mp (seg_RecvBuf_Check.B1_eq b t15 w   R (fun b_ w => seg_RecvBuf_Check.B2 b_ w  R)) h)
def seg_RecvBuf_Check.B0 (b : Option Addr) (w : World)   (R : Bool → World → Prop) : Prop :=
  Pn b fun a =>
  LdI .i64 (a.add 17) w fun x7 =>
  Bm (decide (x7 < (0 : Int))) (
    seg_RecvBuf_Check.B1 b true w  R) (
    Pn b fun a_1 =>
    LdI .i64 (a_1.add 17) w fun x13 =>
    seg_RecvBuf_Check.B1 b (decide (x13 > (16 : Int))) w  R)
theorem seg_RecvBuf_Check.B0_eq (b : Option Addr) (w : World)   (R : Bool → World → Prop) (sB1 : Option Addr → Bool → World → Prop) :
    (
  Pn b fun a =>
  LdI .i64 (a.add 17) w fun x7 =>
  Bm (decide (x7 < (0 : Int))) (
    sB1 b true w) (
    Pn b fun a_1 =>
    LdI .i64 (a_1.add 17) w fun x13 =>
    sB1 b (decide (x13 > (16 : Int))) w)) = kstep Try.prog 47 Try.f48.results.toList (Try.f48.body.getD .skip) (seg_RecvBuf_Check.RV R) (kvc Try.prog 47 Try.f48.results.toList (Try.f48.body.getD .skip) (seg_RecvBuf_Check.RV R) [([(0, [1, 0, 1]), (0, [1, 1])], fun σ w => dP (slotOf σ 0) fun b_ => dB (slotOf σ 15) fun t15_ => sB1 b_ t15_ w)] 2000) [(0, [])] [(0, .pointer b)] w := by kernel_rfl
theorem seg_RecvBuf_Check.B0_sound {R : Bool → World → Prop}  (b : Option Addr) (w : World) (h : seg_RecvBuf_Check.B0 b w   R) :
    KW Try.prog 48 47 (seg_RecvBuf_Check.RV R) ([(0, [])].map (toItem (Try.f48.body.getD .skip))) [(0, .pointer b)] w := by
  exact block_spec Try.func48 Try.mixed (stops_cons (fun σ w h => by
      obtain ⟨b_, e0, h⟩ := dP_elim h
      obtain ⟨t15_, e1, h⟩ := dB_elim h
      exact (seg_RecvBuf_Check.B1_sound  b_ t15_ w h).weaken (Sub.cons (Sub.cons (Sub.nil _) e1) e0)) stops_nil) (Eq.mp (seg_RecvBuf_Check.B0_eq b w   R (fun b_ t15_ w => seg_RecvBuf_Check.B1 b_ t15_ w  R)) h)
theorem seg_RecvBuf_Check.sound (b : Option Addr) (w : World) (R : Bool → World → Prop) (h : seg_RecvBuf_Check.B0 b w R) : seg_RecvBuf_Check.Call b w R := by
  have hc := calls_of_block (args := #[.pointer b]) Try.func48 (body := (Try.f48.body.getD .skip)) (by kernel_rfl) (by kernel_rfl) (args_slot _) (seg_RecvBuf_Check.B0_sound b w h)
  exact hc.mono fun e w' he => by
    obtain ⟨v, rfl, hv⟩ := he
    exact seg_RecvBuf_Check.RV_elim hv
end Go.Proofs.Qxb6500426a
