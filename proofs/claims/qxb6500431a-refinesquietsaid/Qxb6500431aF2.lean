import Derived.Test.Qxb6500431aSig
set_option maxRecDepth 100000
set_option linter.unusedVariables false
open Go.Vc
namespace Go.Proofs.Qxb6500431a
def rloglaw_Match.L1b (x m0 : Option Addr) (n j : Int) (w : World)  (N1 : Option Addr → Option Addr → Int → Int → World → Prop) (R : Int → World → Prop) : Prop :=
  Bm (decide (j ≤ n)) (
    rlogm_Log_After.Call m0 j w fun r17 w1 =>
    rloglaw_Alike.Call x r17 w1 fun r20 w2 =>
    Bm r20 (
      R j w2) (
      N1 x m0 n (IntKind.i64.wrap (j + (1 : Int))) w2)) (
    R (-1 : Int) w)
theorem rloglaw_Match.L1b_eq (x m0 : Option Addr) (n j : Int) (w : World)  (N1 : Option Addr → Option Addr → Int → Int → World → Prop) (R : Int → World → Prop)  :
    (
  Bm (decide (j ≤ n)) (
    rlogm_Log_After.Call m0 j w fun r17 w1 =>
    rloglaw_Alike.Call x r17 w1 fun r20 w2 =>
    Bm r20 (
      R j w2) (
      N1 x m0 n (IntKind.i64.wrap (j + (1 : Int))) w2)) (
    R (-1 : Int) w)) = kstep Try.prog 22 Try.f21.results.toList (Try.f21.body.getD .skip) (rloglaw_Match.RV R) (kvc Try.prog 22 Try.f21.results.toList (Try.f21.body.getD .skip) (rloglaw_Match.RV R) [([(0, [1, 1, 0, 1, 0, 0]), (2, [1, 1, 0, 1, 0, 0]), (1, [0]), (0, [1, 1, 1])], fun σ w => dP (slotOf σ 0) fun x_ => dP (slotOf σ 1) fun m0_ => dI .i64 (slotOf σ 5) fun n_ => dI .i64 (slotOf σ 6) fun j_ => N1 x_ m0_ n_ j_ w)] 2000) [(0, [1, 1, 0, 1, 0, 0]), (2, [1, 1, 0, 1, 0, 0]), (1, [0]), (0, [1, 1, 1])] [(0, .pointer x), (1, .pointer m0), (5, .int .i64 n), (6, .int .i64 j)] w := by kernel_rfl
theorem rloglaw_Match.L1b_sound {R : Int → World → Prop} {N1 : Option Addr → Option Addr → Int → Int → World → Prop} (hN1 : ∀ x m0 n j w, N1 x m0 n j w → KW Try.prog 21 22 (rloglaw_Match.RV R) ([(0, [1, 1, 0, 1, 0, 0]), (2, [1, 1, 0, 1, 0, 0]), (1, [0]), (0, [1, 1, 1])].map (toItem (Try.f21.body.getD .skip))) [(0, .pointer x), (1, .pointer m0), (5, .int .i64 n), (6, .int .i64 j)] w) (x m0 : Option Addr) (n j : Int) (w : World) (h : rloglaw_Match.L1b x m0 n j w  N1 R) :
    KW Try.prog 21 22 (rloglaw_Match.RV R) ([(0, [1, 1, 0, 1, 0, 0]), (2, [1, 1, 0, 1, 0, 0]), (1, [0]), (0, [1, 1, 1])].map (toItem (Try.f21.body.getD .skip))) [(0, .pointer x), (1, .pointer m0), (5, .int .i64 n), (6, .int .i64 j)] w := by
  exact block_spec Try.func21 Try.mixed (stops_cons (fun σ w h => by
      obtain ⟨x_, e0, h⟩ := dP_elim h
      obtain ⟨m0_, e1, h⟩ := dP_elim h
      obtain ⟨n_, e2, h⟩ := dI_elim h
      obtain ⟨j_, e3, h⟩ := dI_elim h
      exact (hN1 x_ m0_ n_ j_ w h).weaken (Sub.cons (Sub.cons (Sub.cons (Sub.cons (Sub.nil _) e3) e2) e1) e0)) stops_nil) (Eq.mp (rloglaw_Match.L1b_eq x m0 n j w  N1 R ) h)
def rloglaw_Match.L1 (x m0 : Option Addr) (n j : Int) (w : World)  (R : Int → World → Prop) : Prop :=
  ∃ (I : Nat → Option Addr → Option Addr → Int → Int → World → Prop) (m : Nat), I m x m0 n j w ∧ ∀ m x m0 n j w, I m x m0 n j w → rloglaw_Match.L1b x m0 n j w  (fun x' m0' n' j' w' => ∃ m', m' < m ∧ I m' x' m0' n' j' w') R
theorem rloglaw_Match.L1_sound {R : Int → World → Prop}  (x m0 : Option Addr) (n j : Int) (w : World) (h : rloglaw_Match.L1 x m0 n j w  R) :
    KW Try.prog 21 22 (rloglaw_Match.RV R) ([(0, [1, 1, 0, 1, 0, 0]), (2, [1, 1, 0, 1, 0, 0]), (1, [0]), (0, [1, 1, 1])].map (toItem (Try.f21.body.getD .skip))) [(0, .pointer x), (1, .pointer m0), (5, .int .i64 n), (6, .int .i64 j)] w := by
  obtain ⟨I, m, hBase, hr⟩ := h
  refine KW.loop (fun m σ w => ∃ (x m0 : Option Addr) (n j : Int), σ = [(0, .pointer x), (1, .pointer m0), (5, .int .i64 n), (6, .int .i64 j)] ∧ I m x m0 n j w) ?_ m _ w ⟨x, m0, n, j, rfl, hBase⟩
  rintro m ih σ w ⟨x, m0, n, j, rfl, hI⟩
  exact rloglaw_Match.L1b_sound  (N1 := fun x' m0' n' j' w' => ∃ m', m' < m ∧ I m' x' m0' n' j' w') (fun x' m0' n' j' w' hx => by obtain ⟨m', hlt, hI'⟩ := hx; exact ih m' hlt _ w' ⟨x', m0', n', j', rfl, hI'⟩) x m0 n j w (hr m x m0 n j w hI)
def rloglaw_Match.B0 (x m0 : Option Addr) (w : World)   (R : Int → World → Prop) : Prop :=
  rlogm_Log_Steps.Call m0 w fun r9 w1 =>
  rloglaw_Match.L1 x m0 r9 (0 : Int) w1  R
theorem rloglaw_Match.B0_eq (x m0 : Option Addr) (w : World)   (R : Int → World → Prop) (sL1 : Option Addr → Option Addr → Int → Int → World → Prop) :
    (
  rlogm_Log_Steps.Call m0 w fun r9 w1 =>
  sL1 x m0 r9 (0 : Int) w1) = kstep Try.prog 22 Try.f21.results.toList (Try.f21.body.getD .skip) (rloglaw_Match.RV R) (kvc Try.prog 22 Try.f21.results.toList (Try.f21.body.getD .skip) (rloglaw_Match.RV R) [([(0, [1, 1, 0, 1, 0, 0]), (2, [1, 1, 0, 1, 0, 0]), (1, [0]), (0, [1, 1, 1])], fun σ w => dP (slotOf σ 0) fun x_ => dP (slotOf σ 1) fun m0_ => dI .i64 (slotOf σ 5) fun n_ => dI .i64 (slotOf σ 6) fun j_ => sL1 x_ m0_ n_ j_ w)] 2000) [(0, [])] [(0, .pointer x), (1, .pointer m0)] w := by kernel_rfl
theorem rloglaw_Match.B0_sound {R : Int → World → Prop}  (x m0 : Option Addr) (w : World) (h : rloglaw_Match.B0 x m0 w   R) :
    KW Try.prog 21 22 (rloglaw_Match.RV R) ([(0, [])].map (toItem (Try.f21.body.getD .skip))) [(0, .pointer x), (1, .pointer m0)] w := by
  exact block_spec Try.func21 Try.mixed (stops_cons (fun σ w h => by
      obtain ⟨x_, e0, h⟩ := dP_elim h
      obtain ⟨m0_, e1, h⟩ := dP_elim h
      obtain ⟨n_, e2, h⟩ := dI_elim h
      obtain ⟨j_, e3, h⟩ := dI_elim h
      exact (rloglaw_Match.L1_sound  x_ m0_ n_ j_ w h).weaken (Sub.cons (Sub.cons (Sub.cons (Sub.cons (Sub.nil _) e3) e2) e1) e0)) stops_nil) (Eq.mp (rloglaw_Match.B0_eq x m0 w   R (fun x_ m0_ n_ j_ w => rloglaw_Match.L1 x_ m0_ n_ j_ w  R)) h)
theorem rloglaw_Match.sound (x m0 : Option Addr) (w : World) (R : Int → World → Prop) (h : rloglaw_Match.B0 x m0 w R) : rloglaw_Match.Call x m0 w R := by
  have hc := calls_of_block (args := #[.pointer x, .pointer m0]) Try.func21 (body := (Try.f21.body.getD .skip)) (by kernel_rfl) (by kernel_rfl) (args_slot _) (rloglaw_Match.B0_sound x m0 w h)
  exact hc.mono fun e w' he => by
    obtain ⟨v, rfl, hv⟩ := he
    exact rloglaw_Match.RV_elim hv
def rlogm_Log_Steps.B0 (l : Option Addr) (w : World)   (R : Int → World → Prop) : Prop :=
  Pn l fun a =>
  LdL (a.add 2) w fun x6_b x6_l x6_c =>
  R ((x6_l : Nat) : Int) w
theorem rlogm_Log_Steps.B0_eq (l : Option Addr) (w : World)   (R : Int → World → Prop)  :
    (
  Pn l fun a =>
  LdL (a.add 2) w fun x6_b x6_l x6_c =>
  R ((x6_l : Nat) : Int) w) = kstep Try.prog 8 Try.f22.results.toList (Try.f22.body.getD .skip) (rlogm_Log_Steps.RV R) (kvc Try.prog 8 Try.f22.results.toList (Try.f22.body.getD .skip) (rlogm_Log_Steps.RV R) [] 2000) [(0, [])] [(0, .pointer l)] w := by kernel_rfl
theorem rlogm_Log_Steps.B0_sound {R : Int → World → Prop}  (l : Option Addr) (w : World) (h : rlogm_Log_Steps.B0 l w   R) :
    KW Try.prog 22 8 (rlogm_Log_Steps.RV R) ([(0, [])].map (toItem (Try.f22.body.getD .skip))) [(0, .pointer l)] w := by
  exact block_spec Try.func22 Try.mixed stops_nil (Eq.mp (rlogm_Log_Steps.B0_eq l w   R ) h)
theorem rlogm_Log_Steps.sound (l : Option Addr) (w : World) (R : Int → World → Prop) (h : rlogm_Log_Steps.B0 l w R) : rlogm_Log_Steps.Call l w R := by
  have hc := calls_of_block (args := #[.pointer l]) Try.func22 (body := (Try.f22.body.getD .skip)) (by kernel_rfl) (by kernel_rfl) (args_slot _) (rlogm_Log_Steps.B0_sound l w h)
  exact hc.mono fun e w' he => by
    obtain ⟨v, rfl, hv⟩ := he
    exact rlogm_Log_Steps.RV_elim hv
def rlogm_Log_After.B2 (from0 : Option Addr) (w : World)   (R : Option Addr → World → Prop) : Prop :=
  New (.cells #[.pointer none, .pointer none, .slice none 0 0] 60) w fun b34 w1 =>
  rlogm_state_clone.Call from0 w1 fun r37 w2 =>
  Sts [.pointer r37] ⟨b34, 0, none⟩ 0 w2 fun w3 =>
  rlogm_state_clone.Call from0 w3 fun r42 w4 =>
  Sts [.pointer r42] ⟨b34, 1, none⟩ 0 w4 fun w5 =>
  R (some ⟨b34, 0, none⟩) w5
theorem rlogm_Log_After.B2_eq (from0 : Option Addr) (w : World)   (R : Option Addr → World → Prop)  :
    (
  New (.cells #[.pointer none, .pointer none, .slice none 0 0] 60) w fun b34 w1 =>
  rlogm_state_clone.Call from0 w1 fun r37 w2 =>
  Sts [.pointer r37] ⟨b34, 0, none⟩ 0 w2 fun w3 =>
  rlogm_state_clone.Call from0 w3 fun r42 w4 =>
  Sts [.pointer r42] ⟨b34, 1, none⟩ 0 w4 fun w5 =>
  R (some ⟨b34, 0, none⟩) w5) = kstep Try.prog 46 Try.f23.results.toList (Try.f23.body.getD .skip) (rlogm_Log_After.RV R) (kvc Try.prog 46 Try.f23.results.toList (Try.f23.body.getD .skip) (rlogm_Log_After.RV R) [] 2000) [(0, [1, 1, 1, 1])] [(5, .pointer from0)] w := by kernel_rfl
theorem rlogm_Log_After.B2_sound {R : Option Addr → World → Prop}  (from0 : Option Addr) (w : World) (h : rlogm_Log_After.B2 from0 w   R) :
    KW Try.prog 23 46 (rlogm_Log_After.RV R) ([(0, [1, 1, 1, 1])].map (toItem (Try.f23.body.getD .skip))) [(5, .pointer from0)] w := by
  exact block_spec Try.func23 Try.mixed stops_nil (Eq.mp (rlogm_Log_After.B2_eq from0 w   R ) h)
def rlogm_Log_After.B1 (l : Option Addr) (k : Int) (from0 : Option Addr) (w : World)   (R : Option Addr → World → Prop) : Prop :=
  Bm (decide (k > (0 : Int))) (
    Pn l fun a =>
    LdL (a.add 2) w fun x28_b x28_l x28_c =>
    Pn x28_b fun a_1 =>
    (0 ≤ (IntKind.i64.wrap (k - (1 : Int))) ∧ (IntKind.i64.wrap (k - (1 : Int))) < ((x28_l : Nat) : Int)) ∧
    LdP (Addr.add a_1 ((IntKind.i64.wrap (k - (1 : Int))).toNat * 1)) w fun x32 =>
    rlogm_Log_After.B2 x32 w  R) (
    rlogm_Log_After.B2 from0 w  R)
theorem rlogm_Log_After.B1_eq (l : Option Addr) (k : Int) (from0 : Option Addr) (w : World)   (R : Option Addr → World → Prop) (sB2 : Option Addr → World → Prop) :
    (
  Bm (decide (k > (0 : Int))) (
    Pn l fun a =>
    LdL (a.add 2) w fun x28_b x28_l x28_c =>
    Pn x28_b fun a_1 =>
    (0 ≤ (IntKind.i64.wrap (k - (1 : Int))) ∧ (IntKind.i64.wrap (k - (1 : Int))) < ((x28_l : Nat) : Int)) ∧
    LdP (Addr.add a_1 ((IntKind.i64.wrap (k - (1 : Int))).toNat * 1)) w fun x32 =>
    sB2 x32 w) (
    sB2 from0 w)) = kstep Try.prog 46 Try.f23.results.toList (Try.f23.body.getD .skip) (rlogm_Log_After.RV R) (kvc Try.prog 46 Try.f23.results.toList (Try.f23.body.getD .skip) (rlogm_Log_After.RV R) [([(0, [1, 1, 1, 1])], fun σ w => dP (slotOf σ 5) fun from0_ => sB2 from0_ w)] 2000) [(0, [1, 1, 1])] [(0, .pointer l), (1, .int .i64 k), (5, .pointer from0)] w := by kernel_rfl
theorem rlogm_Log_After.B1_sound {R : Option Addr → World → Prop}  (l : Option Addr) (k : Int) (from0 : Option Addr) (w : World) (h : rlogm_Log_After.B1 l k from0 w   R) :
    KW Try.prog 23 46 (rlogm_Log_After.RV R) ([(0, [1, 1, 1])].map (toItem (Try.f23.body.getD .skip))) [(0, .pointer l), (1, .int .i64 k), (5, .pointer from0)] w := by
  exact block_spec Try.func23 Try.mixed (stops_cons (fun σ w h => by
      obtain ⟨from0_, e0, h⟩ := dP_elim h
      exact (rlogm_Log_After.B2_sound  from0_ w h).weaken (Sub.cons (Sub.nil _) e0)) stops_nil) (Eq.mp (rlogm_Log_After.B1_eq l k from0 w   R (fun from0_ w => rlogm_Log_After.B2 from0_ w  R)) h)
def rlogm_Log_After.B0 (l : Option Addr) (k : Int) (w : World)   (R : Option Addr → World → Prop) : Prop :=
  Pn l fun a =>
  LdP (a.add 1) w fun x10 =>
  Pn l fun a_1 =>
  LdL (a_1.add 2) w fun x15_b x15_l x15_c =>
  Bm (decide (k > ((x15_l : Nat) : Int))) (
    Pn l fun a_2 =>
    LdL (a_2.add 2) w fun x21_b x21_l x21_c =>
    rlogm_Log_After.B1 l ((x21_l : Nat) : Int) x10 w  R) (
    rlogm_Log_After.B1 l k x10 w  R)
theorem rlogm_Log_After.B0_eq (l : Option Addr) (k : Int) (w : World)   (R : Option Addr → World → Prop) (sB1 : Option Addr → Int → Option Addr → World → Prop) :
    (
  Pn l fun a =>
  LdP (a.add 1) w fun x10 =>
  Pn l fun a_1 =>
  LdL (a_1.add 2) w fun x15_b x15_l x15_c =>
  Bm (decide (k > ((x15_l : Nat) : Int))) (
    Pn l fun a_2 =>
    LdL (a_2.add 2) w fun x21_b x21_l x21_c =>
    sB1 l ((x21_l : Nat) : Int) x10 w) (
    sB1 l k x10 w)) = kstep Try.prog 46 Try.f23.results.toList (Try.f23.body.getD .skip) (rlogm_Log_After.RV R) (kvc Try.prog 46 Try.f23.results.toList (Try.f23.body.getD .skip) (rlogm_Log_After.RV R) [([(0, [1, 1, 1])], fun σ w => dP (slotOf σ 0) fun l_ => dI .i64 (slotOf σ 1) fun k_ => dP (slotOf σ 5) fun from0_ => sB1 l_ k_ from0_ w)] 2000) [(0, [])] [(0, .pointer l), (1, .int .i64 k)] w := by kernel_rfl
theorem rlogm_Log_After.B0_sound {R : Option Addr → World → Prop}  (l : Option Addr) (k : Int) (w : World) (h : rlogm_Log_After.B0 l k w   R) :
    KW Try.prog 23 46 (rlogm_Log_After.RV R) ([(0, [])].map (toItem (Try.f23.body.getD .skip))) [(0, .pointer l), (1, .int .i64 k)] w := by
  exact block_spec Try.func23 Try.mixed (stops_cons (fun σ w h => by
      obtain ⟨l_, e0, h⟩ := dP_elim h
      obtain ⟨k_, e1, h⟩ := dI_elim h
      obtain ⟨from0_, e2, h⟩ := dP_elim h
      exact (rlogm_Log_After.B1_sound  l_ k_ from0_ w h).weaken (Sub.cons (Sub.cons (Sub.cons (Sub.nil _) e2) e1) e0)) stops_nil) (Eq.mp (rlogm_Log_After.B0_eq l k w   R (fun l_ k_ from0_ w => rlogm_Log_After.B1 l_ k_ from0_ w  R)) h)
theorem rlogm_Log_After.sound (l : Option Addr) (k : Int) (w : World) (R : Option Addr → World → Prop) (h : rlogm_Log_After.B0 l k w R) : rlogm_Log_After.Call l k w R := by
  have hc := calls_of_block (args := #[.pointer l, .int .i64 k]) Try.func23 (body := (Try.f23.body.getD .skip)) (by kernel_rfl) (by kernel_rfl) (args_slot _) (rlogm_Log_After.B0_sound l k w h)
  exact hc.mono fun e w' he => by
    obtain ⟨v, rfl, hv⟩ := he
    exact rlogm_Log_After.RV_elim hv
def rloglaw_Alike.L1b (x m0 : Option Addr) (last i : Int) (w : World)  (N1 : Option Addr → Option Addr → Int → Int → World → Prop) (R : Bool → World → Prop) : Prop :=
  Bm (decide (i ≤ (IntKind.i64.wrap (last + (1 : Int))))) (
    rloglaw_SameAt.Call x m0 i w fun r47 w1 =>
    Bm (!r47) (
      R false w1) (
      rloglaw_SameTermAt.Call x m0 i w1 fun r52 w2 =>
      Bm (!r52) (
        R false w2) (
        N1 x m0 last (IntKind.i64.wrap (i + (1 : Int))) w2))) (
    R true w)
theorem rloglaw_Alike.L1b_eq (x m0 : Option Addr) (last i : Int) (w : World)  (N1 : Option Addr → Option Addr → Int → Int → World → Prop) (R : Bool → World → Prop)  :
    (
  Bm (decide (i ≤ (IntKind.i64.wrap (last + (1 : Int))))) (
    rloglaw_SameAt.Call x m0 i w fun r47 w1 =>
    Bm (!r47) (
      R false w1) (
      rloglaw_SameTermAt.Call x m0 i w1 fun r52 w2 =>
      Bm (!r52) (
        R false w2) (
        N1 x m0 last (IntKind.i64.wrap (i + (1 : Int))) w2))) (
    R true w)) = kstep Try.prog 54 Try.f24.results.toList (Try.f24.body.getD .skip) (rloglaw_Alike.RV R) (kvc Try.prog 54 Try.f24.results.toList (Try.f24.body.getD .skip) (rloglaw_Alike.RV R) [([(0, [1, 1, 1, 1, 1, 1, 1, 1, 1, 0, 1, 0, 0]), (2, [1, 1, 1, 1, 1, 1, 1, 1, 1, 0, 1, 0, 0]), (1, [0]), (0, [1, 1, 1, 1, 1, 1, 1, 1, 1, 1])], fun σ w => dP (slotOf σ 0) fun x_ => dP (slotOf σ 1) fun m0_ => dI .i64 (slotOf σ 6) fun last_ => dI .i64 (slotOf σ 7) fun i_ => N1 x_ m0_ last_ i_ w)] 2000) [(0, [1, 1, 1, 1, 1, 1, 1, 1, 1, 0, 1, 0, 0]), (2, [1, 1, 1, 1, 1, 1, 1, 1, 1, 0, 1, 0, 0]), (1, [0]), (0, [1, 1, 1, 1, 1, 1, 1, 1, 1, 1])] [(0, .pointer x), (1, .pointer m0), (6, .int .i64 last), (7, .int .i64 i)] w := by kernel_rfl
theorem rloglaw_Alike.L1b_sound {R : Bool → World → Prop} {N1 : Option Addr → Option Addr → Int → Int → World → Prop} (hN1 : ∀ x m0 last i w, N1 x m0 last i w → KW Try.prog 24 54 (rloglaw_Alike.RV R) ([(0, [1, 1, 1, 1, 1, 1, 1, 1, 1, 0, 1, 0, 0]), (2, [1, 1, 1, 1, 1, 1, 1, 1, 1, 0, 1, 0, 0]), (1, [0]), (0, [1, 1, 1, 1, 1, 1, 1, 1, 1, 1])].map (toItem (Try.f24.body.getD .skip))) [(0, .pointer x), (1, .pointer m0), (6, .int .i64 last), (7, .int .i64 i)] w) (x m0 : Option Addr) (last i : Int) (w : World) (h : rloglaw_Alike.L1b x m0 last i w  N1 R) :
    KW Try.prog 24 54 (rloglaw_Alike.RV R) ([(0, [1, 1, 1, 1, 1, 1, 1, 1, 1, 0, 1, 0, 0]), (2, [1, 1, 1, 1, 1, 1, 1, 1, 1, 0, 1, 0, 0]), (1, [0]), (0, [1, 1, 1, 1, 1, 1, 1, 1, 1, 1])].map (toItem (Try.f24.body.getD .skip))) [(0, .pointer x), (1, .pointer m0), (6, .int .i64 last), (7, .int .i64 i)] w := by
  exact block_spec Try.func24 Try.mixed (stops_cons (fun σ w h => by
      obtain ⟨x_, e0, h⟩ := dP_elim h
      obtain ⟨m0_, e1, h⟩ := dP_elim h
      obtain ⟨last_, e2, h⟩ := dI_elim h
      obtain ⟨i_, e3, h⟩ := dI_elim h
      exact (hN1 x_ m0_ last_ i_ w h).weaken (Sub.cons (Sub.cons (Sub.cons (Sub.cons (Sub.nil _) e3) e2) e1) e0)) stops_nil) (Eq.mp (rloglaw_Alike.L1b_eq x m0 last i w  N1 R ) h)
def rloglaw_Alike.L1 (x m0 : Option Addr) (last i : Int) (w : World)  (R : Bool → World → Prop) : Prop :=
  ∃ (I : Nat → Option Addr → Option Addr → Int → Int → World → Prop) (m : Nat), I m x m0 last i w ∧ ∀ m x m0 last i w, I m x m0 last i w → rloglaw_Alike.L1b x m0 last i w  (fun x' m0' last' i' w' => ∃ m', m' < m ∧ I m' x' m0' last' i' w') R
theorem rloglaw_Alike.L1_sound {R : Bool → World → Prop}  (x m0 : Option Addr) (last i : Int) (w : World) (h : rloglaw_Alike.L1 x m0 last i w  R) :
    KW Try.prog 24 54 (rloglaw_Alike.RV R) ([(0, [1, 1, 1, 1, 1, 1, 1, 1, 1, 0, 1, 0, 0]), (2, [1, 1, 1, 1, 1, 1, 1, 1, 1, 0, 1, 0, 0]), (1, [0]), (0, [1, 1, 1, 1, 1, 1, 1, 1, 1, 1])].map (toItem (Try.f24.body.getD .skip))) [(0, .pointer x), (1, .pointer m0), (6, .int .i64 last), (7, .int .i64 i)] w := by
  obtain ⟨I, m, hBase, hr⟩ := h
  refine KW.loop (fun m σ w => ∃ (x m0 : Option Addr) (last i : Int), σ = [(0, .pointer x), (1, .pointer m0), (6, .int .i64 last), (7, .int .i64 i)] ∧ I m x m0 last i w) ?_ m _ w ⟨x, m0, last, i, rfl, hBase⟩
  rintro m ih σ w ⟨x, m0, last, i, rfl, hI⟩
  exact rloglaw_Alike.L1b_sound  (N1 := fun x' m0' last' i' w' => ∃ m', m' < m ∧ I m' x' m0' last' i' w') (fun x' m0' last' i' w' hx => by obtain ⟨m', hlt, hI'⟩ := hx; exact ih m' hlt _ w' ⟨x', m0', last', i', rfl, hI'⟩) x m0 last i w (hr m x m0 last i w hI)
def rloglaw_Alike.B0 (x m0 : Option Addr) (w : World)   (R : Bool → World → Prop) : Prop :=
  rloglaw_SameTerm.Call x m0 w fun r10 w1 =>
  Bm (!r10) (
    R false w1) (
    rloglaw_SameVote.Call x m0 w1 fun r14 w2 =>
    Bm (!r14) (
      R false w2) (
      rloglaw_SameBase.Call x m0 w2 fun r18 w3 =>
      Bm (!r18) (
        R false w3) (
        rloglaw_SameBaseTerm.Call x m0 w3 fun r22 w4 =>
        Bm (!r22) (
          R false w4) (
          rloglaw_SameSnap.Call x m0 w4 fun r26 w5 =>
          Bm (!r26) (
            R false w5) (
            rloglaw_SameLast.Call x m0 w5 fun r30 w6 =>
            Bm (!r30) (
              R false w6) (
              rlogm_Log_Base.Call m0 w6 fun r33 w7 =>
              rlogm_Log_Last.Call m0 w7 fun r35 w8 =>
              rloglaw_Alike.L1 x m0 r35 (IntKind.i64.wrap (r33 - (1 : Int))) w8  R))))))
theorem rloglaw_Alike.B0_eq (x m0 : Option Addr) (w : World)   (R : Bool → World → Prop) (sL1 : Option Addr → Option Addr → Int → Int → World → Prop) :
    (
  rloglaw_SameTerm.Call x m0 w fun r10 w1 =>
  Bm (!r10) (
    R false w1) (
    rloglaw_SameVote.Call x m0 w1 fun r14 w2 =>
    Bm (!r14) (
      R false w2) (
      rloglaw_SameBase.Call x m0 w2 fun r18 w3 =>
      Bm (!r18) (
        R false w3) (
        rloglaw_SameBaseTerm.Call x m0 w3 fun r22 w4 =>
        Bm (!r22) (
          R false w4) (
          rloglaw_SameSnap.Call x m0 w4 fun r26 w5 =>
          Bm (!r26) (
            R false w5) (
            rloglaw_SameLast.Call x m0 w5 fun r30 w6 =>
            Bm (!r30) (
              R false w6) (
              rlogm_Log_Base.Call m0 w6 fun r33 w7 =>
              rlogm_Log_Last.Call m0 w7 fun r35 w8 =>
              sL1 x m0 r35 (IntKind.i64.wrap (r33 - (1 : Int))) w8))))))) = kstep Try.prog 54 Try.f24.results.toList (Try.f24.body.getD .skip) (rloglaw_Alike.RV R) (kvc Try.prog 54 Try.f24.results.toList (Try.f24.body.getD .skip) (rloglaw_Alike.RV R) [([(0, [1, 1, 1, 1, 1, 1, 1, 1, 1, 0, 1, 0, 0]), (2, [1, 1, 1, 1, 1, 1, 1, 1, 1, 0, 1, 0, 0]), (1, [0]), (0, [1, 1, 1, 1, 1, 1, 1, 1, 1, 1])], fun σ w => dP (slotOf σ 0) fun x_ => dP (slotOf σ 1) fun m0_ => dI .i64 (slotOf σ 6) fun last_ => dI .i64 (slotOf σ 7) fun i_ => sL1 x_ m0_ last_ i_ w)] 2000) [(0, [])] [(0, .pointer x), (1, .pointer m0)] w := by kernel_rfl
theorem rloglaw_Alike.B0_sound {R : Bool → World → Prop}  (x m0 : Option Addr) (w : World) (h : rloglaw_Alike.B0 x m0 w   R) :
    KW Try.prog 24 54 (rloglaw_Alike.RV R) ([(0, [])].map (toItem (Try.f24.body.getD .skip))) [(0, .pointer x), (1, .pointer m0)] w := by
  exact block_spec Try.func24 Try.mixed (stops_cons (fun σ w h => by
      obtain ⟨x_, e0, h⟩ := dP_elim h
      obtain ⟨m0_, e1, h⟩ := dP_elim h
      obtain ⟨last_, e2, h⟩ := dI_elim h
      obtain ⟨i_, e3, h⟩ := dI_elim h
      exact (rloglaw_Alike.L1_sound  x_ m0_ last_ i_ w h).weaken (Sub.cons (Sub.cons (Sub.cons (Sub.cons (Sub.nil _) e3) e2) e1) e0)) stops_nil) (Eq.mp (rloglaw_Alike.B0_eq x m0 w   R (fun x_ m0_ last_ i_ w => rloglaw_Alike.L1 x_ m0_ last_ i_ w  R)) h)
theorem rloglaw_Alike.sound (x m0 : Option Addr) (w : World) (R : Bool → World → Prop) (h : rloglaw_Alike.B0 x m0 w R) : rloglaw_Alike.Call x m0 w R := by
  have hc := calls_of_block (args := #[.pointer x, .pointer m0]) Try.func24 (body := (Try.f24.body.getD .skip)) (by kernel_rfl) (by kernel_rfl) (args_slot _) (rloglaw_Alike.B0_sound x m0 w h)
  exact hc.mono fun e w' he => by
    obtain ⟨v, rfl, hv⟩ := he
    exact rloglaw_Alike.RV_elim hv
def diskm_New.L1b (z : ByteArray) (d : Nat) (b : Int) (w : World)  (N1 : ByteArray → Nat → Int → World → Prop) (R : Option Addr → World → Prop) : Prop :=
  Bm (decide (b < (14 : Int))) (
    LdL ⟨d, 0, none⟩ w fun x16_b x16_l x16_c =>
    Pn x16_b fun a =>
    (0 ≤ b ∧ b < ((x16_l : Nat) : Int)) ∧
    Sts [.string z] (Addr.add a (b.toNat * 1)) 0 w fun w1 =>
    N1 z d (IntKind.i64.wrap (b + (1 : Int))) w1) (
    LdL ⟨d, 0, none⟩ w fun x24_b x24_l x24_c =>
    diskm_blocks.Call x24_b x24_l x24_c w fun r25_b r25_l r25_c w2 =>
    Sts [.slice r25_b r25_l r25_c] ⟨d, 1, none⟩ 0 w2 fun w3 =>
    R (some ⟨d, 0, none⟩) w3)
theorem diskm_New.L1b_eq (z : ByteArray) (d : Nat) (b : Int) (w : World)  (N1 : ByteArray → Nat → Int → World → Prop) (R : Option Addr → World → Prop)  :
    (
  Bm (decide (b < (14 : Int))) (
    LdL ⟨d, 0, none⟩ w fun x16_b x16_l x16_c =>
    Pn x16_b fun a =>
    (0 ≤ b ∧ b < ((x16_l : Nat) : Int)) ∧
    Sts [.string z] (Addr.add a (b.toNat * 1)) 0 w fun w1 =>
    N1 z d (IntKind.i64.wrap (b + (1 : Int))) w1) (
    LdL ⟨d, 0, none⟩ w fun x24_b x24_l x24_c =>
    diskm_blocks.Call x24_b x24_l x24_c w fun r25_b r25_l r25_c w2 =>
    Sts [.slice r25_b r25_l r25_c] ⟨d, 1, none⟩ 0 w2 fun w3 =>
    R (some ⟨d, 0, none⟩) w3)) = kstep Try.prog 29 Try.f25.results.toList (Try.f25.body.getD .skip) (diskm_New.RV R) (kvc Try.prog 29 Try.f25.results.toList (Try.f25.body.getD .skip) (diskm_New.RV R) [([(0, [1, 1, 1, 0, 1, 0, 0]), (2, [1, 1, 1, 0, 1, 0, 0]), (1, [0]), (0, [1, 1, 1, 1])], fun σ w => dS (slotOf σ 1) fun z_ => dK (slotOf σ 2) fun d_ => dI .i64 (slotOf σ 3) fun b_ => N1 z_ d_ b_ w)] 2000) [(0, [1, 1, 1, 0, 1, 0, 0]), (2, [1, 1, 1, 0, 1, 0, 0]), (1, [0]), (0, [1, 1, 1, 1])] [(1, .string z), (2, .pointer (some ⟨d, 0, none⟩)), (3, .int .i64 b)] w := by kernel_rfl
theorem diskm_New.L1b_sound {R : Option Addr → World → Prop} {N1 : ByteArray → Nat → Int → World → Prop} (hN1 : ∀ z d b w, N1 z d b w → KW Try.prog 25 29 (diskm_New.RV R) ([(0, [1, 1, 1, 0, 1, 0, 0]), (2, [1, 1, 1, 0, 1, 0, 0]), (1, [0]), (0, [1, 1, 1, 1])].map (toItem (Try.f25.body.getD .skip))) [(1, .string z), (2, .pointer (some ⟨d, 0, none⟩)), (3, .int .i64 b)] w) (z : ByteArray) (d : Nat) (b : Int) (w : World) (h : diskm_New.L1b z d b w  N1 R) :
    KW Try.prog 25 29 (diskm_New.RV R) ([(0, [1, 1, 1, 0, 1, 0, 0]), (2, [1, 1, 1, 0, 1, 0, 0]), (1, [0]), (0, [1, 1, 1, 1])].map (toItem (Try.f25.body.getD .skip))) [(1, .string z), (2, .pointer (some ⟨d, 0, none⟩)), (3, .int .i64 b)] w := by
  exact block_spec Try.func25 Try.mixed (stops_cons (fun σ w h => by
      obtain ⟨z_, e0, h⟩ := dS_elim h
      obtain ⟨d_, e1, h⟩ := dK_elim h
      obtain ⟨b_, e2, h⟩ := dI_elim h
      exact (hN1 z_ d_ b_ w h).weaken (Sub.cons (Sub.cons (Sub.cons (Sub.nil _) e2) e1) e0)) stops_nil) (Eq.mp (diskm_New.L1b_eq z d b w  N1 R ) h)
def diskm_New.L1 (z : ByteArray) (d : Nat) (b : Int) (w : World)  (R : Option Addr → World → Prop) : Prop :=
  ∃ (I : Nat → ByteArray → Nat → Int → World → Prop) (m : Nat), I m z d b w ∧ ∀ m z d b w, I m z d b w → diskm_New.L1b z d b w  (fun z' d' b' w' => ∃ m', m' < m ∧ I m' z' d' b' w') R
theorem diskm_New.L1_sound {R : Option Addr → World → Prop}  (z : ByteArray) (d : Nat) (b : Int) (w : World) (h : diskm_New.L1 z d b w  R) :
    KW Try.prog 25 29 (diskm_New.RV R) ([(0, [1, 1, 1, 0, 1, 0, 0]), (2, [1, 1, 1, 0, 1, 0, 0]), (1, [0]), (0, [1, 1, 1, 1])].map (toItem (Try.f25.body.getD .skip))) [(1, .string z), (2, .pointer (some ⟨d, 0, none⟩)), (3, .int .i64 b)] w := by
  obtain ⟨I, m, hBase, hr⟩ := h
  refine KW.loop (fun m σ w => ∃ (z : ByteArray) (d : Nat) (b : Int), σ = [(1, .string z), (2, .pointer (some ⟨d, 0, none⟩)), (3, .int .i64 b)] ∧ I m z d b w) ?_ m _ w ⟨z, d, b, rfl, hBase⟩
  rintro m ih σ w ⟨z, d, b, rfl, hI⟩
  exact diskm_New.L1b_sound  (N1 := fun z' d' b' w' => ∃ m', m' < m ∧ I m' z' d' b' w') (fun z' d' b' w' hx => by obtain ⟨m', hlt, hI'⟩ := hx; exact ih m' hlt _ w' ⟨z', d', b', rfl, hI'⟩) z d b w (hr m z d b w hI)
def diskm_New.B0  (w : World)   (R : Option Addr → World → Prop) : Prop :=
  Make 5 (.int .u8 (0 : Int)) 1 1 (64 : Int) (64 : Int) w fun b4 w1 =>
  ToStr (some ⟨b4, 0, none⟩) 64 w1 fun s5 =>
  Make 9 (.string (ByteArray.mk #[])) 1 16 (14 : Int) (14 : Int) w1 fun b6 w2 =>
  New (.cells #[.slice (some ⟨b6, 0, none⟩) 14 14, .slice none 0 0, .slice none 0 0] 87) w2 fun b8 w3 =>
  diskm_New.L1 s5 b8 (0 : Int) w3  R
theorem diskm_New.B0_eq  (w : World)   (R : Option Addr → World → Prop) (sL1 : ByteArray → Nat → Int → World → Prop) :
    (
  Make 5 (.int .u8 (0 : Int)) 1 1 (64 : Int) (64 : Int) w fun b4 w1 =>
  ToStr (some ⟨b4, 0, none⟩) 64 w1 fun s5 =>
  Make 9 (.string (ByteArray.mk #[])) 1 16 (14 : Int) (14 : Int) w1 fun b6 w2 =>
  New (.cells #[.slice (some ⟨b6, 0, none⟩) 14 14, .slice none 0 0, .slice none 0 0] 87) w2 fun b8 w3 =>
  sL1 s5 b8 (0 : Int) w3) = kstep Try.prog 29 Try.f25.results.toList (Try.f25.body.getD .skip) (diskm_New.RV R) (kvc Try.prog 29 Try.f25.results.toList (Try.f25.body.getD .skip) (diskm_New.RV R) [([(0, [1, 1, 1, 0, 1, 0, 0]), (2, [1, 1, 1, 0, 1, 0, 0]), (1, [0]), (0, [1, 1, 1, 1])], fun σ w => dS (slotOf σ 1) fun z_ => dK (slotOf σ 2) fun d_ => dI .i64 (slotOf σ 3) fun b_ => sL1 z_ d_ b_ w)] 2000) [(0, [])] [] w := by kernel_rfl
theorem diskm_New.B0_sound {R : Option Addr → World → Prop}   (w : World) (h : diskm_New.B0  w   R) :
    KW Try.prog 25 29 (diskm_New.RV R) ([(0, [])].map (toItem (Try.f25.body.getD .skip))) [] w := by
  exact block_spec Try.func25 Try.mixed (stops_cons (fun σ w h => by
      obtain ⟨z_, e0, h⟩ := dS_elim h
      obtain ⟨d_, e1, h⟩ := dK_elim h
      obtain ⟨b_, e2, h⟩ := dI_elim h
      exact (diskm_New.L1_sound  z_ d_ b_ w h).weaken (Sub.cons (Sub.cons (Sub.cons (Sub.nil _) e2) e1) e0)) stops_nil) (Eq.mp (diskm_New.B0_eq  w   R (fun z_ d_ b_ w => diskm_New.L1 z_ d_ b_ w  R)) h)
theorem diskm_New.sound  (w : World) (R : Option Addr → World → Prop) (h : diskm_New.B0  w R) : diskm_New.Call  w R := by
  have hc := calls_of_block (args := #[]) Try.func25 (body := (Try.f25.body.getD .skip)) (by kernel_rfl) (by kernel_rfl) (args_slot _) (diskm_New.B0_sound  w h)
  exact hc.mono fun e w' he => by
    obtain ⟨v, rfl, hv⟩ := he
    exact diskm_New.RV_elim hv
def store_Open.B3 (t : Nat) (b : Int) (w : World) (N1 : Nat → Int → World → Prop)  (R : Option Addr → World → Prop) : Prop :=
  N1 t (IntKind.i64.wrap (b + (1 : Int))) w
theorem store_Open.B3_eq (t : Nat) (b : Int) (w : World) (N1 : Nat → Int → World → Prop)  (R : Option Addr → World → Prop)  :
    (
  N1 t (IntKind.i64.wrap (b + (1 : Int))) w) = kstep Try.prog 168 Try.f26.results.toList (Try.f26.body.getD .skip) (store_Open.RV R) (kvc Try.prog 168 Try.f26.results.toList (Try.f26.body.getD .skip) (store_Open.RV R) [([(0, [1, 1, 0, 1, 0, 0]), (2, [1, 1, 0, 1, 0, 0]), (1, [0]), (0, [1, 1, 1])], fun σ w => dK (slotOf σ 3) fun t_ => dI .i64 (slotOf σ 4) fun b_ => N1 t_ b_ w)] 2000) [(0, [1, 1, 0, 1, 0, 0, 1, 1]), (2, [1, 1, 0, 1, 0, 0]), (1, [0]), (0, [1, 1, 1])] [(3, .pointer (some ⟨t, 0, none⟩)), (4, .int .i64 b)] w := by kernel_rfl
theorem store_Open.B3_sound {R : Option Addr → World → Prop} {N1 : Nat → Int → World → Prop} (hN1 : ∀ t b w, N1 t b w → KW Try.prog 26 168 (store_Open.RV R) ([(0, [1, 1, 0, 1, 0, 0]), (2, [1, 1, 0, 1, 0, 0]), (1, [0]), (0, [1, 1, 1])].map (toItem (Try.f26.body.getD .skip))) [(3, .pointer (some ⟨t, 0, none⟩)), (4, .int .i64 b)] w) (t : Nat) (b : Int) (w : World) (h : store_Open.B3 t b w N1  R) :
    KW Try.prog 26 168 (store_Open.RV R) ([(0, [1, 1, 0, 1, 0, 0, 1, 1]), (2, [1, 1, 0, 1, 0, 0]), (1, [0]), (0, [1, 1, 1])].map (toItem (Try.f26.body.getD .skip))) [(3, .pointer (some ⟨t, 0, none⟩)), (4, .int .i64 b)] w := by
  exact block_spec Try.func26 Try.mixed (stops_cons (fun σ w h => by
      obtain ⟨t_, e0, h⟩ := dK_elim h
      obtain ⟨b_, e1, h⟩ := dI_elim h
      exact (hN1 t_ b_ w h).weaken (Sub.cons (Sub.cons (Sub.nil _) e1) e0)) stops_nil) (Eq.mp (store_Open.B3_eq t b w N1  R ) h)
def store_Open.B1 (t : Nat) (b : Int) (x : ByteArray) (t29 : Bool) (w : World) (N1 : Nat → Int → World → Prop)  (R : Option Addr → World → Prop) : Prop :=
  Bm t29 (
    (0 ≤ (63 : Int) ∧ (63 : Int) < ((x.size : Nat) : Int)) ∧
    (0 ≤ b ∧ b < ((14 : Nat) : Int)) ∧
    Sts [.int .u8 (byteAt x (63 : Int))] (Addr.add ⟨t, 1, none⟩ (b.toNat * 1)) 0 w.drew fun w1 =>
    store_Open.B3 t b w1 N1 R) (
    store_Open.B3 t b w N1 R)
theorem store_Open.B1_eq (t : Nat) (b : Int) (x : ByteArray) (t29 : Bool) (w : World) (N1 : Nat → Int → World → Prop)  (R : Option Addr → World → Prop) (sB3 : Nat → Int → World → Prop) :
    (
  Bm t29 (
    (0 ≤ (63 : Int) ∧ (63 : Int) < ((x.size : Nat) : Int)) ∧
    (0 ≤ b ∧ b < ((14 : Nat) : Int)) ∧
    Sts [.int .u8 (byteAt x (63 : Int))] (Addr.add ⟨t, 1, none⟩ (b.toNat * 1)) 0 w.drew fun w1 =>
    sB3 t b w1) (
    sB3 t b w)) = kstep Try.prog 168 Try.f26.results.toList (Try.f26.body.getD .skip) (store_Open.RV R) (kvc Try.prog 168 Try.f26.results.toList (Try.f26.body.getD .skip) (store_Open.RV R) [([(0, [1, 1, 0, 1, 0, 0, 1, 1]), (2, [1, 1, 0, 1, 0, 0]), (1, [0]), (0, [1, 1, 1])], fun σ w => dK (slotOf σ 3) fun t_ => dI .i64 (slotOf σ 4) fun b_ => sB3 t_ b_ w)] 2000) [(0, [1, 1, 0, 1, 0, 0, 1, 0, 0, 1, 1]), (1, [1]), (0, [1, 1, 0, 1, 0, 0, 1, 1]), (2, [1, 1, 0, 1, 0, 0]), (1, [0]), (0, [1, 1, 1])] [(3, .pointer (some ⟨t, 0, none⟩)), (4, .int .i64 b), (5, .string x), (29, .bool t29)] w := by kernel_rfl
theorem store_Open.B1_sound {R : Option Addr → World → Prop} {N1 : Nat → Int → World → Prop} (hN1 : ∀ t b w, N1 t b w → KW Try.prog 26 168 (store_Open.RV R) ([(0, [1, 1, 0, 1, 0, 0]), (2, [1, 1, 0, 1, 0, 0]), (1, [0]), (0, [1, 1, 1])].map (toItem (Try.f26.body.getD .skip))) [(3, .pointer (some ⟨t, 0, none⟩)), (4, .int .i64 b)] w) (t : Nat) (b : Int) (x : ByteArray) (t29 : Bool) (w : World) (h : store_Open.B1 t b x t29 w N1  R) :
    KW Try.prog 26 168 (store_Open.RV R) ([(0, [1, 1, 0, 1, 0, 0, 1, 0, 0, 1, 1]), (1, [1]), (0, [1, 1, 0, 1, 0, 0, 1, 1]), (2, [1, 1, 0, 1, 0, 0]), (1, [0]), (0, [1, 1, 1])].map (toItem (Try.f26.body.getD .skip))) [(3, .pointer (some ⟨t, 0, none⟩)), (4, .int .i64 b), (5, .string x), (29, .bool t29)] w := by
  exact block_spec Try.func26 Try.mixed (stops_cons (fun σ w h => by
      obtain ⟨t_, e0, h⟩ := dK_elim h
      obtain ⟨b_, e1, h⟩ := dI_elim h
      exact (store_Open.B3_sound hN1 t_ b_ w h).weaken (Sub.cons (Sub.cons (Sub.nil _) e1) e0)) stops_nil) (Eq.mp (store_Open.B1_eq t b x t29 w N1  R (fun t_ b_ w => store_Open.B3 t_ b_ w N1 R)) h)
def store_Open.L2b (t : Nat) (s : Int) (w : World)  (N2 : Nat → Int → World → Prop) (R : Option Addr → World → Prop) : Prop :=
  Bm (decide (s < (6 : Int))) (
    store_Store_read.Call (some ⟨t, 0, none⟩) (IntKind.i64.wrap ((8 : Int) + s)) w fun r151 w1 =>
    store_decRec.Call r151 w1.drew fun r158_0_0 r158_0_1 r158_0_2 r158_1 w2 =>
    (0 ≤ s ∧ s < ((6 : Nat) : Int)) ∧
    Sts [.int .i64 r158_0_0, .int .i64 r158_0_1, .string r158_0_2] (Addr.add ⟨t, 34, none⟩ (s.toNat * 3)) 0 w2 fun w3 =>
    (0 ≤ s ∧ s < ((6 : Nat) : Int)) ∧
    Sts [.bool r158_1] (Addr.add ⟨t, 28, none⟩ (s.toNat * 1)) 0 w3 fun w4 =>
    N2 t (IntKind.i64.wrap (s + (1 : Int))) w4) (
    R (some ⟨t, 0, none⟩) w)
theorem store_Open.L2b_eq (t : Nat) (s : Int) (w : World)  (N2 : Nat → Int → World → Prop) (R : Option Addr → World → Prop)  :
    (
  Bm (decide (s < (6 : Int))) (
    store_Store_read.Call (some ⟨t, 0, none⟩) (IntKind.i64.wrap ((8 : Int) + s)) w fun r151 w1 =>
    store_decRec.Call r151 w1.drew fun r158_0_0 r158_0_1 r158_0_2 r158_1 w2 =>
    (0 ≤ s ∧ s < ((6 : Nat) : Int)) ∧
    Sts [.int .i64 r158_0_0, .int .i64 r158_0_1, .string r158_0_2] (Addr.add ⟨t, 34, none⟩ (s.toNat * 3)) 0 w2 fun w3 =>
    (0 ≤ s ∧ s < ((6 : Nat) : Int)) ∧
    Sts [.bool r158_1] (Addr.add ⟨t, 28, none⟩ (s.toNat * 1)) 0 w3 fun w4 =>
    N2 t (IntKind.i64.wrap (s + (1 : Int))) w4) (
    R (some ⟨t, 0, none⟩) w)) = kstep Try.prog 168 Try.f26.results.toList (Try.f26.body.getD .skip) (store_Open.RV R) (kvc Try.prog 168 Try.f26.results.toList (Try.f26.body.getD .skip) (store_Open.RV R) [([(0, [1, 1, 1, 1, 1, 1, 1, 1, 1, 1, 1, 1, 1, 1, 1, 1, 1, 1, 0, 1, 0, 0]), (2, [1, 1, 1, 1, 1, 1, 1, 1, 1, 1, 1, 1, 1, 1, 1, 1, 1, 1, 0, 1, 0, 0]), (1, [2]), (0, [1, 1, 1, 1, 1, 1, 1, 1, 1, 1, 1, 1, 1, 1, 1, 1, 1, 1, 1])], fun σ w => dK (slotOf σ 3) fun t_ => dI .i64 (slotOf σ 12) fun s_ => N2 t_ s_ w)] 2000) [(0, [1, 1, 1, 1, 1, 1, 1, 1, 1, 1, 1, 1, 1, 1, 1, 1, 1, 1, 0, 1, 0, 0]), (2, [1, 1, 1, 1, 1, 1, 1, 1, 1, 1, 1, 1, 1, 1, 1, 1, 1, 1, 0, 1, 0, 0]), (1, [2]), (0, [1, 1, 1, 1, 1, 1, 1, 1, 1, 1, 1, 1, 1, 1, 1, 1, 1, 1, 1])] [(3, .pointer (some ⟨t, 0, none⟩)), (12, .int .i64 s)] w := by kernel_rfl
theorem store_Open.L2b_sound {R : Option Addr → World → Prop} {N2 : Nat → Int → World → Prop} (hN2 : ∀ t s w, N2 t s w → KW Try.prog 26 168 (store_Open.RV R) ([(0, [1, 1, 1, 1, 1, 1, 1, 1, 1, 1, 1, 1, 1, 1, 1, 1, 1, 1, 0, 1, 0, 0]), (2, [1, 1, 1, 1, 1, 1, 1, 1, 1, 1, 1, 1, 1, 1, 1, 1, 1, 1, 0, 1, 0, 0]), (1, [2]), (0, [1, 1, 1, 1, 1, 1, 1, 1, 1, 1, 1, 1, 1, 1, 1, 1, 1, 1, 1])].map (toItem (Try.f26.body.getD .skip))) [(3, .pointer (some ⟨t, 0, none⟩)), (12, .int .i64 s)] w) (t : Nat) (s : Int) (w : World) (h : store_Open.L2b t s w  N2 R) :
    KW Try.prog 26 168 (store_Open.RV R) ([(0, [1, 1, 1, 1, 1, 1, 1, 1, 1, 1, 1, 1, 1, 1, 1, 1, 1, 1, 0, 1, 0, 0]), (2, [1, 1, 1, 1, 1, 1, 1, 1, 1, 1, 1, 1, 1, 1, 1, 1, 1, 1, 0, 1, 0, 0]), (1, [2]), (0, [1, 1, 1, 1, 1, 1, 1, 1, 1, 1, 1, 1, 1, 1, 1, 1, 1, 1, 1])].map (toItem (Try.f26.body.getD .skip))) [(3, .pointer (some ⟨t, 0, none⟩)), (12, .int .i64 s)] w := by
  exact block_spec Try.func26 Try.mixed (stops_cons (fun σ w h => by
      obtain ⟨t_, e0, h⟩ := dK_elim h
      obtain ⟨s_, e1, h⟩ := dI_elim h
      exact (hN2 t_ s_ w h).weaken (Sub.cons (Sub.cons (Sub.nil _) e1) e0)) stops_nil) (Eq.mp (store_Open.L2b_eq t s w  N2 R ) h)
def store_Open.L2 (t : Nat) (s : Int) (w : World)  (R : Option Addr → World → Prop) : Prop :=
  ∃ (I : Nat → Nat → Int → World → Prop) (m : Nat), I m t s w ∧ ∀ m t s w, I m t s w → store_Open.L2b t s w  (fun t' s' w' => ∃ m', m' < m ∧ I m' t' s' w') R
theorem store_Open.L2_sound {R : Option Addr → World → Prop}  (t : Nat) (s : Int) (w : World) (h : store_Open.L2 t s w  R) :
    KW Try.prog 26 168 (store_Open.RV R) ([(0, [1, 1, 1, 1, 1, 1, 1, 1, 1, 1, 1, 1, 1, 1, 1, 1, 1, 1, 0, 1, 0, 0]), (2, [1, 1, 1, 1, 1, 1, 1, 1, 1, 1, 1, 1, 1, 1, 1, 1, 1, 1, 0, 1, 0, 0]), (1, [2]), (0, [1, 1, 1, 1, 1, 1, 1, 1, 1, 1, 1, 1, 1, 1, 1, 1, 1, 1, 1])].map (toItem (Try.f26.body.getD .skip))) [(3, .pointer (some ⟨t, 0, none⟩)), (12, .int .i64 s)] w := by
  obtain ⟨I, m, hBase, hr⟩ := h
  refine KW.loop (fun m σ w => ∃ (t : Nat) (s : Int), σ = [(3, .pointer (some ⟨t, 0, none⟩)), (12, .int .i64 s)] ∧ I m t s w) ?_ m _ w ⟨t, s, rfl, hBase⟩
  rintro m ih σ w ⟨t, s, rfl, hI⟩
  exact store_Open.L2b_sound  (N2 := fun t' s' w' => ∃ m', m' < m ∧ I m' t' s' w') (fun t' s' w' hx => by obtain ⟨m', hlt, hI'⟩ := hx; exact ih m' hlt _ w' ⟨t', s', rfl, hI'⟩) t s w (hr m t s w hI)
def store_Open.B8 (t : Nat) (w : World)   (R : Option Addr → World → Prop) : Prop :=
  LdI .i64 ⟨t, 24, none⟩ w.drew fun x135 =>
  LdI .i64 ⟨t, 25, none⟩ w.drew fun x140 =>
  store_Store_area.Call (some ⟨t, 0, none⟩) x135 x140 w.drew fun r141 w1 =>
  Sts [.string r141] ⟨t, 27, none⟩ 0 w1 fun w2 =>
  store_Open.L2 t (0 : Int) w2  R
theorem store_Open.B8_eq (t : Nat) (w : World)   (R : Option Addr → World → Prop) (sL2 : Nat → Int → World → Prop) :
    (
  LdI .i64 ⟨t, 24, none⟩ w.drew fun x135 =>
  LdI .i64 ⟨t, 25, none⟩ w.drew fun x140 =>
  store_Store_area.Call (some ⟨t, 0, none⟩) x135 x140 w.drew fun r141 w1 =>
  Sts [.string r141] ⟨t, 27, none⟩ 0 w1 fun w2 =>
  sL2 t (0 : Int) w2) = kstep Try.prog 168 Try.f26.results.toList (Try.f26.body.getD .skip) (store_Open.RV R) (kvc Try.prog 168 Try.f26.results.toList (Try.f26.body.getD .skip) (store_Open.RV R) [([(0, [1, 1, 1, 1, 1, 1, 1, 1, 1, 1, 1, 1, 1, 1, 1, 1, 1, 1, 0, 1, 0, 0]), (2, [1, 1, 1, 1, 1, 1, 1, 1, 1, 1, 1, 1, 1, 1, 1, 1, 1, 1, 0, 1, 0, 0]), (1, [2]), (0, [1, 1, 1, 1, 1, 1, 1, 1, 1, 1, 1, 1, 1, 1, 1, 1, 1, 1, 1])], fun σ w => dK (slotOf σ 3) fun t_ => dI .i64 (slotOf σ 12) fun s_ => sL2 t_ s_ w)] 2000) [(0, [1, 1, 1, 1, 1, 1, 1, 1, 1, 1, 1, 1, 1, 1, 1, 1, 1])] [(3, .pointer (some ⟨t, 0, none⟩))] w := by kernel_rfl
theorem store_Open.B8_sound {R : Option Addr → World → Prop}  (t : Nat) (w : World) (h : store_Open.B8 t w   R) :
    KW Try.prog 26 168 (store_Open.RV R) ([(0, [1, 1, 1, 1, 1, 1, 1, 1, 1, 1, 1, 1, 1, 1, 1, 1, 1])].map (toItem (Try.f26.body.getD .skip))) [(3, .pointer (some ⟨t, 0, none⟩))] w := by
  exact block_spec Try.func26 Try.mixed (stops_cons (fun σ w h => by
      obtain ⟨t_, e0, h⟩ := dK_elim h
      obtain ⟨s_, e1, h⟩ := dI_elim h
      exact (store_Open.L2_sound  t_ s_ w h).weaken (Sub.cons (Sub.cons (Sub.nil _) e1) e0)) stops_nil) (Eq.mp (store_Open.B8_eq t w   R (fun t_ s_ w => store_Open.L2 t_ s_ w  R)) h)
def store_Open.B7 (t : Nat) (w : World)   (R : Option Addr → World → Prop) : Prop :=
  LdB ⟨t, 20, none⟩ w fun x123 =>
  Bm (!x123) (
    Sts [.int .i64 (1 : Int)] ⟨t, 24, none⟩ 0 w fun w1 =>
    store_Open.B8 t w1  R) (
    store_Open.B8 t w  R)
theorem store_Open.B7_eq (t : Nat) (w : World)   (R : Option Addr → World → Prop) (sB8 : Nat → World → Prop) :
    (
  LdB ⟨t, 20, none⟩ w fun x123 =>
  Bm (!x123) (
    Sts [.int .i64 (1 : Int)] ⟨t, 24, none⟩ 0 w fun w1 =>
    sB8 t w1) (
    sB8 t w)) = kstep Try.prog 168 Try.f26.results.toList (Try.f26.body.getD .skip) (store_Open.RV R) (kvc Try.prog 168 Try.f26.results.toList (Try.f26.body.getD .skip) (store_Open.RV R) [([(0, [1, 1, 1, 1, 1, 1, 1, 1, 1, 1, 1, 1, 1, 1, 1, 1, 1])], fun σ w => dK (slotOf σ 3) fun t_ => sB8 t_ w)] 2000) [(0, [1, 1, 1, 1, 1, 1, 1, 1, 1, 1, 1, 1, 1, 1, 1, 1])] [(3, .pointer (some ⟨t, 0, none⟩))] w := by kernel_rfl
theorem store_Open.B7_sound {R : Option Addr → World → Prop}  (t : Nat) (w : World) (h : store_Open.B7 t w   R) :
    KW Try.prog 26 168 (store_Open.RV R) ([(0, [1, 1, 1, 1, 1, 1, 1, 1, 1, 1, 1, 1, 1, 1, 1, 1])].map (toItem (Try.f26.body.getD .skip))) [(3, .pointer (some ⟨t, 0, none⟩))] w := by
  exact block_spec Try.func26 Try.mixed (stops_cons (fun σ w h => by
      obtain ⟨t_, e0, h⟩ := dK_elim h
      exact (store_Open.B8_sound  t_ w h).weaken (Sub.cons (Sub.nil _) e0)) stops_nil) (Eq.mp (store_Open.B7_eq t w   R (fun t_ w => store_Open.B8 t_ w  R)) h)
def store_Open.B6 (t h0 : Nat) (t111 : Bool) (w : World)   (R : Option Addr → World → Prop) : Prop :=
  Bm t111 (
    LdB ⟨h0, 0, none⟩ w fun x114_0 =>
    LdI .i64 ⟨h0, 1, none⟩ w fun x114_1 =>
    LdI .i64 ⟨h0, 2, none⟩ w fun x114_2 =>
    LdI .i64 ⟨h0, 3, none⟩ w fun x114_3 =>
    LdI .i64 ⟨h0, 4, none⟩ w fun x114_4 =>
    LdI .i64 ⟨h0, 5, none⟩ w fun x114_5 =>
    Sts [.bool x114_0, .int .i64 x114_1, .int .i64 x114_2, .int .i64 x114_3, .int .i64 x114_4, .int .i64 x114_5] ⟨t, 20, none⟩ 0 w fun w1 =>
    Sts [.int .i64 (0 : Int)] ⟨t, 26, none⟩ 0 w1 fun w2 =>
    store_Open.B7 t w2  R) (
    store_Open.B7 t w  R)
theorem store_Open.B6_eq (t h0 : Nat) (t111 : Bool) (w : World)   (R : Option Addr → World → Prop) (sB7 : Nat → World → Prop) :
    (
  Bm t111 (
    LdB ⟨h0, 0, none⟩ w fun x114_0 =>
    LdI .i64 ⟨h0, 1, none⟩ w fun x114_1 =>
    LdI .i64 ⟨h0, 2, none⟩ w fun x114_2 =>
    LdI .i64 ⟨h0, 3, none⟩ w fun x114_3 =>
    LdI .i64 ⟨h0, 4, none⟩ w fun x114_4 =>
    LdI .i64 ⟨h0, 5, none⟩ w fun x114_5 =>
    Sts [.bool x114_0, .int .i64 x114_1, .int .i64 x114_2, .int .i64 x114_3, .int .i64 x114_4, .int .i64 x114_5] ⟨t, 20, none⟩ 0 w fun w1 =>
    Sts [.int .i64 (0 : Int)] ⟨t, 26, none⟩ 0 w1 fun w2 =>
    sB7 t w2) (
    sB7 t w)) = kstep Try.prog 168 Try.f26.results.toList (Try.f26.body.getD .skip) (store_Open.RV R) (kvc Try.prog 168 Try.f26.results.toList (Try.f26.body.getD .skip) (store_Open.RV R) [([(0, [1, 1, 1, 1, 1, 1, 1, 1, 1, 1, 1, 1, 1, 1, 1, 1])], fun σ w => dK (slotOf σ 3) fun t_ => sB7 t_ w)] 2000) [(0, [1, 1, 1, 1, 1, 1, 1, 1, 1, 1, 1, 1, 1, 1, 1, 0, 1]), (0, [1, 1, 1, 1, 1, 1, 1, 1, 1, 1, 1, 1, 1, 1, 1, 1])] [(3, .pointer (some ⟨t, 0, none⟩)), (10, .pointer (some ⟨h0, 0, none⟩)), (111, .bool t111)] w := by kernel_rfl
theorem store_Open.B6_sound {R : Option Addr → World → Prop}  (t h0 : Nat) (t111 : Bool) (w : World) (h : store_Open.B6 t h0 t111 w   R) :
    KW Try.prog 26 168 (store_Open.RV R) ([(0, [1, 1, 1, 1, 1, 1, 1, 1, 1, 1, 1, 1, 1, 1, 1, 0, 1]), (0, [1, 1, 1, 1, 1, 1, 1, 1, 1, 1, 1, 1, 1, 1, 1, 1])].map (toItem (Try.f26.body.getD .skip))) [(3, .pointer (some ⟨t, 0, none⟩)), (10, .pointer (some ⟨h0, 0, none⟩)), (111, .bool t111)] w := by
  exact block_spec Try.func26 Try.mixed (stops_cons (fun σ w h => by
      obtain ⟨t_, e0, h⟩ := dK_elim h
      exact (store_Open.B7_sound  t_ w h).weaken (Sub.cons (Sub.nil _) e0)) stops_nil) (Eq.mp (store_Open.B6_eq t h0 t111 w   R (fun t_ w => store_Open.B7 t_ w  R)) h)
def store_Open.B5 (t : Nat) (w : World)   (R : Option Addr → World → Prop) : Prop :=
  store_Store_read.Call (some ⟨t, 0, none⟩) (2 : Int) w fun r84 w1 =>
  store_Store_read.Call (some ⟨t, 0, none⟩) (3 : Int) w1 fun r86 w2 =>
  store_decHead.Call r84 w2 fun r88_0 r88_1 r88_2 r88_3 r88_4 r88_5 w3 =>
  New (.cells #[.bool false, .int .i64 (0 : Int), .int .i64 (0 : Int), .int .i64 (0 : Int), .int .i64 (0 : Int), .int .i64 (0 : Int)] 93) w3 fun h0_ w4 =>
  Sts [.bool r88_0, .int .i64 r88_1, .int .i64 r88_2, .int .i64 r88_3, .int .i64 r88_4, .int .i64 r88_5] ⟨h0_, 0, none⟩ 0 w4 fun w5 =>
  store_decHead.Call r86 w5 fun r90_0 r90_1 r90_2 r90_3 r90_4 r90_5 w6 =>
  New (.cells #[.bool false, .int .i64 (0 : Int), .int .i64 (0 : Int), .int .i64 (0 : Int), .int .i64 (0 : Int), .int .i64 (0 : Int)] 93) w6 fun h1_ w7 =>
  Sts [.bool r90_0, .int .i64 r90_1, .int .i64 r90_2, .int .i64 r90_3, .int .i64 r90_4, .int .i64 r90_5] ⟨h1_, 0, none⟩ 0 w7 fun w8 =>
  LdB ⟨h1_, 0, none⟩ w8 fun x93_0 =>
  LdI .i64 ⟨h1_, 1, none⟩ w8 fun x93_1 =>
  LdI .i64 ⟨h1_, 2, none⟩ w8 fun x93_2 =>
  LdI .i64 ⟨h1_, 3, none⟩ w8 fun x93_3 =>
  LdI .i64 ⟨h1_, 4, none⟩ w8 fun x93_4 =>
  LdI .i64 ⟨h1_, 5, none⟩ w8 fun x93_5 =>
  Sts [.bool x93_0, .int .i64 x93_1, .int .i64 x93_2, .int .i64 x93_3, .int .i64 x93_4, .int .i64 x93_5] ⟨t, 20, none⟩ 0 w8 fun w9 =>
  Sts [.int .i64 (1 : Int)] ⟨t, 26, none⟩ 0 w9 fun w10 =>
  LdB ⟨h0_, 0, none⟩ w10 fun x99 =>
  Bm x99 (
    LdB ⟨h1_, 0, none⟩ w10 fun x102 =>
    Bm (!x102) (
      store_Open.B6 t h0_ true w10  R) (
      LdI .i64 ⟨h0_, 1, none⟩ w10 fun x106 =>
      LdI .i64 ⟨h1_, 1, none⟩ w10 fun x108 =>
      store_Open.B6 t h0_ (decide (x106 > x108)) w10  R)) (
    store_Open.B6 t h0_ false w10  R)
theorem store_Open.B5_eq (t : Nat) (w : World)   (R : Option Addr → World → Prop) (sB6 : Nat → Nat → Bool → World → Prop) :
    (
  store_Store_read.Call (some ⟨t, 0, none⟩) (2 : Int) w fun r84 w1 =>
  store_Store_read.Call (some ⟨t, 0, none⟩) (3 : Int) w1 fun r86 w2 =>
  store_decHead.Call r84 w2 fun r88_0 r88_1 r88_2 r88_3 r88_4 r88_5 w3 =>
  New (.cells #[.bool false, .int .i64 (0 : Int), .int .i64 (0 : Int), .int .i64 (0 : Int), .int .i64 (0 : Int), .int .i64 (0 : Int)] 93) w3 fun h0_ w4 =>
  Sts [.bool r88_0, .int .i64 r88_1, .int .i64 r88_2, .int .i64 r88_3, .int .i64 r88_4, .int .i64 r88_5] ⟨h0_, 0, none⟩ 0 w4 fun w5 =>
  store_decHead.Call r86 w5 fun r90_0 r90_1 r90_2 r90_3 r90_4 r90_5 w6 =>
  New (.cells #[.bool false, .int .i64 (0 : Int), .int .i64 (0 : Int), .int .i64 (0 : Int), .int .i64 (0 : Int), .int .i64 (0 : Int)] 93) w6 fun h1_ w7 =>
  Sts [.bool r90_0, .int .i64 r90_1, .int .i64 r90_2, .int .i64 r90_3, .int .i64 r90_4, .int .i64 r90_5] ⟨h1_, 0, none⟩ 0 w7 fun w8 =>
  LdB ⟨h1_, 0, none⟩ w8 fun x93_0 =>
  LdI .i64 ⟨h1_, 1, none⟩ w8 fun x93_1 =>
  LdI .i64 ⟨h1_, 2, none⟩ w8 fun x93_2 =>
  LdI .i64 ⟨h1_, 3, none⟩ w8 fun x93_3 =>
  LdI .i64 ⟨h1_, 4, none⟩ w8 fun x93_4 =>
  LdI .i64 ⟨h1_, 5, none⟩ w8 fun x93_5 =>
  Sts [.bool x93_0, .int .i64 x93_1, .int .i64 x93_2, .int .i64 x93_3, .int .i64 x93_4, .int .i64 x93_5] ⟨t, 20, none⟩ 0 w8 fun w9 =>
  Sts [.int .i64 (1 : Int)] ⟨t, 26, none⟩ 0 w9 fun w10 =>
  LdB ⟨h0_, 0, none⟩ w10 fun x99 =>
  Bm x99 (
    LdB ⟨h1_, 0, none⟩ w10 fun x102 =>
    Bm (!x102) (
      sB6 t h0_ true w10) (
      LdI .i64 ⟨h0_, 1, none⟩ w10 fun x106 =>
      LdI .i64 ⟨h1_, 1, none⟩ w10 fun x108 =>
      sB6 t h0_ (decide (x106 > x108)) w10)) (
    sB6 t h0_ false w10)) = kstep Try.prog 168 Try.f26.results.toList (Try.f26.body.getD .skip) (store_Open.RV R) (kvc Try.prog 168 Try.f26.results.toList (Try.f26.body.getD .skip) (store_Open.RV R) [([(0, [1, 1, 1, 1, 1, 1, 1, 1, 1, 1, 1, 1, 1, 1, 1, 0, 1]), (0, [1, 1, 1, 1, 1, 1, 1, 1, 1, 1, 1, 1, 1, 1, 1, 1])], fun σ w => dK (slotOf σ 3) fun t_ => dK (slotOf σ 10) fun h0_ => dB (slotOf σ 111) fun t111_ => sB6 t_ h0_ t111_ w)] 2000) [(0, [1, 1, 1, 1, 1, 1, 1, 1, 1, 1])] [(3, .pointer (some ⟨t, 0, none⟩))] w := by kernel_rfl
theorem store_Open.B5_sound {R : Option Addr → World → Prop}  (t : Nat) (w : World) (h : store_Open.B5 t w   R) :
    KW Try.prog 26 168 (store_Open.RV R) ([(0, [1, 1, 1, 1, 1, 1, 1, 1, 1, 1])].map (toItem (Try.f26.body.getD .skip))) [(3, .pointer (some ⟨t, 0, none⟩))] w := by
  exact block_spec Try.func26 Try.mixed (stops_cons (fun σ w h => by
      obtain ⟨t_, e0, h⟩ := dK_elim h
      obtain ⟨h0_, e1, h⟩ := dK_elim h
      obtain ⟨t111_, e2, h⟩ := dB_elim h
      exact (store_Open.B6_sound  t_ h0_ t111_ w h).weaken (Sub.cons (Sub.cons (Sub.cons (Sub.nil _) e2) e1) e0)) stops_nil) (Eq.mp (store_Open.B5_eq t w   R (fun t_ h0_ t111_ w => store_Open.B6 t_ h0_ t111_ w  R)) h)
def store_Open.B4 (t : Nat) (w : World)   (R : Option Addr → World → Prop) : Prop :=
  LdB ⟨t, 15, none⟩ w fun x77 =>
  Bm (!x77) (
    Sts [.int .i64 (-1 : Int)] ⟨t, 18, none⟩ 0 w fun w1 =>
    store_Open.B5 t w1  R) (
    store_Open.B5 t w  R)
theorem store_Open.B4_eq (t : Nat) (w : World)   (R : Option Addr → World → Prop) (sB5 : Nat → World → Prop) :
    (
  LdB ⟨t, 15, none⟩ w fun x77 =>
  Bm (!x77) (
    Sts [.int .i64 (-1 : Int)] ⟨t, 18, none⟩ 0 w fun w1 =>
    sB5 t w1) (
    sB5 t w)) = kstep Try.prog 168 Try.f26.results.toList (Try.f26.body.getD .skip) (store_Open.RV R) (kvc Try.prog 168 Try.f26.results.toList (Try.f26.body.getD .skip) (store_Open.RV R) [([(0, [1, 1, 1, 1, 1, 1, 1, 1, 1, 1])], fun σ w => dK (slotOf σ 3) fun t_ => sB5 t_ w)] 2000) [(0, [1, 1, 1, 1, 1, 1, 1, 1, 1])] [(3, .pointer (some ⟨t, 0, none⟩))] w := by kernel_rfl
theorem store_Open.B4_sound {R : Option Addr → World → Prop}  (t : Nat) (w : World) (h : store_Open.B4 t w   R) :
    KW Try.prog 26 168 (store_Open.RV R) ([(0, [1, 1, 1, 1, 1, 1, 1, 1, 1])].map (toItem (Try.f26.body.getD .skip))) [(3, .pointer (some ⟨t, 0, none⟩))] w := by
  exact block_spec Try.func26 Try.mixed (stops_cons (fun σ w h => by
      obtain ⟨t_, e0, h⟩ := dK_elim h
      exact (store_Open.B5_sound  t_ w h).weaken (Sub.cons (Sub.nil _) e0)) stops_nil) (Eq.mp (store_Open.B4_eq t w   R (fun t_ w => store_Open.B5 t_ w  R)) h)
def store_Open.B2 (t m0 : Nat) (t65 : Bool) (w : World)   (R : Option Addr → World → Prop) : Prop :=
  Bm t65 (
    LdB ⟨m0, 0, none⟩ w fun x68_0 =>
    LdI .i64 ⟨m0, 1, none⟩ w fun x68_1 =>
    LdI .i64 ⟨m0, 2, none⟩ w fun x68_2 =>
    LdI .i64 ⟨m0, 3, none⟩ w fun x68_3 =>
    Sts [.bool x68_0, .int .i64 x68_1, .int .i64 x68_2, .int .i64 x68_3] ⟨t, 15, none⟩ 0 w fun w1 =>
    Sts [.int .i64 (0 : Int)] ⟨t, 19, none⟩ 0 w1 fun w2 =>
    store_Open.B4 t w2  R) (
    store_Open.B4 t w  R)
theorem store_Open.B2_eq (t m0 : Nat) (t65 : Bool) (w : World)   (R : Option Addr → World → Prop) (sB4 : Nat → World → Prop) :
    (
  Bm t65 (
    LdB ⟨m0, 0, none⟩ w fun x68_0 =>
    LdI .i64 ⟨m0, 1, none⟩ w fun x68_1 =>
    LdI .i64 ⟨m0, 2, none⟩ w fun x68_2 =>
    LdI .i64 ⟨m0, 3, none⟩ w fun x68_3 =>
    Sts [.bool x68_0, .int .i64 x68_1, .int .i64 x68_2, .int .i64 x68_3] ⟨t, 15, none⟩ 0 w fun w1 =>
    Sts [.int .i64 (0 : Int)] ⟨t, 19, none⟩ 0 w1 fun w2 =>
    sB4 t w2) (
    sB4 t w)) = kstep Try.prog 168 Try.f26.results.toList (Try.f26.body.getD .skip) (store_Open.RV R) (kvc Try.prog 168 Try.f26.results.toList (Try.f26.body.getD .skip) (store_Open.RV R) [([(0, [1, 1, 1, 1, 1, 1, 1, 1, 1])], fun σ w => dK (slotOf σ 3) fun t_ => sB4 t_ w)] 2000) [(0, [1, 1, 1, 1, 1, 1, 1, 1, 0, 1]), (0, [1, 1, 1, 1, 1, 1, 1, 1, 1])] [(3, .pointer (some ⟨t, 0, none⟩)), (8, .pointer (some ⟨m0, 0, none⟩)), (65, .bool t65)] w := by kernel_rfl
theorem store_Open.B2_sound {R : Option Addr → World → Prop}  (t m0 : Nat) (t65 : Bool) (w : World) (h : store_Open.B2 t m0 t65 w   R) :
    KW Try.prog 26 168 (store_Open.RV R) ([(0, [1, 1, 1, 1, 1, 1, 1, 1, 0, 1]), (0, [1, 1, 1, 1, 1, 1, 1, 1, 1])].map (toItem (Try.f26.body.getD .skip))) [(3, .pointer (some ⟨t, 0, none⟩)), (8, .pointer (some ⟨m0, 0, none⟩)), (65, .bool t65)] w := by
  exact block_spec Try.func26 Try.mixed (stops_cons (fun σ w h => by
      obtain ⟨t_, e0, h⟩ := dK_elim h
      exact (store_Open.B4_sound  t_ w h).weaken (Sub.cons (Sub.nil _) e0)) stops_nil) (Eq.mp (store_Open.B2_eq t m0 t65 w   R (fun t_ w => store_Open.B4 t_ w  R)) h)
def store_Open.L1b (t : Nat) (b : Int) (w : World)  (N1 : Nat → Int → World → Prop) (R : Option Addr → World → Prop) : Prop :=
  Bm (decide (b < (14 : Int))) (
    store_Store_read.Call (some ⟨t, 0, none⟩) b w fun r23 w1 =>
    Bm (decide (b < (4 : Int))) (
      store_Open.B1 t b r23 true w1 N1 R) (
      store_Open.B1 t b r23 (decide (b ≥ (8 : Int))) w1 N1 R)) (
    store_Store_read.Call (some ⟨t, 0, none⟩) (0 : Int) w fun r38 w2 =>
    store_Store_read.Call (some ⟨t, 0, none⟩) (1 : Int) w2 fun r40 w3 =>
    store_decMeta.Call r38 w3 fun r42_0 r42_1 r42_2 r42_3 w4 =>
    New (.cells #[.bool false, .int .i64 (0 : Int), .int .i64 (0 : Int), .int .i64 (0 : Int)] 91) w4 fun m0_ w5 =>
    Sts [.bool r42_0, .int .i64 r42_1, .int .i64 r42_2, .int .i64 r42_3] ⟨m0_, 0, none⟩ 0 w5 fun w6 =>
    store_decMeta.Call r40 w6 fun r44_0 r44_1 r44_2 r44_3 w7 =>
    New (.cells #[.bool false, .int .i64 (0 : Int), .int .i64 (0 : Int), .int .i64 (0 : Int)] 91) w7 fun m1_ w8 =>
    Sts [.bool r44_0, .int .i64 r44_1, .int .i64 r44_2, .int .i64 r44_3] ⟨m1_, 0, none⟩ 0 w8 fun w9 =>
    LdB ⟨m1_, 0, none⟩ w9 fun x47_0 =>
    LdI .i64 ⟨m1_, 1, none⟩ w9 fun x47_1 =>
    LdI .i64 ⟨m1_, 2, none⟩ w9 fun x47_2 =>
    LdI .i64 ⟨m1_, 3, none⟩ w9 fun x47_3 =>
    Sts [.bool x47_0, .int .i64 x47_1, .int .i64 x47_2, .int .i64 x47_3] ⟨t, 15, none⟩ 0 w9 fun w10 =>
    Sts [.int .i64 (1 : Int)] ⟨t, 19, none⟩ 0 w10 fun w11 =>
    LdB ⟨m0_, 0, none⟩ w11 fun x53 =>
    Bm x53 (
      LdB ⟨m1_, 0, none⟩ w11 fun x56 =>
      Bm (!x56) (
        store_Open.B2 t m0_ true w11  R) (
        LdI .i64 ⟨m0_, 1, none⟩ w11 fun x60 =>
        LdI .i64 ⟨m1_, 1, none⟩ w11 fun x62 =>
        store_Open.B2 t m0_ (decide (x60 > x62)) w11  R)) (
      store_Open.B2 t m0_ false w11  R))
theorem store_Open.L1b_eq (t : Nat) (b : Int) (w : World)  (N1 : Nat → Int → World → Prop) (R : Option Addr → World → Prop) (sB1 : Nat → Int → ByteArray → Bool → World → Prop) (sB2 : Nat → Nat → Bool → World → Prop) :
    (
  Bm (decide (b < (14 : Int))) (
    store_Store_read.Call (some ⟨t, 0, none⟩) b w fun r23 w1 =>
    Bm (decide (b < (4 : Int))) (
      sB1 t b r23 true w1) (
      sB1 t b r23 (decide (b ≥ (8 : Int))) w1)) (
    store_Store_read.Call (some ⟨t, 0, none⟩) (0 : Int) w fun r38 w2 =>
    store_Store_read.Call (some ⟨t, 0, none⟩) (1 : Int) w2 fun r40 w3 =>
    store_decMeta.Call r38 w3 fun r42_0 r42_1 r42_2 r42_3 w4 =>
    New (.cells #[.bool false, .int .i64 (0 : Int), .int .i64 (0 : Int), .int .i64 (0 : Int)] 91) w4 fun m0_ w5 =>
    Sts [.bool r42_0, .int .i64 r42_1, .int .i64 r42_2, .int .i64 r42_3] ⟨m0_, 0, none⟩ 0 w5 fun w6 =>
    store_decMeta.Call r40 w6 fun r44_0 r44_1 r44_2 r44_3 w7 =>
    New (.cells #[.bool false, .int .i64 (0 : Int), .int .i64 (0 : Int), .int .i64 (0 : Int)] 91) w7 fun m1_ w8 =>
    Sts [.bool r44_0, .int .i64 r44_1, .int .i64 r44_2, .int .i64 r44_3] ⟨m1_, 0, none⟩ 0 w8 fun w9 =>
    LdB ⟨m1_, 0, none⟩ w9 fun x47_0 =>
    LdI .i64 ⟨m1_, 1, none⟩ w9 fun x47_1 =>
    LdI .i64 ⟨m1_, 2, none⟩ w9 fun x47_2 =>
    LdI .i64 ⟨m1_, 3, none⟩ w9 fun x47_3 =>
    Sts [.bool x47_0, .int .i64 x47_1, .int .i64 x47_2, .int .i64 x47_3] ⟨t, 15, none⟩ 0 w9 fun w10 =>
    Sts [.int .i64 (1 : Int)] ⟨t, 19, none⟩ 0 w10 fun w11 =>
    LdB ⟨m0_, 0, none⟩ w11 fun x53 =>
    Bm x53 (
      LdB ⟨m1_, 0, none⟩ w11 fun x56 =>
      Bm (!x56) (
        sB2 t m0_ true w11) (
        LdI .i64 ⟨m0_, 1, none⟩ w11 fun x60 =>
        LdI .i64 ⟨m1_, 1, none⟩ w11 fun x62 =>
        sB2 t m0_ (decide (x60 > x62)) w11)) (
      sB2 t m0_ false w11))) = kstep Try.prog 168 Try.f26.results.toList (Try.f26.body.getD .skip) (store_Open.RV R) (kvc Try.prog 168 Try.f26.results.toList (Try.f26.body.getD .skip) (store_Open.RV R) [([(0, [1, 1, 0, 1, 0, 0, 1, 0, 0, 1, 1]), (1, [1]), (0, [1, 1, 0, 1, 0, 0, 1, 1]), (2, [1, 1, 0, 1, 0, 0]), (1, [0]), (0, [1, 1, 1])], fun σ w => dK (slotOf σ 3) fun t_ => dI .i64 (slotOf σ 4) fun b_ => dS (slotOf σ 5) fun x_ => dB (slotOf σ 29) fun t29_ => sB1 t_ b_ x_ t29_ w),
    ([(0, [1, 1, 1, 1, 1, 1, 1, 1, 0, 1]), (0, [1, 1, 1, 1, 1, 1, 1, 1, 1])], fun σ w => dK (slotOf σ 3) fun t_ => dK (slotOf σ 8) fun m0_ => dB (slotOf σ 65) fun t65_ => sB2 t_ m0_ t65_ w)] 2000) [(0, [1, 1, 0, 1, 0, 0]), (2, [1, 1, 0, 1, 0, 0]), (1, [0]), (0, [1, 1, 1])] [(3, .pointer (some ⟨t, 0, none⟩)), (4, .int .i64 b)] w := by kernel_rfl
theorem store_Open.L1b_sound {R : Option Addr → World → Prop} {N1 : Nat → Int → World → Prop} (hN1 : ∀ t b w, N1 t b w → KW Try.prog 26 168 (store_Open.RV R) ([(0, [1, 1, 0, 1, 0, 0]), (2, [1, 1, 0, 1, 0, 0]), (1, [0]), (0, [1, 1, 1])].map (toItem (Try.f26.body.getD .skip))) [(3, .pointer (some ⟨t, 0, none⟩)), (4, .int .i64 b)] w) (t : Nat) (b : Int) (w : World) (h : store_Open.L1b t b w  N1 R) :
    KW Try.prog 26 168 (store_Open.RV R) ([(0, [1, 1, 0, 1, 0, 0]), (2, [1, 1, 0, 1, 0, 0]), (1, [0]), (0, [1, 1, 1])].map (toItem (Try.f26.body.getD .skip))) [(3, .pointer (some ⟨t, 0, none⟩)), (4, .int .i64 b)] w := by
  exact block_spec Try.func26 Try.mixed (stops_cons (fun σ w h => by
      obtain ⟨t_, e0, h⟩ := dK_elim h
      obtain ⟨b_, e1, h⟩ := dI_elim h
      obtain ⟨x_, e2, h⟩ := dS_elim h
      obtain ⟨t29_, e3, h⟩ := dB_elim h
      exact (store_Open.B1_sound hN1 t_ b_ x_ t29_ w h).weaken (Sub.cons (Sub.cons (Sub.cons (Sub.cons (Sub.nil _) e3) e2) e1) e0)) (stops_cons (fun σ w h => by
      obtain ⟨t_, e0, h⟩ := dK_elim h
      obtain ⟨m0_, e1, h⟩ := dK_elim h
      obtain ⟨t65_, e2, h⟩ := dB_elim h
      exact (store_Open.B2_sound  t_ m0_ t65_ w h).weaken (Sub.cons (Sub.cons (Sub.cons (Sub.nil _) e2) e1) e0)) stops_nil)) (Eq.mp (store_Open.L1b_eq t b w  N1 R (fun t_ b_ x_ t29_ w => store_Open.B1 t_ b_ x_ t29_ w N1 R) (fun t_ m0_ t65_ w => store_Open.B2 t_ m0_ t65_ w  R)) h)
def store_Open.L1 (t : Nat) (b : Int) (w : World)  (R : Option Addr → World → Prop) : Prop :=
  ∃ (I : Nat → Nat → Int → World → Prop) (m : Nat), I m t b w ∧ ∀ m t b w, I m t b w → store_Open.L1b t b w  (fun t' b' w' => ∃ m', m' < m ∧ I m' t' b' w') R
theorem store_Open.L1_sound {R : Option Addr → World → Prop}  (t : Nat) (b : Int) (w : World) (h : store_Open.L1 t b w  R) :
    KW Try.prog 26 168 (store_Open.RV R) ([(0, [1, 1, 0, 1, 0, 0]), (2, [1, 1, 0, 1, 0, 0]), (1, [0]), (0, [1, 1, 1])].map (toItem (Try.f26.body.getD .skip))) [(3, .pointer (some ⟨t, 0, none⟩)), (4, .int .i64 b)] w := by
  obtain ⟨I, m, hBase, hr⟩ := h
  refine KW.loop (fun m σ w => ∃ (t : Nat) (b : Int), σ = [(3, .pointer (some ⟨t, 0, none⟩)), (4, .int .i64 b)] ∧ I m t b w) ?_ m _ w ⟨t, b, rfl, hBase⟩
  rintro m ih σ w ⟨t, b, rfl, hI⟩
  exact store_Open.L1b_sound  (N1 := fun t' b' w' => ∃ m', m' < m ∧ I m' t' b' w') (fun t' b' w' hx => by obtain ⟨m', hlt, hI'⟩ := hx; exact ih m' hlt _ w' ⟨t', b', rfl, hI'⟩) t b w (hr m t b w hI)
def store_Open.B0 (d : Option Addr) (w : World)   (R : Option Addr → World → Prop) : Prop :=
  New (.cells #[.pointer d, .int .u8 (0 : Int), .int .u8 (0 : Int), .int .u8 (0 : Int), .int .u8 (0 : Int), .int .u8 (0 : Int), .int .u8 (0 : Int), .int .u8 (0 : Int), .int .u8 (0 : Int), .int .u8 (0 : Int), .int .u8 (0 : Int), .int .u8 (0 : Int), .int .u8 (0 : Int), .int .u8 (0 : Int), .int .u8 (0 : Int), .bool false, .int .i64 (0 : Int), .int .i64 (0 : Int), .int .i64 (0 : Int), .int .i64 (0 : Int), .bool false, .int .i64 (0 : Int), .int .i64 (0 : Int), .int .i64 (0 : Int), .int .i64 (0 : Int), .int .i64 (0 : Int), .int .i64 (0 : Int), .string (ByteArray.mk #[]), .bool false, .bool false, .bool false, .bool false, .bool false, .bool false, .int .i64 (0 : Int), .int .i64 (0 : Int), .string (ByteArray.mk #[]), .int .i64 (0 : Int), .int .i64 (0 : Int), .string (ByteArray.mk #[]), .int .i64 (0 : Int), .int .i64 (0 : Int), .string (ByteArray.mk #[]), .int .i64 (0 : Int), .int .i64 (0 : Int), .string (ByteArray.mk #[]), .int .i64 (0 : Int), .int .i64 (0 : Int), .string (ByteArray.mk #[]), .int .i64 (0 : Int), .int .i64 (0 : Int), .string (ByteArray.mk #[])] 97) w fun b16 w1 =>
  store_Open.L1 b16 (0 : Int) w1  R
theorem store_Open.B0_eq (d : Option Addr) (w : World)   (R : Option Addr → World → Prop) (sL1 : Nat → Int → World → Prop) :
    (
  New (.cells #[.pointer d, .int .u8 (0 : Int), .int .u8 (0 : Int), .int .u8 (0 : Int), .int .u8 (0 : Int), .int .u8 (0 : Int), .int .u8 (0 : Int), .int .u8 (0 : Int), .int .u8 (0 : Int), .int .u8 (0 : Int), .int .u8 (0 : Int), .int .u8 (0 : Int), .int .u8 (0 : Int), .int .u8 (0 : Int), .int .u8 (0 : Int), .bool false, .int .i64 (0 : Int), .int .i64 (0 : Int), .int .i64 (0 : Int), .int .i64 (0 : Int), .bool false, .int .i64 (0 : Int), .int .i64 (0 : Int), .int .i64 (0 : Int), .int .i64 (0 : Int), .int .i64 (0 : Int), .int .i64 (0 : Int), .string (ByteArray.mk #[]), .bool false, .bool false, .bool false, .bool false, .bool false, .bool false, .int .i64 (0 : Int), .int .i64 (0 : Int), .string (ByteArray.mk #[]), .int .i64 (0 : Int), .int .i64 (0 : Int), .string (ByteArray.mk #[]), .int .i64 (0 : Int), .int .i64 (0 : Int), .string (ByteArray.mk #[]), .int .i64 (0 : Int), .int .i64 (0 : Int), .string (ByteArray.mk #[]), .int .i64 (0 : Int), .int .i64 (0 : Int), .string (ByteArray.mk #[]), .int .i64 (0 : Int), .int .i64 (0 : Int), .string (ByteArray.mk #[])] 97) w fun b16 w1 =>
  sL1 b16 (0 : Int) w1) = kstep Try.prog 168 Try.f26.results.toList (Try.f26.body.getD .skip) (store_Open.RV R) (kvc Try.prog 168 Try.f26.results.toList (Try.f26.body.getD .skip) (store_Open.RV R) [([(0, [1, 1, 0, 1, 0, 0]), (2, [1, 1, 0, 1, 0, 0]), (1, [0]), (0, [1, 1, 1])], fun σ w => dK (slotOf σ 3) fun t_ => dI .i64 (slotOf σ 4) fun b_ => sL1 t_ b_ w)] 2000) [(0, [])] [(0, .pointer d)] w := by kernel_rfl
theorem store_Open.B0_sound {R : Option Addr → World → Prop}  (d : Option Addr) (w : World) (h : store_Open.B0 d w   R) :
    KW Try.prog 26 168 (store_Open.RV R) ([(0, [])].map (toItem (Try.f26.body.getD .skip))) [(0, .pointer d)] w := by
  exact block_spec Try.func26 Try.mixed (stops_cons (fun σ w h => by
      obtain ⟨t_, e0, h⟩ := dK_elim h
      obtain ⟨b_, e1, h⟩ := dI_elim h
      exact (store_Open.L1_sound  t_ b_ w h).weaken (Sub.cons (Sub.cons (Sub.nil _) e1) e0)) stops_nil) (Eq.mp (store_Open.B0_eq d w   R (fun t_ b_ w => store_Open.L1 t_ b_ w  R)) h)
theorem store_Open.sound (d : Option Addr) (w : World) (R : Option Addr → World → Prop) (h : store_Open.B0 d w R) : store_Open.Call d w R := by
  have hc := calls_of_block (args := #[.pointer d]) Try.func26 (body := (Try.f26.body.getD .skip)) (by kernel_rfl) (by kernel_rfl) (args_slot _) (store_Open.B0_sound d w h)
  exact hc.mono fun e w' he => by
    obtain ⟨v, rfl, hv⟩ := he
    exact store_Open.RV_elim hv
end Go.Proofs.Qxb6500431a
