import Derived.Test.Qxb6500430aGreatSig
set_option maxRecDepth 100000
set_option linter.unusedVariables false
open Go.Vc
namespace Go.Proofs.Qxb6500430aGreat
def sync_Sync_agree.B1 (s : Option Addr) (prev : Int) (ents_b : Option Addr) (ents_l ents_c : Nat) (k : Int) (t24 : Bool) (w : World) (N1 : Option Addr → Int → Option Addr → Nat → Nat → Int → World → Prop)  (R : Int → World → Prop) : Prop :=
  Bm t24 (
    Pn s fun a =>
    LdP a w fun x29 =>
    rlog_Log_TermAt.Call x29 (IntKind.i64.wrap ((IntKind.i64.wrap (prev + (1 : Int))) + k)) w fun r34_0 r34_1 w1 =>
    Pn ents_b fun a_1 =>
    (0 ≤ k ∧ k < ((ents_l : Nat) : Int)) ∧
    LdI .i64 (Addr.add a_1 (k.toNat * 2)) w1 fun x42 =>
    Bm (r34_0 != x42) (
      R k w1) (
      N1 s prev ents_b ents_l ents_c (IntKind.i64.wrap (k + (1 : Int))) w1)) (
    R k w)
theorem sync_Sync_agree.B1_eq (s : Option Addr) (prev : Int) (ents_b : Option Addr) (ents_l ents_c : Nat) (k : Int) (t24 : Bool) (w : World) (N1 : Option Addr → Int → Option Addr → Nat → Nat → Int → World → Prop)  (R : Int → World → Prop)  :
    (
  Bm t24 (
    Pn s fun a =>
    LdP a w fun x29 =>
    rlog_Log_TermAt.Call x29 (IntKind.i64.wrap ((IntKind.i64.wrap (prev + (1 : Int))) + k)) w fun r34_0 r34_1 w1 =>
    Pn ents_b fun a_1 =>
    (0 ≤ k ∧ k < ((ents_l : Nat) : Int)) ∧
    LdI .i64 (Addr.add a_1 (k.toNat * 2)) w1 fun x42 =>
    Bm (r34_0 != x42) (
      R k w1) (
      N1 s prev ents_b ents_l ents_c (IntKind.i64.wrap (k + (1 : Int))) w1)) (
    R k w)) = kstep Tryz.prog 48 Tryz.f269.results.toList (Tryz.f269.body.getD .skip) (sync_Sync_agree.RV R) (kvc Tryz.prog 48 Tryz.f269.results.toList (Tryz.f269.body.getD .skip) (sync_Sync_agree.RV R) [([(0, [1, 1, 0, 0, 0]), (2, [1, 1, 0, 0, 0]), (1, [0]), (0, [1, 1, 1])], fun σ w => dP (slotOf σ 0) fun s_ => dI .i64 (slotOf σ 1) fun prev_ => dL (slotOf σ 2) fun ents_b_ ents_l_ ents_c_ => dI .i64 (slotOf σ 7) fun k_ => N1 s_ prev_ ents_b_ ents_l_ ents_c_ k_ w)] 2000) [(0, [1, 1, 0, 0, 0, 0, 1]), (0, [1, 1, 0, 0, 0, 1]), (2, [1, 1, 0, 0, 0]), (1, [0]), (0, [1, 1, 1])] [(0, .pointer s), (1, .int .i64 prev), (2, .slice ents_b ents_l ents_c), (7, .int .i64 k), (24, .bool t24)] w := by kernel_rfl
theorem sync_Sync_agree.B1_sound {R : Int → World → Prop} {N1 : Option Addr → Int → Option Addr → Nat → Nat → Int → World → Prop} (hN1 : ∀ s prev ents_b ents_l ents_c k w, N1 s prev ents_b ents_l ents_c k w → KW Tryz.prog 269 48 (sync_Sync_agree.RV R) ([(0, [1, 1, 0, 0, 0]), (2, [1, 1, 0, 0, 0]), (1, [0]), (0, [1, 1, 1])].map (toItem (Tryz.f269.body.getD .skip))) [(0, .pointer s), (1, .int .i64 prev), (2, .slice ents_b ents_l ents_c), (7, .int .i64 k)] w) (s : Option Addr) (prev : Int) (ents_b : Option Addr) (ents_l ents_c : Nat) (k : Int) (t24 : Bool) (w : World) (h : sync_Sync_agree.B1 s prev ents_b ents_l ents_c k t24 w N1  R) :
    KW Tryz.prog 269 48 (sync_Sync_agree.RV R) ([(0, [1, 1, 0, 0, 0, 0, 1]), (0, [1, 1, 0, 0, 0, 1]), (2, [1, 1, 0, 0, 0]), (1, [0]), (0, [1, 1, 1])].map (toItem (Tryz.f269.body.getD .skip))) [(0, .pointer s), (1, .int .i64 prev), (2, .slice ents_b ents_l ents_c), (7, .int .i64 k), (24, .bool t24)] w := by
  exact block_spec Tryz.func269 Tryz.mixed (stops_cons (fun σ w h => by
      obtain ⟨s_, e0, h⟩ := dP_elim h
      obtain ⟨prev_, e1, h⟩ := dI_elim h
      obtain ⟨ents_b_, ents_l_, ents_c_, e2, h⟩ := dL_elim h
      obtain ⟨k_, e3, h⟩ := dI_elim h
      exact (hN1 s_ prev_ ents_b_ ents_l_ ents_c_ k_ w h).weaken (Sub.cons (Sub.cons (Sub.cons (Sub.cons (Sub.nil _) e3) e2) e1) e0)) stops_nil) (Eq.mp (sync_Sync_agree.B1_eq s prev ents_b ents_l ents_c k t24 w N1  R ) h)
def sync_Sync_agree.L1b (s : Option Addr) (prev : Int) (ents_b : Option Addr) (ents_l ents_c : Nat) (k : Int) (w : World)  (N1 : Option Addr → Int → Option Addr → Nat → Nat → Int → World → Prop) (R : Int → World → Prop) : Prop :=
  Bm (decide (k < ((ents_l : Nat) : Int))) (
    Pn s fun a =>
    LdI .i64 (a.add 9) w fun x22 =>
    sync_Sync_agree.B1 s prev ents_b ents_l ents_c k (decide ((IntKind.i64.wrap ((IntKind.i64.wrap (prev + (1 : Int))) + k)) ≤ x22)) w N1 R) (
    sync_Sync_agree.B1 s prev ents_b ents_l ents_c k false w N1 R)
theorem sync_Sync_agree.L1b_eq (s : Option Addr) (prev : Int) (ents_b : Option Addr) (ents_l ents_c : Nat) (k : Int) (w : World)  (N1 : Option Addr → Int → Option Addr → Nat → Nat → Int → World → Prop) (R : Int → World → Prop) (sB1 : Option Addr → Int → Option Addr → Nat → Nat → Int → Bool → World → Prop) :
    (
  Bm (decide (k < ((ents_l : Nat) : Int))) (
    Pn s fun a =>
    LdI .i64 (a.add 9) w fun x22 =>
    sB1 s prev ents_b ents_l ents_c k (decide ((IntKind.i64.wrap ((IntKind.i64.wrap (prev + (1 : Int))) + k)) ≤ x22)) w) (
    sB1 s prev ents_b ents_l ents_c k false w)) = kstep Tryz.prog 48 Tryz.f269.results.toList (Tryz.f269.body.getD .skip) (sync_Sync_agree.RV R) (kvc Tryz.prog 48 Tryz.f269.results.toList (Tryz.f269.body.getD .skip) (sync_Sync_agree.RV R) [([(0, [1, 1, 0, 0, 0, 0, 1]), (0, [1, 1, 0, 0, 0, 1]), (2, [1, 1, 0, 0, 0]), (1, [0]), (0, [1, 1, 1])], fun σ w => dP (slotOf σ 0) fun s_ => dI .i64 (slotOf σ 1) fun prev_ => dL (slotOf σ 2) fun ents_b_ ents_l_ ents_c_ => dI .i64 (slotOf σ 7) fun k_ => dB (slotOf σ 24) fun t24_ => sB1 s_ prev_ ents_b_ ents_l_ ents_c_ k_ t24_ w)] 2000) [(0, [1, 1, 0, 0, 0]), (2, [1, 1, 0, 0, 0]), (1, [0]), (0, [1, 1, 1])] [(0, .pointer s), (1, .int .i64 prev), (2, .slice ents_b ents_l ents_c), (7, .int .i64 k)] w := by kernel_rfl
theorem sync_Sync_agree.L1b_sound {R : Int → World → Prop} {N1 : Option Addr → Int → Option Addr → Nat → Nat → Int → World → Prop} (hN1 : ∀ s prev ents_b ents_l ents_c k w, N1 s prev ents_b ents_l ents_c k w → KW Tryz.prog 269 48 (sync_Sync_agree.RV R) ([(0, [1, 1, 0, 0, 0]), (2, [1, 1, 0, 0, 0]), (1, [0]), (0, [1, 1, 1])].map (toItem (Tryz.f269.body.getD .skip))) [(0, .pointer s), (1, .int .i64 prev), (2, .slice ents_b ents_l ents_c), (7, .int .i64 k)] w) (s : Option Addr) (prev : Int) (ents_b : Option Addr) (ents_l ents_c : Nat) (k : Int) (w : World) (h : sync_Sync_agree.L1b s prev ents_b ents_l ents_c k w  N1 R) :
    KW Tryz.prog 269 48 (sync_Sync_agree.RV R) ([(0, [1, 1, 0, 0, 0]), (2, [1, 1, 0, 0, 0]), (1, [0]), (0, [1, 1, 1])].map (toItem (Tryz.f269.body.getD .skip))) [(0, .pointer s), (1, .int .i64 prev), (2, .slice ents_b ents_l ents_c), (7, .int .i64 k)] w := by
  exact block_spec Tryz.func269 Tryz.mixed (stops_cons (fun σ w h => by
      obtain ⟨s_, e0, h⟩ := dP_elim h
      obtain ⟨prev_, e1, h⟩ := dI_elim h
      obtain ⟨ents_b_, ents_l_, ents_c_, e2, h⟩ := dL_elim h
      obtain ⟨k_, e3, h⟩ := dI_elim h
      obtain ⟨t24_, e4, h⟩ := dB_elim h
      exact (sync_Sync_agree.B1_sound hN1 s_ prev_ ents_b_ ents_l_ ents_c_ k_ t24_ w h).weaken (Sub.cons (Sub.cons (Sub.cons (Sub.cons (Sub.cons (Sub.nil _) e4) e3) e2) e1) e0)) stops_nil) (Eq.mp (sync_Sync_agree.L1b_eq s prev ents_b ents_l ents_c k w  N1 R (fun s_ prev_ ents_b_ ents_l_ ents_c_ k_ t24_ w => sync_Sync_agree.B1 s_ prev_ ents_b_ ents_l_ ents_c_ k_ t24_ w N1 R)) h)
def sync_Sync_agree.L1 (s : Option Addr) (prev : Int) (ents_b : Option Addr) (ents_l ents_c : Nat) (k : Int) (w : World)  (R : Int → World → Prop) : Prop :=
  ∃ (I : Nat → Option Addr → Int → Option Addr → Nat → Nat → Int → World → Prop) (m : Nat), I m s prev ents_b ents_l ents_c k w ∧ ∀ m s prev ents_b ents_l ents_c k w, I m s prev ents_b ents_l ents_c k w → sync_Sync_agree.L1b s prev ents_b ents_l ents_c k w  (fun s' prev' ents_b' ents_l' ents_c' k' w' => ∃ m', m' < m ∧ I m' s' prev' ents_b' ents_l' ents_c' k' w') R
theorem sync_Sync_agree.L1_sound {R : Int → World → Prop}  (s : Option Addr) (prev : Int) (ents_b : Option Addr) (ents_l ents_c : Nat) (k : Int) (w : World) (h : sync_Sync_agree.L1 s prev ents_b ents_l ents_c k w  R) :
    KW Tryz.prog 269 48 (sync_Sync_agree.RV R) ([(0, [1, 1, 0, 0, 0]), (2, [1, 1, 0, 0, 0]), (1, [0]), (0, [1, 1, 1])].map (toItem (Tryz.f269.body.getD .skip))) [(0, .pointer s), (1, .int .i64 prev), (2, .slice ents_b ents_l ents_c), (7, .int .i64 k)] w := by
  obtain ⟨I, m, hBase, hr⟩ := h
  refine KW.loop (fun m σ w => ∃ (s : Option Addr) (prev : Int) (ents_b : Option Addr) (ents_l ents_c : Nat) (k : Int), σ = [(0, .pointer s), (1, .int .i64 prev), (2, .slice ents_b ents_l ents_c), (7, .int .i64 k)] ∧ I m s prev ents_b ents_l ents_c k w) ?_ m _ w ⟨s, prev, ents_b, ents_l, ents_c, k, rfl, hBase⟩
  rintro m ih σ w ⟨s, prev, ents_b, ents_l, ents_c, k, rfl, hI⟩
  exact sync_Sync_agree.L1b_sound  (N1 := fun s' prev' ents_b' ents_l' ents_c' k' w' => ∃ m', m' < m ∧ I m' s' prev' ents_b' ents_l' ents_c' k' w') (fun s' prev' ents_b' ents_l' ents_c' k' w' hx => by obtain ⟨m', hlt, hI'⟩ := hx; exact ih m' hlt _ w' ⟨s', prev', ents_b', ents_l', ents_c', k', rfl, hI'⟩) s prev ents_b ents_l ents_c k w (hr m s prev ents_b ents_l ents_c k w hI)
def sync_Sync_agree.B0 (s : Option Addr) (prev : Int) (ents_b : Option Addr) (ents_l ents_c : Nat) (w : World)   (R : Int → World → Prop) : Prop :=
  sync_Sync_agree.L1 s prev ents_b ents_l ents_c (0 : Int) w  R
theorem sync_Sync_agree.B0_eq (s : Option Addr) (prev : Int) (ents_b : Option Addr) (ents_l ents_c : Nat) (w : World)   (R : Int → World → Prop) (sL1 : Option Addr → Int → Option Addr → Nat → Nat → Int → World → Prop) :
    (
  sL1 s prev ents_b ents_l ents_c (0 : Int) w) = kstep Tryz.prog 48 Tryz.f269.results.toList (Tryz.f269.body.getD .skip) (sync_Sync_agree.RV R) (kvc Tryz.prog 48 Tryz.f269.results.toList (Tryz.f269.body.getD .skip) (sync_Sync_agree.RV R) [([(0, [1, 1, 0, 0, 0]), (2, [1, 1, 0, 0, 0]), (1, [0]), (0, [1, 1, 1])], fun σ w => dP (slotOf σ 0) fun s_ => dI .i64 (slotOf σ 1) fun prev_ => dL (slotOf σ 2) fun ents_b_ ents_l_ ents_c_ => dI .i64 (slotOf σ 7) fun k_ => sL1 s_ prev_ ents_b_ ents_l_ ents_c_ k_ w)] 2000) [(0, [])] [(0, .pointer s), (1, .int .i64 prev), (2, .slice ents_b ents_l ents_c)] w := by kernel_rfl
theorem sync_Sync_agree.B0_sound {R : Int → World → Prop}  (s : Option Addr) (prev : Int) (ents_b : Option Addr) (ents_l ents_c : Nat) (w : World) (h : sync_Sync_agree.B0 s prev ents_b ents_l ents_c w   R) :
    KW Tryz.prog 269 48 (sync_Sync_agree.RV R) ([(0, [])].map (toItem (Tryz.f269.body.getD .skip))) [(0, .pointer s), (1, .int .i64 prev), (2, .slice ents_b ents_l ents_c)] w := by
  exact block_spec Tryz.func269 Tryz.mixed (stops_cons (fun σ w h => by
      obtain ⟨s_, e0, h⟩ := dP_elim h
      obtain ⟨prev_, e1, h⟩ := dI_elim h
      obtain ⟨ents_b_, ents_l_, ents_c_, e2, h⟩ := dL_elim h
      obtain ⟨k_, e3, h⟩ := dI_elim h
      exact (sync_Sync_agree.L1_sound  s_ prev_ ents_b_ ents_l_ ents_c_ k_ w h).weaken (Sub.cons (Sub.cons (Sub.cons (Sub.cons (Sub.nil _) e3) e2) e1) e0)) stops_nil) (Eq.mp (sync_Sync_agree.B0_eq s prev ents_b ents_l ents_c w   R (fun s_ prev_ ents_b_ ents_l_ ents_c_ k_ w => sync_Sync_agree.L1 s_ prev_ ents_b_ ents_l_ ents_c_ k_ w  R)) h)
theorem sync_Sync_agree.sound (s : Option Addr) (prev : Int) (ents_b : Option Addr) (ents_l ents_c : Nat) (w : World) (R : Int → World → Prop) (h : sync_Sync_agree.B0 s prev ents_b ents_l ents_c w R) : sync_Sync_agree.Call s prev ents_b ents_l ents_c w R := by
  have hc := calls_of_block (args := #[.pointer s, .int .i64 prev, .slice ents_b ents_l ents_c]) Tryz.func269 (body := (Tryz.f269.body.getD .skip)) (by kernel_rfl) (by kernel_rfl) (args_slot _) (sync_Sync_agree.B0_sound s prev ents_b ents_l ents_c w h)
  exact hc.mono fun e w' he => by
    obtain ⟨v, rfl, hv⟩ := he
    exact sync_Sync_agree.RV_elim hv
def sync_Sync_repair.L1b (s : Option Addr) (i : Int) (ents_b : Option Addr) (ents_l ents_c : Nat) (k : Int) (w : World)  (N1 : Option Addr → Int → Option Addr → Nat → Nat → Int → World → Prop) (R : Int → World → Prop) : Prop :=
  Bm (decide (k < ((ents_l : Nat) : Int))) (
    Pn ents_b fun a =>
    (0 ≤ k ∧ k < ((ents_l : Nat) : Int)) ∧
    LdI .i64 (Addr.add a (k.toNat * 2)) w fun x40_0 =>
    LdS ((Addr.add a (k.toNat * 2)).add 1) w fun x40_1 =>
    sync_Sync_grow.Call s x40_0 x40_1 w fun r41 w1 =>
    Bm (r41 != (0 : Int)) (
      R (IntKind.i64.wrap (i - (1 : Int))) w1) (
      N1 s (IntKind.i64.wrap (i + (1 : Int))) ents_b ents_l ents_c (IntKind.i64.wrap (k + (1 : Int))) w1)) (
    R (IntKind.i64.wrap (i - (1 : Int))) w)
theorem sync_Sync_repair.L1b_eq (s : Option Addr) (i : Int) (ents_b : Option Addr) (ents_l ents_c : Nat) (k : Int) (w : World)  (N1 : Option Addr → Int → Option Addr → Nat → Nat → Int → World → Prop) (R : Int → World → Prop)  :
    (
  Bm (decide (k < ((ents_l : Nat) : Int))) (
    Pn ents_b fun a =>
    (0 ≤ k ∧ k < ((ents_l : Nat) : Int)) ∧
    LdI .i64 (Addr.add a (k.toNat * 2)) w fun x40_0 =>
    LdS ((Addr.add a (k.toNat * 2)).add 1) w fun x40_1 =>
    sync_Sync_grow.Call s x40_0 x40_1 w fun r41 w1 =>
    Bm (r41 != (0 : Int)) (
      R (IntKind.i64.wrap (i - (1 : Int))) w1) (
      N1 s (IntKind.i64.wrap (i + (1 : Int))) ents_b ents_l ents_c (IntKind.i64.wrap (k + (1 : Int))) w1)) (
    R (IntKind.i64.wrap (i - (1 : Int))) w)) = kstep Tryz.prog 52 Tryz.f270.results.toList (Tryz.f270.body.getD .skip) (sync_Sync_repair.RV R) (kvc Tryz.prog 52 Tryz.f270.results.toList (Tryz.f270.body.getD .skip) (sync_Sync_repair.RV R) [([(0, [1, 1, 0, 0, 0]), (2, [1, 1, 0, 0, 0]), (1, [0]), (0, [1, 1, 1])], fun σ w => dP (slotOf σ 0) fun s_ => dI .i64 (slotOf σ 1) fun i_ => dL (slotOf σ 2) fun ents_b_ ents_l_ ents_c_ => dI .i64 (slotOf σ 3) fun k_ => N1 s_ i_ ents_b_ ents_l_ ents_c_ k_ w)] 2000) [(0, [1, 1, 0, 0, 0]), (2, [1, 1, 0, 0, 0]), (1, [0]), (0, [1, 1, 1])] [(0, .pointer s), (1, .int .i64 i), (2, .slice ents_b ents_l ents_c), (3, .int .i64 k)] w := by kernel_rfl
theorem sync_Sync_repair.L1b_sound {R : Int → World → Prop} {N1 : Option Addr → Int → Option Addr → Nat → Nat → Int → World → Prop} (hN1 : ∀ s i ents_b ents_l ents_c k w, N1 s i ents_b ents_l ents_c k w → KW Tryz.prog 270 52 (sync_Sync_repair.RV R) ([(0, [1, 1, 0, 0, 0]), (2, [1, 1, 0, 0, 0]), (1, [0]), (0, [1, 1, 1])].map (toItem (Tryz.f270.body.getD .skip))) [(0, .pointer s), (1, .int .i64 i), (2, .slice ents_b ents_l ents_c), (3, .int .i64 k)] w) (s : Option Addr) (i : Int) (ents_b : Option Addr) (ents_l ents_c : Nat) (k : Int) (w : World) (h : sync_Sync_repair.L1b s i ents_b ents_l ents_c k w  N1 R) :
    KW Tryz.prog 270 52 (sync_Sync_repair.RV R) ([(0, [1, 1, 0, 0, 0]), (2, [1, 1, 0, 0, 0]), (1, [0]), (0, [1, 1, 1])].map (toItem (Tryz.f270.body.getD .skip))) [(0, .pointer s), (1, .int .i64 i), (2, .slice ents_b ents_l ents_c), (3, .int .i64 k)] w := by
  exact block_spec Tryz.func270 Tryz.mixed (stops_cons (fun σ w h => by
      obtain ⟨s_, e0, h⟩ := dP_elim h
      obtain ⟨i_, e1, h⟩ := dI_elim h
      obtain ⟨ents_b_, ents_l_, ents_c_, e2, h⟩ := dL_elim h
      obtain ⟨k_, e3, h⟩ := dI_elim h
      exact (hN1 s_ i_ ents_b_ ents_l_ ents_c_ k_ w h).weaken (Sub.cons (Sub.cons (Sub.cons (Sub.cons (Sub.nil _) e3) e2) e1) e0)) stops_nil) (Eq.mp (sync_Sync_repair.L1b_eq s i ents_b ents_l ents_c k w  N1 R ) h)
def sync_Sync_repair.L1 (s : Option Addr) (i : Int) (ents_b : Option Addr) (ents_l ents_c : Nat) (k : Int) (w : World)  (R : Int → World → Prop) : Prop :=
  ∃ (I : Nat → Option Addr → Int → Option Addr → Nat → Nat → Int → World → Prop) (m : Nat), I m s i ents_b ents_l ents_c k w ∧ ∀ m s i ents_b ents_l ents_c k w, I m s i ents_b ents_l ents_c k w → sync_Sync_repair.L1b s i ents_b ents_l ents_c k w  (fun s' i' ents_b' ents_l' ents_c' k' w' => ∃ m', m' < m ∧ I m' s' i' ents_b' ents_l' ents_c' k' w') R
theorem sync_Sync_repair.L1_sound {R : Int → World → Prop}  (s : Option Addr) (i : Int) (ents_b : Option Addr) (ents_l ents_c : Nat) (k : Int) (w : World) (h : sync_Sync_repair.L1 s i ents_b ents_l ents_c k w  R) :
    KW Tryz.prog 270 52 (sync_Sync_repair.RV R) ([(0, [1, 1, 0, 0, 0]), (2, [1, 1, 0, 0, 0]), (1, [0]), (0, [1, 1, 1])].map (toItem (Tryz.f270.body.getD .skip))) [(0, .pointer s), (1, .int .i64 i), (2, .slice ents_b ents_l ents_c), (3, .int .i64 k)] w := by
  obtain ⟨I, m, hBase, hr⟩ := h
  refine KW.loop (fun m σ w => ∃ (s : Option Addr) (i : Int) (ents_b : Option Addr) (ents_l ents_c : Nat) (k : Int), σ = [(0, .pointer s), (1, .int .i64 i), (2, .slice ents_b ents_l ents_c), (3, .int .i64 k)] ∧ I m s i ents_b ents_l ents_c k w) ?_ m _ w ⟨s, i, ents_b, ents_l, ents_c, k, rfl, hBase⟩
  rintro m ih σ w ⟨s, i, ents_b, ents_l, ents_c, k, rfl, hI⟩
  exact sync_Sync_repair.L1b_sound  (N1 := fun s' i' ents_b' ents_l' ents_c' k' w' => ∃ m', m' < m ∧ I m' s' i' ents_b' ents_l' ents_c' k' w') (fun s' i' ents_b' ents_l' ents_c' k' w' hx => by obtain ⟨m', hlt, hI'⟩ := hx; exact ih m' hlt _ w' ⟨s', i', ents_b', ents_l', ents_c', k', rfl, hI'⟩) s i ents_b ents_l ents_c k w (hr m s i ents_b ents_l ents_c k w hI)
def sync_Sync_repair.B1 (s : Option Addr) (i : Int) (ents_b : Option Addr) (ents_l ents_c : Nat) (k : Int) (w : World)   (R : Int → World → Prop) : Prop :=
  sync_Sync_repair.L1 s i ents_b ents_l ents_c k w  R
theorem sync_Sync_repair.B1_eq (s : Option Addr) (i : Int) (ents_b : Option Addr) (ents_l ents_c : Nat) (k : Int) (w : World)   (R : Int → World → Prop) (sL1 : Option Addr → Int → Option Addr → Nat → Nat → Int → World → Prop) :
    (
  sL1 s i ents_b ents_l ents_c k w) = kstep Tryz.prog 52 Tryz.f270.results.toList (Tryz.f270.body.getD .skip) (sync_Sync_repair.RV R) (kvc Tryz.prog 52 Tryz.f270.results.toList (Tryz.f270.body.getD .skip) (sync_Sync_repair.RV R) [([(0, [1, 1, 0, 0, 0]), (2, [1, 1, 0, 0, 0]), (1, [0]), (0, [1, 1, 1])], fun σ w => dP (slotOf σ 0) fun s_ => dI .i64 (slotOf σ 1) fun i_ => dL (slotOf σ 2) fun ents_b_ ents_l_ ents_c_ => dI .i64 (slotOf σ 3) fun k_ => sL1 s_ i_ ents_b_ ents_l_ ents_c_ k_ w)] 2000) [(0, [1, 1])] [(0, .pointer s), (1, .int .i64 i), (2, .slice ents_b ents_l ents_c), (3, .int .i64 k)] w := by kernel_rfl
theorem sync_Sync_repair.B1_sound {R : Int → World → Prop}  (s : Option Addr) (i : Int) (ents_b : Option Addr) (ents_l ents_c : Nat) (k : Int) (w : World) (h : sync_Sync_repair.B1 s i ents_b ents_l ents_c k w   R) :
    KW Tryz.prog 270 52 (sync_Sync_repair.RV R) ([(0, [1, 1])].map (toItem (Tryz.f270.body.getD .skip))) [(0, .pointer s), (1, .int .i64 i), (2, .slice ents_b ents_l ents_c), (3, .int .i64 k)] w := by
  exact block_spec Tryz.func270 Tryz.mixed (stops_cons (fun σ w h => by
      obtain ⟨s_, e0, h⟩ := dP_elim h
      obtain ⟨i_, e1, h⟩ := dI_elim h
      obtain ⟨ents_b_, ents_l_, ents_c_, e2, h⟩ := dL_elim h
      obtain ⟨k_, e3, h⟩ := dI_elim h
      exact (sync_Sync_repair.L1_sound  s_ i_ ents_b_ ents_l_ ents_c_ k_ w h).weaken (Sub.cons (Sub.cons (Sub.cons (Sub.cons (Sub.nil _) e3) e2) e1) e0)) stops_nil) (Eq.mp (sync_Sync_repair.B1_eq s i ents_b ents_l ents_c k w   R (fun s_ i_ ents_b_ ents_l_ ents_c_ k_ w => sync_Sync_repair.L1 s_ i_ ents_b_ ents_l_ ents_c_ k_ w  R)) h)
def sync_Sync_repair.B0 (s : Option Addr) (i : Int) (ents_b : Option Addr) (ents_l ents_c : Nat) (k : Int) (w : World)   (R : Int → World → Prop) : Prop :=
  Pn s fun a =>
  LdI .i64 (a.add 9) w fun x14 =>
  Bm (decide (i ≤ x14)) (
    Pn s fun a_1 =>
    LdI .i64 (a_1.add 2) w fun x20 =>
    Bm (decide (i ≤ x20)) (
      R (IntKind.i64.wrap (i - (1 : Int))) w) (
      Pn s fun a_2 =>
      LdP a_2 w fun x27 =>
      rlog_Log_TruncateFrom.Call x27 i w fun r29 w1 =>
      sync_Sync_refresh.Call s w1 fun w2 =>
      sync_Sync_repair.B1 s i ents_b ents_l ents_c k w2  R)) (
    sync_Sync_repair.B1 s i ents_b ents_l ents_c k w  R)
theorem sync_Sync_repair.B0_eq (s : Option Addr) (i : Int) (ents_b : Option Addr) (ents_l ents_c : Nat) (k : Int) (w : World)   (R : Int → World → Prop) (sB1 : Option Addr → Int → Option Addr → Nat → Nat → Int → World → Prop) :
    (
  Pn s fun a =>
  LdI .i64 (a.add 9) w fun x14 =>
  Bm (decide (i ≤ x14)) (
    Pn s fun a_1 =>
    LdI .i64 (a_1.add 2) w fun x20 =>
    Bm (decide (i ≤ x20)) (
      R (IntKind.i64.wrap (i - (1 : Int))) w) (
      Pn s fun a_2 =>
      LdP a_2 w fun x27 =>
      rlog_Log_TruncateFrom.Call x27 i w fun r29 w1 =>
      sync_Sync_refresh.Call s w1 fun w2 =>
      sB1 s i ents_b ents_l ents_c k w2)) (
    sB1 s i ents_b ents_l ents_c k w)) = kstep Tryz.prog 52 Tryz.f270.results.toList (Tryz.f270.body.getD .skip) (sync_Sync_repair.RV R) (kvc Tryz.prog 52 Tryz.f270.results.toList (Tryz.f270.body.getD .skip) (sync_Sync_repair.RV R) [([(0, [1, 1])], fun σ w => dP (slotOf σ 0) fun s_ => dI .i64 (slotOf σ 1) fun i_ => dL (slotOf σ 2) fun ents_b_ ents_l_ ents_c_ => dI .i64 (slotOf σ 3) fun k_ => sB1 s_ i_ ents_b_ ents_l_ ents_c_ k_ w)] 2000) [(0, [])] [(0, .pointer s), (1, .int .i64 i), (2, .slice ents_b ents_l ents_c), (3, .int .i64 k)] w := by kernel_rfl
theorem sync_Sync_repair.B0_sound {R : Int → World → Prop}  (s : Option Addr) (i : Int) (ents_b : Option Addr) (ents_l ents_c : Nat) (k : Int) (w : World) (h : sync_Sync_repair.B0 s i ents_b ents_l ents_c k w   R) :
    KW Tryz.prog 270 52 (sync_Sync_repair.RV R) ([(0, [])].map (toItem (Tryz.f270.body.getD .skip))) [(0, .pointer s), (1, .int .i64 i), (2, .slice ents_b ents_l ents_c), (3, .int .i64 k)] w := by
  exact block_spec Tryz.func270 Tryz.mixed (stops_cons (fun σ w h => by
      obtain ⟨s_, e0, h⟩ := dP_elim h
      obtain ⟨i_, e1, h⟩ := dI_elim h
      obtain ⟨ents_b_, ents_l_, ents_c_, e2, h⟩ := dL_elim h
      obtain ⟨k_, e3, h⟩ := dI_elim h
      exact (sync_Sync_repair.B1_sound  s_ i_ ents_b_ ents_l_ ents_c_ k_ w h).weaken (Sub.cons (Sub.cons (Sub.cons (Sub.cons (Sub.nil _) e3) e2) e1) e0)) stops_nil) (Eq.mp (sync_Sync_repair.B0_eq s i ents_b ents_l ents_c k w   R (fun s_ i_ ents_b_ ents_l_ ents_c_ k_ w => sync_Sync_repair.B1 s_ i_ ents_b_ ents_l_ ents_c_ k_ w  R)) h)
theorem sync_Sync_repair.sound (s : Option Addr) (i : Int) (ents_b : Option Addr) (ents_l ents_c : Nat) (k : Int) (w : World) (R : Int → World → Prop) (h : sync_Sync_repair.B0 s i ents_b ents_l ents_c k w R) : sync_Sync_repair.Call s i ents_b ents_l ents_c k w R := by
  have hc := calls_of_block (args := #[.pointer s, .int .i64 i, .slice ents_b ents_l ents_c, .int .i64 k]) Tryz.func270 (body := (Tryz.f270.body.getD .skip)) (by kernel_rfl) (by kernel_rfl) (args_slot _) (sync_Sync_repair.B0_sound s i ents_b ents_l ents_c k w h)
  exact hc.mono fun e w' he => by
    obtain ⟨v, rfl, hv⟩ := he
    exact sync_Sync_repair.RV_elim hv
def rlog_Log_rebase.L1b (l : Option Addr) (idx i : Int) (w : World)  (N1 : Option Addr → Int → Int → World → Prop) (R : Int → World → Prop) : Prop :=
  Bm (decide (i ≤ idx)) (
    rlog_slotOf.Call i w fun r48 w1 =>
    Pn l fun a =>
    LdP a w1 fun x52 =>
    store_Store_DelRec.Call x52 r48 w1 fun r54 w2 =>
    Bm (r54 != (0 : Int)) (
      R r54 w2) (
      N1 l idx (IntKind.i64.wrap (i + (1 : Int))) w2)) (
    R (0 : Int) w)
theorem rlog_Log_rebase.L1b_eq (l : Option Addr) (idx i : Int) (w : World)  (N1 : Option Addr → Int → Int → World → Prop) (R : Int → World → Prop)  :
    (
  Bm (decide (i ≤ idx)) (
    rlog_slotOf.Call i w fun r48 w1 =>
    Pn l fun a =>
    LdP a w1 fun x52 =>
    store_Store_DelRec.Call x52 r48 w1 fun r54 w2 =>
    Bm (r54 != (0 : Int)) (
      R r54 w2) (
      N1 l idx (IntKind.i64.wrap (i + (1 : Int))) w2)) (
    R (0 : Int) w)) = kstep Tryz.prog 58 Tryz.f271.results.toList (Tryz.f271.body.getD .skip) (rlog_Log_rebase.RV R) (kvc Tryz.prog 58 Tryz.f271.results.toList (Tryz.f271.body.getD .skip) (rlog_Log_rebase.RV R) [([(0, [1, 1, 1, 1, 1, 0, 1, 0, 0]), (2, [1, 1, 1, 1, 1, 0, 1, 0, 0]), (1, [0]), (0, [1, 1, 1, 1, 1, 1])], fun σ w => dP (slotOf σ 0) fun l_ => dI .i64 (slotOf σ 1) fun idx_ => dI .i64 (slotOf σ 11) fun i_ => N1 l_ idx_ i_ w)] 2000) [(0, [1, 1, 1, 1, 1, 0, 1, 0, 0]), (2, [1, 1, 1, 1, 1, 0, 1, 0, 0]), (1, [0]), (0, [1, 1, 1, 1, 1, 1])] [(0, .pointer l), (1, .int .i64 idx), (11, .int .i64 i)] w := by kernel_rfl
theorem rlog_Log_rebase.L1b_sound {R : Int → World → Prop} {N1 : Option Addr → Int → Int → World → Prop} (hN1 : ∀ l idx i w, N1 l idx i w → KW Tryz.prog 271 58 (rlog_Log_rebase.RV R) ([(0, [1, 1, 1, 1, 1, 0, 1, 0, 0]), (2, [1, 1, 1, 1, 1, 0, 1, 0, 0]), (1, [0]), (0, [1, 1, 1, 1, 1, 1])].map (toItem (Tryz.f271.body.getD .skip))) [(0, .pointer l), (1, .int .i64 idx), (11, .int .i64 i)] w) (l : Option Addr) (idx i : Int) (w : World) (h : rlog_Log_rebase.L1b l idx i w  N1 R) :
    KW Tryz.prog 271 58 (rlog_Log_rebase.RV R) ([(0, [1, 1, 1, 1, 1, 0, 1, 0, 0]), (2, [1, 1, 1, 1, 1, 0, 1, 0, 0]), (1, [0]), (0, [1, 1, 1, 1, 1, 1])].map (toItem (Tryz.f271.body.getD .skip))) [(0, .pointer l), (1, .int .i64 idx), (11, .int .i64 i)] w := by
  exact block_spec Tryz.func271 Tryz.mixed (stops_cons (fun σ w h => by
      obtain ⟨l_, e0, h⟩ := dP_elim h
      obtain ⟨idx_, e1, h⟩ := dI_elim h
      obtain ⟨i_, e2, h⟩ := dI_elim h
      exact (hN1 l_ idx_ i_ w h).weaken (Sub.cons (Sub.cons (Sub.cons (Sub.nil _) e2) e1) e0)) stops_nil) (Eq.mp (rlog_Log_rebase.L1b_eq l idx i w  N1 R ) h)
def rlog_Log_rebase.L1 (l : Option Addr) (idx i : Int) (w : World)  (R : Int → World → Prop) : Prop :=
  ∃ (I : Nat → Option Addr → Int → Int → World → Prop) (m : Nat), I m l idx i w ∧ ∀ m l idx i w, I m l idx i w → rlog_Log_rebase.L1b l idx i w  (fun l' idx' i' w' => ∃ m', m' < m ∧ I m' l' idx' i' w') R
theorem rlog_Log_rebase.L1_sound {R : Int → World → Prop}  (l : Option Addr) (idx i : Int) (w : World) (h : rlog_Log_rebase.L1 l idx i w  R) :
    KW Tryz.prog 271 58 (rlog_Log_rebase.RV R) ([(0, [1, 1, 1, 1, 1, 0, 1, 0, 0]), (2, [1, 1, 1, 1, 1, 0, 1, 0, 0]), (1, [0]), (0, [1, 1, 1, 1, 1, 1])].map (toItem (Tryz.f271.body.getD .skip))) [(0, .pointer l), (1, .int .i64 idx), (11, .int .i64 i)] w := by
  obtain ⟨I, m, hBase, hr⟩ := h
  refine KW.loop (fun m σ w => ∃ (l : Option Addr) (idx i : Int), σ = [(0, .pointer l), (1, .int .i64 idx), (11, .int .i64 i)] ∧ I m l idx i w) ?_ m _ w ⟨l, idx, i, rfl, hBase⟩
  rintro m ih σ w ⟨l, idx, i, rfl, hI⟩
  exact rlog_Log_rebase.L1b_sound  (N1 := fun l' idx' i' w' => ∃ m', m' < m ∧ I m' l' idx' i' w') (fun l' idx' i' w' hx => by obtain ⟨m', hlt, hI'⟩ := hx; exact ih m' hlt _ w' ⟨l', idx', i', rfl, hI'⟩) l idx i w (hr m l idx i w hI)
def rlog_Log_rebase.B0 (l : Option Addr) (idx term : Int) (snap : ByteArray) (w : World)   (R : Int → World → Prop) : Prop :=
  Pn l fun a =>
  LdP a w fun x16 =>
  store_Store_SetSnap.Call x16 idx term snap w fun r20 w1 =>
  Bm (r20 != (0 : Int)) (
    R r20 w1) (
    Pn l fun a_1 =>
    LdI .i64 (a_1.add 3) w1 fun x27 =>
    Pn l fun a_2 =>
    Sts [.int .i64 idx] (a_2.add 3) 0 w1 fun w2 =>
    Pn l fun a_3 =>
    Sts [.int .i64 term] (a_3.add 4) 0 w2 fun w3 =>
    Pn l fun a_4 =>
    Sts [.string snap] (a_4.add 5) 0 w3 fun w4 =>
    rlog_Log_rebase.L1 l idx (IntKind.i64.wrap (x27 + (1 : Int))) w4  R)
theorem rlog_Log_rebase.B0_eq (l : Option Addr) (idx term : Int) (snap : ByteArray) (w : World)   (R : Int → World → Prop) (sL1 : Option Addr → Int → Int → World → Prop) :
    (
  Pn l fun a =>
  LdP a w fun x16 =>
  store_Store_SetSnap.Call x16 idx term snap w fun r20 w1 =>
  Bm (r20 != (0 : Int)) (
    R r20 w1) (
    Pn l fun a_1 =>
    LdI .i64 (a_1.add 3) w1 fun x27 =>
    Pn l fun a_2 =>
    Sts [.int .i64 idx] (a_2.add 3) 0 w1 fun w2 =>
    Pn l fun a_3 =>
    Sts [.int .i64 term] (a_3.add 4) 0 w2 fun w3 =>
    Pn l fun a_4 =>
    Sts [.string snap] (a_4.add 5) 0 w3 fun w4 =>
    sL1 l idx (IntKind.i64.wrap (x27 + (1 : Int))) w4)) = kstep Tryz.prog 58 Tryz.f271.results.toList (Tryz.f271.body.getD .skip) (rlog_Log_rebase.RV R) (kvc Tryz.prog 58 Tryz.f271.results.toList (Tryz.f271.body.getD .skip) (rlog_Log_rebase.RV R) [([(0, [1, 1, 1, 1, 1, 0, 1, 0, 0]), (2, [1, 1, 1, 1, 1, 0, 1, 0, 0]), (1, [0]), (0, [1, 1, 1, 1, 1, 1])], fun σ w => dP (slotOf σ 0) fun l_ => dI .i64 (slotOf σ 1) fun idx_ => dI .i64 (slotOf σ 11) fun i_ => sL1 l_ idx_ i_ w)] 2000) [(0, [])] [(0, .pointer l), (1, .int .i64 idx), (2, .int .i64 term), (3, .string snap)] w := by kernel_rfl
theorem rlog_Log_rebase.B0_sound {R : Int → World → Prop}  (l : Option Addr) (idx term : Int) (snap : ByteArray) (w : World) (h : rlog_Log_rebase.B0 l idx term snap w   R) :
    KW Tryz.prog 271 58 (rlog_Log_rebase.RV R) ([(0, [])].map (toItem (Tryz.f271.body.getD .skip))) [(0, .pointer l), (1, .int .i64 idx), (2, .int .i64 term), (3, .string snap)] w := by
  exact block_spec Tryz.func271 Tryz.mixed (stops_cons (fun σ w h => by
      obtain ⟨l_, e0, h⟩ := dP_elim h
      obtain ⟨idx_, e1, h⟩ := dI_elim h
      obtain ⟨i_, e2, h⟩ := dI_elim h
      exact (rlog_Log_rebase.L1_sound  l_ idx_ i_ w h).weaken (Sub.cons (Sub.cons (Sub.cons (Sub.nil _) e2) e1) e0)) stops_nil) (Eq.mp (rlog_Log_rebase.B0_eq l idx term snap w   R (fun l_ idx_ i_ w => rlog_Log_rebase.L1 l_ idx_ i_ w  R)) h)
theorem rlog_Log_rebase.sound (l : Option Addr) (idx term : Int) (snap : ByteArray) (w : World) (R : Int → World → Prop) (h : rlog_Log_rebase.B0 l idx term snap w R) : rlog_Log_rebase.Call l idx term snap w R := by
  have hc := calls_of_block (args := #[.pointer l, .int .i64 idx, .int .i64 term, .string snap]) Tryz.func271 (body := (Tryz.f271.body.getD .skip)) (by kernel_rfl) (by kernel_rfl) (args_slot _) (rlog_Log_rebase.B0_sound l idx term snap w h)
  exact hc.mono fun e w' he => by
    obtain ⟨v, rfl, hv⟩ := he
    exact rlog_Log_rebase.RV_elim hv
def rlog_Log_dropFrom.L1b (l : Option Addr) (i : Int) (w : World)  (N1 : Option Addr → Int → World → Prop) (R : Int → World → Prop) : Prop :=
  Pn l fun a =>
  LdI .i64 (a.add 6) w fun x10 =>
  Bm (decide (x10 ≥ i)) (
    Pn l fun a_1 =>
    LdI .i64 (a_1.add 6) w fun x16 =>
    rlog_slotOf.Call x16 w fun r17 w1 =>
    Pn l fun a_2 =>
    LdP a_2 w1 fun x21 =>
    store_Store_DelRec.Call x21 r17 w1 fun r23 w2 =>
    Bm (r23 != (0 : Int)) (
      R r23 w2) (
      Pn l fun a_3 =>
      LdI .i64 (a_3.add 6) w2 fun x30 =>
      Pn l fun a_4 =>
      Sts [.int .i64 (IntKind.i64.wrap (x30 - (1 : Int)))] (a_4.add 6) 0 w2 fun w3 =>
      N1 l i w3)) (
    R (0 : Int) w)
theorem rlog_Log_dropFrom.L1b_eq (l : Option Addr) (i : Int) (w : World)  (N1 : Option Addr → Int → World → Prop) (R : Int → World → Prop)  :
    (
  Pn l fun a =>
  LdI .i64 (a.add 6) w fun x10 =>
  Bm (decide (x10 ≥ i)) (
    Pn l fun a_1 =>
    LdI .i64 (a_1.add 6) w fun x16 =>
    rlog_slotOf.Call x16 w fun r17 w1 =>
    Pn l fun a_2 =>
    LdP a_2 w1 fun x21 =>
    store_Store_DelRec.Call x21 r17 w1 fun r23 w2 =>
    Bm (r23 != (0 : Int)) (
      R r23 w2) (
      Pn l fun a_3 =>
      LdI .i64 (a_3.add 6) w2 fun x30 =>
      Pn l fun a_4 =>
      Sts [.int .i64 (IntKind.i64.wrap (x30 - (1 : Int)))] (a_4.add 6) 0 w2 fun w3 =>
      N1 l i w3)) (
    R (0 : Int) w)) = kstep Tryz.prog 34 Tryz.f272.results.toList (Tryz.f272.body.getD .skip) (rlog_Log_dropFrom.RV R) (kvc Tryz.prog 34 Tryz.f272.results.toList (Tryz.f272.body.getD .skip) (rlog_Log_dropFrom.RV R) [([(0, [1, 0, 0, 0]), (2, [1, 0, 0, 0]), (1, [0]), (0, [1, 1])], fun σ w => dP (slotOf σ 0) fun l_ => dI .i64 (slotOf σ 1) fun i_ => N1 l_ i_ w)] 2000) [(0, [1, 0, 0, 0]), (2, [1, 0, 0, 0]), (1, [0]), (0, [1, 1])] [(0, .pointer l), (1, .int .i64 i)] w := by kernel_rfl
theorem rlog_Log_dropFrom.L1b_sound {R : Int → World → Prop} {N1 : Option Addr → Int → World → Prop} (hN1 : ∀ l i w, N1 l i w → KW Tryz.prog 272 34 (rlog_Log_dropFrom.RV R) ([(0, [1, 0, 0, 0]), (2, [1, 0, 0, 0]), (1, [0]), (0, [1, 1])].map (toItem (Tryz.f272.body.getD .skip))) [(0, .pointer l), (1, .int .i64 i)] w) (l : Option Addr) (i : Int) (w : World) (h : rlog_Log_dropFrom.L1b l i w  N1 R) :
    KW Tryz.prog 272 34 (rlog_Log_dropFrom.RV R) ([(0, [1, 0, 0, 0]), (2, [1, 0, 0, 0]), (1, [0]), (0, [1, 1])].map (toItem (Tryz.f272.body.getD .skip))) [(0, .pointer l), (1, .int .i64 i)] w := by
  exact block_spec Tryz.func272 Tryz.mixed (stops_cons (fun σ w h => by
      obtain ⟨l_, e0, h⟩ := dP_elim h
      obtain ⟨i_, e1, h⟩ := dI_elim h
      exact (hN1 l_ i_ w h).weaken (Sub.cons (Sub.cons (Sub.nil _) e1) e0)) stops_nil) (Eq.mp (rlog_Log_dropFrom.L1b_eq l i w  N1 R ) h)
def rlog_Log_dropFrom.L1 (l : Option Addr) (i : Int) (w : World)  (R : Int → World → Prop) : Prop :=
  ∃ (I : Nat → Option Addr → Int → World → Prop) (m : Nat), I m l i w ∧ ∀ m l i w, I m l i w → rlog_Log_dropFrom.L1b l i w  (fun l' i' w' => ∃ m', m' < m ∧ I m' l' i' w') R
theorem rlog_Log_dropFrom.L1_sound {R : Int → World → Prop}  (l : Option Addr) (i : Int) (w : World) (h : rlog_Log_dropFrom.L1 l i w  R) :
    KW Tryz.prog 272 34 (rlog_Log_dropFrom.RV R) ([(0, [1, 0, 0, 0]), (2, [1, 0, 0, 0]), (1, [0]), (0, [1, 1])].map (toItem (Tryz.f272.body.getD .skip))) [(0, .pointer l), (1, .int .i64 i)] w := by
  obtain ⟨I, m, hBase, hr⟩ := h
  refine KW.loop (fun m σ w => ∃ (l : Option Addr) (i : Int), σ = [(0, .pointer l), (1, .int .i64 i)] ∧ I m l i w) ?_ m _ w ⟨l, i, rfl, hBase⟩
  rintro m ih σ w ⟨l, i, rfl, hI⟩
  exact rlog_Log_dropFrom.L1b_sound  (N1 := fun l' i' w' => ∃ m', m' < m ∧ I m' l' i' w') (fun l' i' w' hx => by obtain ⟨m', hlt, hI'⟩ := hx; exact ih m' hlt _ w' ⟨l', i', rfl, hI'⟩) l i w (hr m l i w hI)
def rlog_Log_dropFrom.B0 (l : Option Addr) (i : Int) (w : World)   (R : Int → World → Prop) : Prop :=
  rlog_Log_dropFrom.L1 l i w  R
theorem rlog_Log_dropFrom.B0_eq (l : Option Addr) (i : Int) (w : World)   (R : Int → World → Prop) (sL1 : Option Addr → Int → World → Prop) :
    (
  sL1 l i w) = kstep Tryz.prog 34 Tryz.f272.results.toList (Tryz.f272.body.getD .skip) (rlog_Log_dropFrom.RV R) (kvc Tryz.prog 34 Tryz.f272.results.toList (Tryz.f272.body.getD .skip) (rlog_Log_dropFrom.RV R) [([(0, [1, 0, 0, 0]), (2, [1, 0, 0, 0]), (1, [0]), (0, [1, 1])], fun σ w => dP (slotOf σ 0) fun l_ => dI .i64 (slotOf σ 1) fun i_ => sL1 l_ i_ w)] 2000) [(0, [])] [(0, .pointer l), (1, .int .i64 i)] w := by kernel_rfl
theorem rlog_Log_dropFrom.B0_sound {R : Int → World → Prop}  (l : Option Addr) (i : Int) (w : World) (h : rlog_Log_dropFrom.B0 l i w   R) :
    KW Tryz.prog 272 34 (rlog_Log_dropFrom.RV R) ([(0, [])].map (toItem (Tryz.f272.body.getD .skip))) [(0, .pointer l), (1, .int .i64 i)] w := by
  exact block_spec Tryz.func272 Tryz.mixed (stops_cons (fun σ w h => by
      obtain ⟨l_, e0, h⟩ := dP_elim h
      obtain ⟨i_, e1, h⟩ := dI_elim h
      exact (rlog_Log_dropFrom.L1_sound  l_ i_ w h).weaken (Sub.cons (Sub.cons (Sub.nil _) e1) e0)) stops_nil) (Eq.mp (rlog_Log_dropFrom.B0_eq l i w   R (fun l_ i_ w => rlog_Log_dropFrom.L1 l_ i_ w  R)) h)
theorem rlog_Log_dropFrom.sound (l : Option Addr) (i : Int) (w : World) (R : Int → World → Prop) (h : rlog_Log_dropFrom.B0 l i w R) : rlog_Log_dropFrom.Call l i w R := by
  have hc := calls_of_block (args := #[.pointer l, .int .i64 i]) Tryz.func272 (body := (Tryz.f272.body.getD .skip)) (by kernel_rfl) (by kernel_rfl) (args_slot _) (rlog_Log_dropFrom.B0_sound l i w h)
  exact hc.mono fun e w' he => by
    obtain ⟨v, rfl, hv⟩ := he
    exact rlog_Log_dropFrom.RV_elim hv
def store_Store_SetSnap.L1b (t : Option Addr) (idx term : Int) (data : ByteArray) (a k : Int) (w : World)  (N1 : Option Addr → Int → Int → ByteArray → Int → Int → World → Prop) (R : Int → World → Prop) : Prop :=
  Bm (decide ((IntKind.i64.wrap (k * (64 : Int))) < ((data.size : Nat) : Int))) (
    store_chunk.Call data k w fun r45 w1 =>
    Pn t fun a_1 =>
    LdP a_1 w1 fun x49 =>
    diskm_Disk_Write.Call x49 (IntKind.i64.wrap ((IntKind.i64.wrap ((4 : Int) + (IntKind.i64.wrap (a * (2 : Int))))) + k)) r45 w1 fun r56 w2 =>
    N1 t idx term data a (IntKind.i64.wrap (k + (1 : Int))) w2) (
    Pn t fun a_2 =>
    LdI .i64 ((a_2.add 20).add 1) w fun x62 =>
    Pn t fun a_3 =>
    Sts [.bool true, .int .i64 (IntKind.i64.wrap (x62 + (1 : Int))), .int .i64 idx, .int .i64 term, .int .i64 a, .int .i64 ((data.size : Nat) : Int)] (a_3.add 20) 0 w fun w3 =>
    Pn t fun a_4 =>
    LdI .i64 (a_4.add 26) w3 fun x76 =>
    Pn t fun a_5 =>
    Sts [.int .i64 (IntKind.i64.wrap ((1 : Int) - x76))] (a_5.add 26) 0 w3 fun w4 =>
    Pn t fun a_6 =>
    Sts [.string data] (a_6.add 27) 0 w4 fun w5 =>
    Pn t fun a_7 =>
    LdB (a_7.add 20) w5 fun x87_0 =>
    LdI .i64 ((a_7.add 20).add 1) w5 fun x87_1 =>
    LdI .i64 ((a_7.add 20).add 2) w5 fun x87_2 =>
    LdI .i64 ((a_7.add 20).add 3) w5 fun x87_3 =>
    LdI .i64 ((a_7.add 20).add 4) w5 fun x87_4 =>
    LdI .i64 ((a_7.add 20).add 5) w5 fun x87_5 =>
    store_encHead.Call x87_0 x87_1 x87_2 x87_3 x87_4 x87_5 w5 fun r88_b r88_l r88_c w6 =>
    Pn t fun a_8 =>
    LdI .i64 (a_8.add 26) w6 fun x93 =>
    store_Store_write.Call t (IntKind.i64.wrap ((2 : Int) + x93)) r88_b r88_l r88_c w6 fun w7 =>
    R (0 : Int) w7)
theorem store_Store_SetSnap.L1b_eq (t : Option Addr) (idx term : Int) (data : ByteArray) (a k : Int) (w : World)  (N1 : Option Addr → Int → Int → ByteArray → Int → Int → World → Prop) (R : Int → World → Prop)  :
    (
  Bm (decide ((IntKind.i64.wrap (k * (64 : Int))) < ((data.size : Nat) : Int))) (
    store_chunk.Call data k w fun r45 w1 =>
    Pn t fun a_1 =>
    LdP a_1 w1 fun x49 =>
    diskm_Disk_Write.Call x49 (IntKind.i64.wrap ((IntKind.i64.wrap ((4 : Int) + (IntKind.i64.wrap (a * (2 : Int))))) + k)) r45 w1 fun r56 w2 =>
    N1 t idx term data a (IntKind.i64.wrap (k + (1 : Int))) w2) (
    Pn t fun a_2 =>
    LdI .i64 ((a_2.add 20).add 1) w fun x62 =>
    Pn t fun a_3 =>
    Sts [.bool true, .int .i64 (IntKind.i64.wrap (x62 + (1 : Int))), .int .i64 idx, .int .i64 term, .int .i64 a, .int .i64 ((data.size : Nat) : Int)] (a_3.add 20) 0 w fun w3 =>
    Pn t fun a_4 =>
    LdI .i64 (a_4.add 26) w3 fun x76 =>
    Pn t fun a_5 =>
    Sts [.int .i64 (IntKind.i64.wrap ((1 : Int) - x76))] (a_5.add 26) 0 w3 fun w4 =>
    Pn t fun a_6 =>
    Sts [.string data] (a_6.add 27) 0 w4 fun w5 =>
    Pn t fun a_7 =>
    LdB (a_7.add 20) w5 fun x87_0 =>
    LdI .i64 ((a_7.add 20).add 1) w5 fun x87_1 =>
    LdI .i64 ((a_7.add 20).add 2) w5 fun x87_2 =>
    LdI .i64 ((a_7.add 20).add 3) w5 fun x87_3 =>
    LdI .i64 ((a_7.add 20).add 4) w5 fun x87_4 =>
    LdI .i64 ((a_7.add 20).add 5) w5 fun x87_5 =>
    store_encHead.Call x87_0 x87_1 x87_2 x87_3 x87_4 x87_5 w5 fun r88_b r88_l r88_c w6 =>
    Pn t fun a_8 =>
    LdI .i64 (a_8.add 26) w6 fun x93 =>
    store_Store_write.Call t (IntKind.i64.wrap ((2 : Int) + x93)) r88_b r88_l r88_c w6 fun w7 =>
    R (0 : Int) w7)) = kstep Tryz.prog 97 Tryz.f273.results.toList (Tryz.f273.body.getD .skip) (store_Store_SetSnap.RV R) (kvc Tryz.prog 97 Tryz.f273.results.toList (Tryz.f273.body.getD .skip) (store_Store_SetSnap.RV R) [([(0, [1, 1, 1, 1, 0, 1, 0, 0]), (2, [1, 1, 1, 1, 0, 1, 0, 0]), (1, [0]), (0, [1, 1, 1, 1, 1])], fun σ w => dP (slotOf σ 0) fun t_ => dI .i64 (slotOf σ 1) fun idx_ => dI .i64 (slotOf σ 2) fun term_ => dS (slotOf σ 3) fun data_ => dI .i64 (slotOf σ 9) fun a_ => dI .i64 (slotOf σ 10) fun k_ => N1 t_ idx_ term_ data_ a_ k_ w)] 2000) [(0, [1, 1, 1, 1, 0, 1, 0, 0]), (2, [1, 1, 1, 1, 0, 1, 0, 0]), (1, [0]), (0, [1, 1, 1, 1, 1])] [(0, .pointer t), (1, .int .i64 idx), (2, .int .i64 term), (3, .string data), (9, .int .i64 a), (10, .int .i64 k)] w := by kernel_rfl
theorem store_Store_SetSnap.L1b_sound {R : Int → World → Prop} {N1 : Option Addr → Int → Int → ByteArray → Int → Int → World → Prop} (hN1 : ∀ t idx term data a k w, N1 t idx term data a k w → KW Tryz.prog 273 97 (store_Store_SetSnap.RV R) ([(0, [1, 1, 1, 1, 0, 1, 0, 0]), (2, [1, 1, 1, 1, 0, 1, 0, 0]), (1, [0]), (0, [1, 1, 1, 1, 1])].map (toItem (Tryz.f273.body.getD .skip))) [(0, .pointer t), (1, .int .i64 idx), (2, .int .i64 term), (3, .string data), (9, .int .i64 a), (10, .int .i64 k)] w) (t : Option Addr) (idx term : Int) (data : ByteArray) (a k : Int) (w : World) (h : store_Store_SetSnap.L1b t idx term data a k w  N1 R) :
    KW Tryz.prog 273 97 (store_Store_SetSnap.RV R) ([(0, [1, 1, 1, 1, 0, 1, 0, 0]), (2, [1, 1, 1, 1, 0, 1, 0, 0]), (1, [0]), (0, [1, 1, 1, 1, 1])].map (toItem (Tryz.f273.body.getD .skip))) [(0, .pointer t), (1, .int .i64 idx), (2, .int .i64 term), (3, .string data), (9, .int .i64 a), (10, .int .i64 k)] w := by
  exact block_spec Tryz.func273 Tryz.mixed (stops_cons (fun σ w h => by
      obtain ⟨t_, e0, h⟩ := dP_elim h
      obtain ⟨idx_, e1, h⟩ := dI_elim h
      obtain ⟨term_, e2, h⟩ := dI_elim h
      obtain ⟨data_, e3, h⟩ := dS_elim h
      obtain ⟨a_, e4, h⟩ := dI_elim h
      obtain ⟨k_, e5, h⟩ := dI_elim h
      exact (hN1 t_ idx_ term_ data_ a_ k_ w h).weaken (Sub.cons (Sub.cons (Sub.cons (Sub.cons (Sub.cons (Sub.cons (Sub.nil _) e5) e4) e3) e2) e1) e0)) stops_nil) (Eq.mp (store_Store_SetSnap.L1b_eq t idx term data a k w  N1 R ) h)
def store_Store_SetSnap.L1 (t : Option Addr) (idx term : Int) (data : ByteArray) (a k : Int) (w : World)  (R : Int → World → Prop) : Prop :=
  ∃ (I : Nat → Option Addr → Int → Int → ByteArray → Int → Int → World → Prop) (m : Nat), I m t idx term data a k w ∧ ∀ m t idx term data a k w, I m t idx term data a k w → store_Store_SetSnap.L1b t idx term data a k w  (fun t' idx' term' data' a' k' w' => ∃ m', m' < m ∧ I m' t' idx' term' data' a' k' w') R
theorem store_Store_SetSnap.L1_sound {R : Int → World → Prop}  (t : Option Addr) (idx term : Int) (data : ByteArray) (a k : Int) (w : World) (h : store_Store_SetSnap.L1 t idx term data a k w  R) :
    KW Tryz.prog 273 97 (store_Store_SetSnap.RV R) ([(0, [1, 1, 1, 1, 0, 1, 0, 0]), (2, [1, 1, 1, 1, 0, 1, 0, 0]), (1, [0]), (0, [1, 1, 1, 1, 1])].map (toItem (Tryz.f273.body.getD .skip))) [(0, .pointer t), (1, .int .i64 idx), (2, .int .i64 term), (3, .string data), (9, .int .i64 a), (10, .int .i64 k)] w := by
  obtain ⟨I, m, hBase, hr⟩ := h
  refine KW.loop (fun m σ w => ∃ (t : Option Addr) (idx term : Int) (data : ByteArray) (a k : Int), σ = [(0, .pointer t), (1, .int .i64 idx), (2, .int .i64 term), (3, .string data), (9, .int .i64 a), (10, .int .i64 k)] ∧ I m t idx term data a k w) ?_ m _ w ⟨t, idx, term, data, a, k, rfl, hBase⟩
  rintro m ih σ w ⟨t, idx, term, data, a, k, rfl, hI⟩
  exact store_Store_SetSnap.L1b_sound  (N1 := fun t' idx' term' data' a' k' w' => ∃ m', m' < m ∧ I m' t' idx' term' data' a' k' w') (fun t' idx' term' data' a' k' w' hx => by obtain ⟨m', hlt, hI'⟩ := hx; exact ih m' hlt _ w' ⟨t', idx', term', data', a', k', rfl, hI'⟩) t idx term data a k w (hr m t idx term data a k w hI)
def store_Store_SetSnap.B1 (t : Option Addr) (idx term : Int) (data : ByteArray) (t26 : Bool) (w : World)   (R : Int → World → Prop) : Prop :=
  Bm t26 (
    R (1 : Int) w) (
    Bm (decide (((data.size : Nat) : Int) > (128 : Int))) (
      R (5 : Int) w) (
      Pn t fun a =>
      LdI .i64 ((a.add 20).add 4) w fun x34 =>
      store_Store_SetSnap.L1 t idx term data (IntKind.i64.wrap ((1 : Int) - x34)) (0 : Int) w  R))
theorem store_Store_SetSnap.B1_eq (t : Option Addr) (idx term : Int) (data : ByteArray) (t26 : Bool) (w : World)   (R : Int → World → Prop) (sL1 : Option Addr → Int → Int → ByteArray → Int → Int → World → Prop) :
    (
  Bm t26 (
    R (1 : Int) w) (
    Bm (decide (((data.size : Nat) : Int) > (128 : Int))) (
      R (5 : Int) w) (
      Pn t fun a =>
      LdI .i64 ((a.add 20).add 4) w fun x34 =>
      sL1 t idx term data (IntKind.i64.wrap ((1 : Int) - x34)) (0 : Int) w))) = kstep Tryz.prog 97 Tryz.f273.results.toList (Tryz.f273.body.getD .skip) (store_Store_SetSnap.RV R) (kvc Tryz.prog 97 Tryz.f273.results.toList (Tryz.f273.body.getD .skip) (store_Store_SetSnap.RV R) [([(0, [1, 1, 1, 1, 0, 1, 0, 0]), (2, [1, 1, 1, 1, 0, 1, 0, 0]), (1, [0]), (0, [1, 1, 1, 1, 1])], fun σ w => dP (slotOf σ 0) fun t_ => dI .i64 (slotOf σ 1) fun idx_ => dI .i64 (slotOf σ 2) fun term_ => dS (slotOf σ 3) fun data_ => dI .i64 (slotOf σ 9) fun a_ => dI .i64 (slotOf σ 10) fun k_ => sL1 t_ idx_ term_ data_ a_ k_ w)] 2000) [(0, [1, 0, 1]), (0, [1, 1])] [(0, .pointer t), (1, .int .i64 idx), (2, .int .i64 term), (3, .string data), (26, .bool t26)] w := by kernel_rfl
theorem store_Store_SetSnap.B1_sound {R : Int → World → Prop}  (t : Option Addr) (idx term : Int) (data : ByteArray) (t26 : Bool) (w : World) (h : store_Store_SetSnap.B1 t idx term data t26 w   R) :
    KW Tryz.prog 273 97 (store_Store_SetSnap.RV R) ([(0, [1, 0, 1]), (0, [1, 1])].map (toItem (Tryz.f273.body.getD .skip))) [(0, .pointer t), (1, .int .i64 idx), (2, .int .i64 term), (3, .string data), (26, .bool t26)] w := by
  exact block_spec Tryz.func273 Tryz.mixed (stops_cons (fun σ w h => by
      obtain ⟨t_, e0, h⟩ := dP_elim h
      obtain ⟨idx_, e1, h⟩ := dI_elim h
      obtain ⟨term_, e2, h⟩ := dI_elim h
      obtain ⟨data_, e3, h⟩ := dS_elim h
      obtain ⟨a_, e4, h⟩ := dI_elim h
      obtain ⟨k_, e5, h⟩ := dI_elim h
      exact (store_Store_SetSnap.L1_sound  t_ idx_ term_ data_ a_ k_ w h).weaken (Sub.cons (Sub.cons (Sub.cons (Sub.cons (Sub.cons (Sub.cons (Sub.nil _) e5) e4) e3) e2) e1) e0)) stops_nil) (Eq.mp (store_Store_SetSnap.B1_eq t idx term data t26 w   R (fun t_ idx_ term_ data_ a_ k_ w => store_Store_SetSnap.L1 t_ idx_ term_ data_ a_ k_ w  R)) h)
def store_Store_SetSnap.B0 (t : Option Addr) (idx term : Int) (data : ByteArray) (w : World)   (R : Int → World → Prop) : Prop :=
  Bm (decide (idx < (0 : Int))) (
    store_Store_SetSnap.B1 t idx term data true w  R) (
    Bm (decide (idx > (72057594037927936 : Int))) (
      store_Store_SetSnap.B1 t idx term data true w  R) (
      Bm (decide (term < (0 : Int))) (
        store_Store_SetSnap.B1 t idx term data true w  R) (
        store_Store_SetSnap.B1 t idx term data (decide (term > (72057594037927936 : Int))) w  R)))
theorem store_Store_SetSnap.B0_eq (t : Option Addr) (idx term : Int) (data : ByteArray) (w : World)   (R : Int → World → Prop) (sB1 : Option Addr → Int → Int → ByteArray → Bool → World → Prop) :
    (
  Bm (decide (idx < (0 : Int))) (
    sB1 t idx term data true w) (
    Bm (decide (idx > (72057594037927936 : Int))) (
      sB1 t idx term data true w) (
      Bm (decide (term < (0 : Int))) (
        sB1 t idx term data true w) (
        sB1 t idx term data (decide (term > (72057594037927936 : Int))) w)))) = kstep Tryz.prog 97 Tryz.f273.results.toList (Tryz.f273.body.getD .skip) (store_Store_SetSnap.RV R) (kvc Tryz.prog 97 Tryz.f273.results.toList (Tryz.f273.body.getD .skip) (store_Store_SetSnap.RV R) [([(0, [1, 0, 1]), (0, [1, 1])], fun σ w => dP (slotOf σ 0) fun t_ => dI .i64 (slotOf σ 1) fun idx_ => dI .i64 (slotOf σ 2) fun term_ => dS (slotOf σ 3) fun data_ => dB (slotOf σ 26) fun t26_ => sB1 t_ idx_ term_ data_ t26_ w)] 2000) [(0, [])] [(0, .pointer t), (1, .int .i64 idx), (2, .int .i64 term), (3, .string data)] w := by kernel_rfl
theorem store_Store_SetSnap.B0_sound {R : Int → World → Prop}  (t : Option Addr) (idx term : Int) (data : ByteArray) (w : World) (h : store_Store_SetSnap.B0 t idx term data w   R) :
    KW Tryz.prog 273 97 (store_Store_SetSnap.RV R) ([(0, [])].map (toItem (Tryz.f273.body.getD .skip))) [(0, .pointer t), (1, .int .i64 idx), (2, .int .i64 term), (3, .string data)] w := by
  exact block_spec Tryz.func273 Tryz.mixed (stops_cons (fun σ w h => by
      obtain ⟨t_, e0, h⟩ := dP_elim h
      obtain ⟨idx_, e1, h⟩ := dI_elim h
      obtain ⟨term_, e2, h⟩ := dI_elim h
      obtain ⟨data_, e3, h⟩ := dS_elim h
      obtain ⟨t26_, e4, h⟩ := dB_elim h
      exact (store_Store_SetSnap.B1_sound  t_ idx_ term_ data_ t26_ w h).weaken (Sub.cons (Sub.cons (Sub.cons (Sub.cons (Sub.cons (Sub.nil _) e4) e3) e2) e1) e0)) stops_nil) (Eq.mp (store_Store_SetSnap.B0_eq t idx term data w   R (fun t_ idx_ term_ data_ t26_ w => store_Store_SetSnap.B1 t_ idx_ term_ data_ t26_ w  R)) h)
theorem store_Store_SetSnap.sound (t : Option Addr) (idx term : Int) (data : ByteArray) (w : World) (R : Int → World → Prop) (h : store_Store_SetSnap.B0 t idx term data w R) : store_Store_SetSnap.Call t idx term data w R := by
  have hc := calls_of_block (args := #[.pointer t, .int .i64 idx, .int .i64 term, .string data]) Tryz.func273 (body := (Tryz.f273.body.getD .skip)) (by kernel_rfl) (by kernel_rfl) (args_slot _) (store_Store_SetSnap.B0_sound t idx term data w h)
  exact hc.mono fun e w' he => by
    obtain ⟨v, rfl, hv⟩ := he
    exact store_Store_SetSnap.RV_elim hv
def sync_Sync_advance.L1b (s : Option Addr) (term n : Int) (w : World)  (N1 : Option Addr → Int → Int → World → Prop) (R : World → Prop) : Prop :=
  Pn s fun a =>
  LdI .i64 (a.add 2) w fun x38 =>
  Bm (decide (n > x38)) (
    Pn s fun a_1 =>
    LdP a_1 w fun x46 =>
    rlog_Log_TermAt.Call x46 n w fun r48_0 r48_1 w1 =>
    Bm (r48_0 == term) (
      Pn s fun a_2 =>
      Sts [.int .i64 n] (a_2.add 2) 0 w1 fun w2 =>
      R  w2) (
      N1 s term (IntKind.i64.wrap (n - (1 : Int))) w1)) (
    R  w)
theorem sync_Sync_advance.L1b_eq (s : Option Addr) (term n : Int) (w : World)  (N1 : Option Addr → Int → Int → World → Prop) (R : World → Prop)  :
    (
  Pn s fun a =>
  LdI .i64 (a.add 2) w fun x38 =>
  Bm (decide (n > x38)) (
    Pn s fun a_1 =>
    LdP a_1 w fun x46 =>
    rlog_Log_TermAt.Call x46 n w fun r48_0 r48_1 w1 =>
    Bm (r48_0 == term) (
      Pn s fun a_2 =>
      Sts [.int .i64 n] (a_2.add 2) 0 w1 fun w2 =>
      R  w2) (
      N1 s term (IntKind.i64.wrap (n - (1 : Int))) w1)) (
    R  w)) = kstep Tryz.prog 58 Tryz.f274.results.toList (Tryz.f274.body.getD .skip) (sync_Sync_advance.RV R) (kvc Tryz.prog 58 Tryz.f274.results.toList (Tryz.f274.body.getD .skip) (sync_Sync_advance.RV R) [([(0, [1, 1, 1, 1, 1, 1, 1, 0, 0]), (2, [1, 1, 1, 1, 1, 1, 1, 0, 0]), (1, [0])], fun σ w => dP (slotOf σ 0) fun s_ => dI .i64 (slotOf σ 3) fun term_ => dI .i64 (slotOf σ 6) fun n_ => N1 s_ term_ n_ w)] 2000) [(0, [1, 1, 1, 1, 1, 1, 1, 0, 0]), (2, [1, 1, 1, 1, 1, 1, 1, 0, 0]), (1, [0])] [(0, .pointer s), (3, .int .i64 term), (6, .int .i64 n)] w := by kernel_rfl
theorem sync_Sync_advance.L1b_sound {R : World → Prop} {N1 : Option Addr → Int → Int → World → Prop} (hN1 : ∀ s term n w, N1 s term n w → KW Tryz.prog 274 58 (sync_Sync_advance.RV R) ([(0, [1, 1, 1, 1, 1, 1, 1, 0, 0]), (2, [1, 1, 1, 1, 1, 1, 1, 0, 0]), (1, [0])].map (toItem (Tryz.f274.body.getD .skip))) [(0, .pointer s), (3, .int .i64 term), (6, .int .i64 n)] w) (s : Option Addr) (term n : Int) (w : World) (h : sync_Sync_advance.L1b s term n w  N1 R) :
    KW Tryz.prog 274 58 (sync_Sync_advance.RV R) ([(0, [1, 1, 1, 1, 1, 1, 1, 0, 0]), (2, [1, 1, 1, 1, 1, 1, 1, 0, 0]), (1, [0])].map (toItem (Tryz.f274.body.getD .skip))) [(0, .pointer s), (3, .int .i64 term), (6, .int .i64 n)] w := by
  exact block_spec Tryz.func274 Tryz.mixed (stops_cons (fun σ w h => by
      obtain ⟨s_, e0, h⟩ := dP_elim h
      obtain ⟨term_, e1, h⟩ := dI_elim h
      obtain ⟨n_, e2, h⟩ := dI_elim h
      exact (hN1 s_ term_ n_ w h).weaken (Sub.cons (Sub.cons (Sub.cons (Sub.nil _) e2) e1) e0)) stops_nil) (Eq.mp (sync_Sync_advance.L1b_eq s term n w  N1 R ) h)
def sync_Sync_advance.L1 (s : Option Addr) (term n : Int) (w : World)  (R : World → Prop) : Prop :=
  ∃ (I : Nat → Option Addr → Int → Int → World → Prop) (m : Nat), I m s term n w ∧ ∀ m s term n w, I m s term n w → sync_Sync_advance.L1b s term n w  (fun s' term' n' w' => ∃ m', m' < m ∧ I m' s' term' n' w') R
theorem sync_Sync_advance.L1_sound {R : World → Prop}  (s : Option Addr) (term n : Int) (w : World) (h : sync_Sync_advance.L1 s term n w  R) :
    KW Tryz.prog 274 58 (sync_Sync_advance.RV R) ([(0, [1, 1, 1, 1, 1, 1, 1, 0, 0]), (2, [1, 1, 1, 1, 1, 1, 1, 0, 0]), (1, [0])].map (toItem (Tryz.f274.body.getD .skip))) [(0, .pointer s), (3, .int .i64 term), (6, .int .i64 n)] w := by
  obtain ⟨I, m, hBase, hr⟩ := h
  refine KW.loop (fun m σ w => ∃ (s : Option Addr) (term n : Int), σ = [(0, .pointer s), (3, .int .i64 term), (6, .int .i64 n)] ∧ I m s term n w) ?_ m _ w ⟨s, term, n, rfl, hBase⟩
  rintro m ih σ w ⟨s, term, n, rfl, hI⟩
  exact sync_Sync_advance.L1b_sound  (N1 := fun s' term' n' w' => ∃ m', m' < m ∧ I m' s' term' n' w') (fun s' term' n' w' hx => by obtain ⟨m', hlt, hI'⟩ := hx; exact ih m' hlt _ w' ⟨s', term', n', rfl, hI'⟩) s term n w (hr m s term n w hI)
def sync_Sync_advance.B0 (s : Option Addr) (w : World)   (R : World → Prop) : Prop :=
  Pn s fun a =>
  LdP (a.add 1) w fun x12 =>
  elect_Elect_Id.Call x12 w fun r13 w1 =>
  Pn s fun a_1 =>
  LdP (a_1.add 1) w1 fun x17 =>
  elect_Elect_Term.Call x17 w1 fun r18 w2 =>
  Pn s fun a_2 =>
  LdI .i64 (a_2.add 6) w2 fun x22_0 =>
  LdI .i64 ((a_2.add 6).add 1) w2 fun x22_1 =>
  LdI .i64 ((a_2.add 6).add 2) w2 fun x22_2 =>
  New (.cells #[.int .i64 (0 : Int), .int .i64 (0 : Int), .int .i64 (0 : Int)] 81) w2 fun held_ w3 =>
  Sts [.int .i64 x22_0, .int .i64 x22_1, .int .i64 x22_2] ⟨held_, 0, none⟩ 0 w3 fun w4 =>
  Pn s fun a_3 =>
  LdI .i64 (a_3.add 9) w4 fun x27 =>
  (0 ≤ r13 ∧ r13 < ((3 : Nat) : Int)) ∧
  Sts [.int .i64 x27] (Addr.add ⟨held_, 0, none⟩ (r13.toNat * 1)) 0 w4 fun w5 =>
  LdI .i64 ⟨held_, 0, none⟩ w5 fun x29_0 =>
  LdI .i64 ⟨held_, 1, none⟩ w5 fun x29_1 =>
  LdI .i64 ⟨held_, 2, none⟩ w5 fun x29_2 =>
  sync_sorted.Call x29_0 x29_1 x29_2 w5 fun r30_0 r30_1 r30_2 w6 =>
  Sts [.int .i64 r30_0, .int .i64 r30_1, .int .i64 r30_2] ⟨held_, 0, none⟩ 0 w6 fun w7 =>
  (0 ≤ (1 : Int) ∧ (1 : Int) < ((3 : Nat) : Int)) ∧
  LdI .i64 ⟨held_, 1, none⟩ w7 fun x32 =>
  sync_Sync_advance.L1 s r18 x32 w7  R
theorem sync_Sync_advance.B0_eq (s : Option Addr) (w : World)   (R : World → Prop) (sL1 : Option Addr → Int → Int → World → Prop) :
    (
  Pn s fun a =>
  LdP (a.add 1) w fun x12 =>
  elect_Elect_Id.Call x12 w fun r13 w1 =>
  Pn s fun a_1 =>
  LdP (a_1.add 1) w1 fun x17 =>
  elect_Elect_Term.Call x17 w1 fun r18 w2 =>
  Pn s fun a_2 =>
  LdI .i64 (a_2.add 6) w2 fun x22_0 =>
  LdI .i64 ((a_2.add 6).add 1) w2 fun x22_1 =>
  LdI .i64 ((a_2.add 6).add 2) w2 fun x22_2 =>
  New (.cells #[.int .i64 (0 : Int), .int .i64 (0 : Int), .int .i64 (0 : Int)] 81) w2 fun held_ w3 =>
  Sts [.int .i64 x22_0, .int .i64 x22_1, .int .i64 x22_2] ⟨held_, 0, none⟩ 0 w3 fun w4 =>
  Pn s fun a_3 =>
  LdI .i64 (a_3.add 9) w4 fun x27 =>
  (0 ≤ r13 ∧ r13 < ((3 : Nat) : Int)) ∧
  Sts [.int .i64 x27] (Addr.add ⟨held_, 0, none⟩ (r13.toNat * 1)) 0 w4 fun w5 =>
  LdI .i64 ⟨held_, 0, none⟩ w5 fun x29_0 =>
  LdI .i64 ⟨held_, 1, none⟩ w5 fun x29_1 =>
  LdI .i64 ⟨held_, 2, none⟩ w5 fun x29_2 =>
  sync_sorted.Call x29_0 x29_1 x29_2 w5 fun r30_0 r30_1 r30_2 w6 =>
  Sts [.int .i64 r30_0, .int .i64 r30_1, .int .i64 r30_2] ⟨held_, 0, none⟩ 0 w6 fun w7 =>
  (0 ≤ (1 : Int) ∧ (1 : Int) < ((3 : Nat) : Int)) ∧
  LdI .i64 ⟨held_, 1, none⟩ w7 fun x32 =>
  sL1 s r18 x32 w7) = kstep Tryz.prog 58 Tryz.f274.results.toList (Tryz.f274.body.getD .skip) (sync_Sync_advance.RV R) (kvc Tryz.prog 58 Tryz.f274.results.toList (Tryz.f274.body.getD .skip) (sync_Sync_advance.RV R) [([(0, [1, 1, 1, 1, 1, 1, 1, 0, 0]), (2, [1, 1, 1, 1, 1, 1, 1, 0, 0]), (1, [0])], fun σ w => dP (slotOf σ 0) fun s_ => dI .i64 (slotOf σ 3) fun term_ => dI .i64 (slotOf σ 6) fun n_ => sL1 s_ term_ n_ w)] 2000) [(0, [])] [(0, .pointer s)] w := by kernel_rfl
theorem sync_Sync_advance.B0_sound {R : World → Prop}  (s : Option Addr) (w : World) (h : sync_Sync_advance.B0 s w   R) :
    KW Tryz.prog 274 58 (sync_Sync_advance.RV R) ([(0, [])].map (toItem (Tryz.f274.body.getD .skip))) [(0, .pointer s)] w := by
  exact block_spec Tryz.func274 Tryz.mixed (stops_cons (fun σ w h => by
      obtain ⟨s_, e0, h⟩ := dP_elim h
      obtain ⟨term_, e1, h⟩ := dI_elim h
      obtain ⟨n_, e2, h⟩ := dI_elim h
      exact (sync_Sync_advance.L1_sound  s_ term_ n_ w h).weaken (Sub.cons (Sub.cons (Sub.cons (Sub.nil _) e2) e1) e0)) stops_nil) (Eq.mp (sync_Sync_advance.B0_eq s w   R (fun s_ term_ n_ w => sync_Sync_advance.L1 s_ term_ n_ w  R)) h)
theorem sync_Sync_advance.sound (s : Option Addr) (w : World) (R : World → Prop) (h : sync_Sync_advance.B0 s w R) : sync_Sync_advance.Call s w R := by
  have hc := calls_of_block (args := #[.pointer s]) Tryz.func274 (body := (Tryz.f274.body.getD .skip)) (by kernel_rfl) (by kernel_rfl) (args_slot _) (sync_Sync_advance.B0_sound s w h)
  exact hc.mono fun e w' he => by
    obtain ⟨v, rfl, hv⟩ := he
    exact sync_Sync_advance.RV_elim hv
def store_Store_PutRec.B2 (t : Option Addr) (slot : Int) (r : Nat) (t37 : Bool) (w : World)   (R : Int → World → Prop) : Prop :=
  Bm t37 (
    R (4 : Int) w) (
    Pn t fun a =>
    (0 ≤ slot ∧ slot < ((6 : Nat) : Int)) ∧
    LdB (Addr.add (a.add 28) (slot.toNat * 1)) w fun x43 =>
    Bm x43 (
      R (3 : Int) w) (
      LdI .i64 ⟨r, 0, none⟩ w.drew fun x48_0 =>
      LdI .i64 ⟨r, 1, none⟩ w.drew fun x48_1 =>
      LdS ⟨r, 2, none⟩ w.drew fun x48_2 =>
      Pn t fun a_1 =>
      (0 ≤ slot ∧ slot < ((6 : Nat) : Int)) ∧
      Pn t fun a_2 =>
      Sts [.bool true] (Addr.add (a_1.add 28) (slot.toNat * 1)) 0 w.drew fun w1 =>
      w1.cell? ⟨r, 0, none⟩ = some (.int .i64 x48_0) ∧
      w1.cell? ⟨r, 1, none⟩ = some (.int .i64 x48_1) ∧
      w1.cell? ⟨r, 2, none⟩ = some (.string x48_2) ∧
      (0 ≤ slot ∧ slot < ((6 : Nat) : Int)) ∧
      Sts [.int .i64 x48_0, .int .i64 x48_1, .string x48_2] (Addr.add (a_2.add 34) (slot.toNat * 3)) 0 w1 fun w2 =>
      LdI .i64 ⟨r, 0, none⟩ w2 fun x55_0 =>
      LdI .i64 ⟨r, 1, none⟩ w2 fun x55_1 =>
      LdS ⟨r, 2, none⟩ w2 fun x55_2 =>
      store_encRec.Call x55_0 x55_1 x55_2 w2 fun r56_b r56_l r56_c w3 =>
      store_Store_write.Call t (IntKind.i64.wrap ((8 : Int) + slot)) r56_b r56_l r56_c w3 fun w4 =>
      R (0 : Int) w4))
theorem store_Store_PutRec.B2_eq (t : Option Addr) (slot : Int) (r : Nat) (t37 : Bool) (w : World)   (R : Int → World → Prop)  :
    (
  Bm t37 (
    R (4 : Int) w) (
    Pn t fun a =>
    (0 ≤ slot ∧ slot < ((6 : Nat) : Int)) ∧
    LdB (Addr.add (a.add 28) (slot.toNat * 1)) w fun x43 =>
    Bm x43 (
      R (3 : Int) w) (
      LdI .i64 ⟨r, 0, none⟩ w.drew fun x48_0 =>
      LdI .i64 ⟨r, 1, none⟩ w.drew fun x48_1 =>
      LdS ⟨r, 2, none⟩ w.drew fun x48_2 =>
      Pn t fun a_1 =>
      (0 ≤ slot ∧ slot < ((6 : Nat) : Int)) ∧
      Pn t fun a_2 =>
      Sts [.bool true] (Addr.add (a_1.add 28) (slot.toNat * 1)) 0 w.drew fun w1 =>
      w1.cell? ⟨r, 0, none⟩ = some (.int .i64 x48_0) ∧
      w1.cell? ⟨r, 1, none⟩ = some (.int .i64 x48_1) ∧
      w1.cell? ⟨r, 2, none⟩ = some (.string x48_2) ∧
      (0 ≤ slot ∧ slot < ((6 : Nat) : Int)) ∧
      Sts [.int .i64 x48_0, .int .i64 x48_1, .string x48_2] (Addr.add (a_2.add 34) (slot.toNat * 3)) 0 w1 fun w2 =>
      LdI .i64 ⟨r, 0, none⟩ w2 fun x55_0 =>
      LdI .i64 ⟨r, 1, none⟩ w2 fun x55_1 =>
      LdS ⟨r, 2, none⟩ w2 fun x55_2 =>
      store_encRec.Call x55_0 x55_1 x55_2 w2 fun r56_b r56_l r56_c w3 =>
      store_Store_write.Call t (IntKind.i64.wrap ((8 : Int) + slot)) r56_b r56_l r56_c w3 fun w4 =>
      R (0 : Int) w4))) = kstep Tryz.prog 62 Tryz.f275.results.toList (Tryz.f275.body.getD .skip) (store_Store_PutRec.RV R) (kvc Tryz.prog 62 Tryz.f275.results.toList (Tryz.f275.body.getD .skip) (store_Store_PutRec.RV R) [] 2000) [(0, [1, 1, 0, 1]), (0, [1, 1, 1])] [(0, .pointer t), (1, .int .i64 slot), (5, .pointer (some ⟨r, 0, none⟩)), (37, .bool t37)] w := by kernel_rfl
theorem store_Store_PutRec.B2_sound {R : Int → World → Prop}  (t : Option Addr) (slot : Int) (r : Nat) (t37 : Bool) (w : World) (h : store_Store_PutRec.B2 t slot r t37 w   R) :
    KW Tryz.prog 275 62 (store_Store_PutRec.RV R) ([(0, [1, 1, 0, 1]), (0, [1, 1, 1])].map (toItem (Tryz.f275.body.getD .skip))) [(0, .pointer t), (1, .int .i64 slot), (5, .pointer (some ⟨r, 0, none⟩)), (37, .bool t37)] w := by
  exact block_spec Tryz.func275 Tryz.mixed stops_nil (Eq.mp (store_Store_PutRec.B2_eq t slot r t37 w   R ) h)
def store_Store_PutRec.B1 (t : Option Addr) (slot : Int) (r : Nat) (t13 : Bool) (w : World)   (R : Int → World → Prop) : Prop :=
  Bm t13 (
    R (1 : Int) w) (
    LdI .i64 ⟨r, 0, none⟩ w fun x15 =>
    Bm (decide (x15 < (1 : Int))) (
      store_Store_PutRec.B2 t slot r true w  R) (
      LdI .i64 ⟨r, 0, none⟩ w fun x19 =>
      Bm (decide (x19 > (72057594037927936 : Int))) (
        store_Store_PutRec.B2 t slot r true w  R) (
        LdI .i64 ⟨r, 1, none⟩ w fun x24 =>
        Bm (decide (x24 < (0 : Int))) (
          store_Store_PutRec.B2 t slot r true w  R) (
          LdI .i64 ⟨r, 1, none⟩ w fun x29 =>
          Bm (decide (x29 > (72057594037927936 : Int))) (
            store_Store_PutRec.B2 t slot r true w  R) (
            LdS ⟨r, 2, none⟩ w fun x34 =>
            store_Store_PutRec.B2 t slot r (decide (((x34.size : Nat) : Int) > (24 : Int))) w  R)))))
theorem store_Store_PutRec.B1_eq (t : Option Addr) (slot : Int) (r : Nat) (t13 : Bool) (w : World)   (R : Int → World → Prop) (sB2 : Option Addr → Int → Nat → Bool → World → Prop) :
    (
  Bm t13 (
    R (1 : Int) w) (
    LdI .i64 ⟨r, 0, none⟩ w fun x15 =>
    Bm (decide (x15 < (1 : Int))) (
      sB2 t slot r true w) (
      LdI .i64 ⟨r, 0, none⟩ w fun x19 =>
      Bm (decide (x19 > (72057594037927936 : Int))) (
        sB2 t slot r true w) (
        LdI .i64 ⟨r, 1, none⟩ w fun x24 =>
        Bm (decide (x24 < (0 : Int))) (
          sB2 t slot r true w) (
          LdI .i64 ⟨r, 1, none⟩ w fun x29 =>
          Bm (decide (x29 > (72057594037927936 : Int))) (
            sB2 t slot r true w) (
            LdS ⟨r, 2, none⟩ w fun x34 =>
            sB2 t slot r (decide (((x34.size : Nat) : Int) > (24 : Int))) w)))))) = kstep Tryz.prog 62 Tryz.f275.results.toList (Tryz.f275.body.getD .skip) (store_Store_PutRec.RV R) (kvc Tryz.prog 62 Tryz.f275.results.toList (Tryz.f275.body.getD .skip) (store_Store_PutRec.RV R) [([(0, [1, 1, 0, 1]), (0, [1, 1, 1])], fun σ w => dP (slotOf σ 0) fun t_ => dI .i64 (slotOf σ 1) fun slot_ => dK (slotOf σ 5) fun r_ => dB (slotOf σ 37) fun t37_ => sB2 t_ slot_ r_ t37_ w)] 2000) [(0, [1, 0, 1]), (0, [1, 1])] [(0, .pointer t), (1, .int .i64 slot), (5, .pointer (some ⟨r, 0, none⟩)), (13, .bool t13)] w := by kernel_rfl
theorem store_Store_PutRec.B1_sound {R : Int → World → Prop}  (t : Option Addr) (slot : Int) (r : Nat) (t13 : Bool) (w : World) (h : store_Store_PutRec.B1 t slot r t13 w   R) :
    KW Tryz.prog 275 62 (store_Store_PutRec.RV R) ([(0, [1, 0, 1]), (0, [1, 1])].map (toItem (Tryz.f275.body.getD .skip))) [(0, .pointer t), (1, .int .i64 slot), (5, .pointer (some ⟨r, 0, none⟩)), (13, .bool t13)] w := by
  exact block_spec Tryz.func275 Tryz.mixed (stops_cons (fun σ w h => by
      obtain ⟨t_, e0, h⟩ := dP_elim h
      obtain ⟨slot_, e1, h⟩ := dI_elim h
      obtain ⟨r_, e2, h⟩ := dK_elim h
      obtain ⟨t37_, e3, h⟩ := dB_elim h
      exact (store_Store_PutRec.B2_sound  t_ slot_ r_ t37_ w h).weaken (Sub.cons (Sub.cons (Sub.cons (Sub.cons (Sub.nil _) e3) e2) e1) e0)) stops_nil) (Eq.mp (store_Store_PutRec.B1_eq t slot r t13 w   R (fun t_ slot_ r_ t37_ w => store_Store_PutRec.B2 t_ slot_ r_ t37_ w  R)) h)
def store_Store_PutRec.B0 (t : Option Addr) (slot r_0 r_1 : Int) (r_2 : ByteArray) (w : World)   (R : Int → World → Prop) : Prop :=
  New (.cells #[.int .i64 r_0, .int .i64 r_1, .string r_2] 185) w fun r_ w1 =>
  Bm (decide (slot < (0 : Int))) (
    store_Store_PutRec.B1 t slot r_ true w1  R) (
    store_Store_PutRec.B1 t slot r_ (decide (slot ≥ (6 : Int))) w1  R)
theorem store_Store_PutRec.B0_eq (t : Option Addr) (slot r_0 r_1 : Int) (r_2 : ByteArray) (w : World)   (R : Int → World → Prop) (sB1 : Option Addr → Int → Nat → Bool → World → Prop) :
    (
  New (.cells #[.int .i64 r_0, .int .i64 r_1, .string r_2] 185) w fun r_ w1 =>
  Bm (decide (slot < (0 : Int))) (
    sB1 t slot r_ true w1) (
    sB1 t slot r_ (decide (slot ≥ (6 : Int))) w1)) = kstep Tryz.prog 62 Tryz.f275.results.toList (Tryz.f275.body.getD .skip) (store_Store_PutRec.RV R) (kvc Tryz.prog 62 Tryz.f275.results.toList (Tryz.f275.body.getD .skip) (store_Store_PutRec.RV R) [([(0, [1, 0, 1]), (0, [1, 1])], fun σ w => dP (slotOf σ 0) fun t_ => dI .i64 (slotOf σ 1) fun slot_ => dK (slotOf σ 5) fun r_ => dB (slotOf σ 13) fun t13_ => sB1 t_ slot_ r_ t13_ w)] 2000) [(0, [])] [(0, .pointer t), (1, .int .i64 slot), (2, .agg #[.int .i64 r_0, .int .i64 r_1, .string r_2])] w := by kernel_rfl
theorem store_Store_PutRec.B0_sound {R : Int → World → Prop}  (t : Option Addr) (slot r_0 r_1 : Int) (r_2 : ByteArray) (w : World) (h : store_Store_PutRec.B0 t slot r_0 r_1 r_2 w   R) :
    KW Tryz.prog 275 62 (store_Store_PutRec.RV R) ([(0, [])].map (toItem (Tryz.f275.body.getD .skip))) [(0, .pointer t), (1, .int .i64 slot), (2, .agg #[.int .i64 r_0, .int .i64 r_1, .string r_2])] w := by
  exact block_spec Tryz.func275 Tryz.mixed (stops_cons (fun σ w h => by
      obtain ⟨t_, e0, h⟩ := dP_elim h
      obtain ⟨slot_, e1, h⟩ := dI_elim h
      obtain ⟨r_, e2, h⟩ := dK_elim h
      obtain ⟨t13_, e3, h⟩ := dB_elim h
      exact (store_Store_PutRec.B1_sound  t_ slot_ r_ t13_ w h).weaken (Sub.cons (Sub.cons (Sub.cons (Sub.cons (Sub.nil _) e3) e2) e1) e0)) stops_nil) (Eq.mp (store_Store_PutRec.B0_eq t slot r_0 r_1 r_2 w   R (fun t_ slot_ r_ t13_ w => store_Store_PutRec.B1 t_ slot_ r_ t13_ w  R)) h)
theorem store_Store_PutRec.sound (t : Option Addr) (slot r_0 r_1 : Int) (r_2 : ByteArray) (w : World) (R : Int → World → Prop) (h : store_Store_PutRec.B0 t slot r_0 r_1 r_2 w R) : store_Store_PutRec.Call t slot r_0 r_1 r_2 w R := by
  have hc := calls_of_block (args := #[.pointer t, .int .i64 slot, .agg #[.int .i64 r_0, .int .i64 r_1, .string r_2]]) Tryz.func275 (body := (Tryz.f275.body.getD .skip)) (by kernel_rfl) (by kernel_rfl) (args_slot _) (store_Store_PutRec.B0_sound t slot r_0 r_1 r_2 w h)
  exact hc.mono fun e w' he => by
    obtain ⟨v, rfl, hv⟩ := he
    exact store_Store_PutRec.RV_elim hv
end Go.Proofs.Qxb6500430aGreat
