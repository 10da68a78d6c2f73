import Derived.Test.Qxb6500425aSig
set_option maxRecDepth 100000
set_option linter.unusedVariables false
open Go.Vc
namespace Go.Proofs.Qxb6500425a
def ip_IP_Tick.B1 (p : Option Addr) (i : Int) (w : World) (N1 : Option Addr → Int → World → Prop)  (R : World → Prop) : Prop :=
  N1 p (IntKind.i64.wrap (i + (1 : Int))) w
theorem ip_IP_Tick.B1_eq (p : Option Addr) (i : Int) (w : World) (N1 : Option Addr → Int → World → Prop)  (R : World → Prop)  :
    (
  N1 p (IntKind.i64.wrap (i + (1 : Int))) w) = kstep Try.prog 43 Try.f24.results.toList (Try.f24.body.getD .skip) (ip_IP_Tick.RV R) (kvc Try.prog 43 Try.f24.results.toList (Try.f24.body.getD .skip) (ip_IP_Tick.RV R) [([(0, [1, 1, 0, 0]), (2, [1, 1, 0, 0]), (1, [0])], fun σ w => dP (slotOf σ 0) fun p_ => dI .i64 (slotOf σ 2) fun i_ => N1 p_ i_ w)] 2000) [(0, [1, 1, 0, 0, 1, 1]), (2, [1, 1, 0, 0]), (1, [0])] [(0, .pointer p), (2, .int .i64 i)] w := by kernel_rfl
theorem ip_IP_Tick.B1_sound {R : World → Prop} {N1 : Option Addr → Int → World → Prop} (hN1 : ∀ p i w, N1 p i w → KW Try.prog 24 43 (ip_IP_Tick.RV R) ([(0, [1, 1, 0, 0]), (2, [1, 1, 0, 0]), (1, [0])].map (toItem (Try.f24.body.getD .skip))) [(0, .pointer p), (2, .int .i64 i)] w) (p : Option Addr) (i : Int) (w : World) (h : ip_IP_Tick.B1 p i w N1  R) :
    KW Try.prog 24 43 (ip_IP_Tick.RV R) ([(0, [1, 1, 0, 0, 1, 1]), (2, [1, 1, 0, 0]), (1, [0])].map (toItem (Try.f24.body.getD .skip))) [(0, .pointer p), (2, .int .i64 i)] w := by
  exact block_spec Try.func24 Try.mixed (stops_cons (fun σ w h => by
      obtain ⟨p_, e0, h⟩ := dP_elim h
      obtain ⟨i_, e1, h⟩ := dI_elim h
      exact (hN1 p_ i_ w h).weaken (Sub.cons (Sub.cons (Sub.nil _) e1) e0)) stops_nil) (Eq.mp (ip_IP_Tick.B1_eq p i w N1  R ) h)
def ip_IP_Tick.L1b (p : Option Addr) (i : Int) (w : World)  (N1 : Option Addr → Int → World → Prop) (R : World → Prop) : Prop :=
  Bm (decide (i < (3 : Int))) (
    Pn p fun a =>
    (0 ≤ i ∧ i < ((3 : Nat) : Int)) ∧
    LdB (Addr.add (a.add 3) (i.toNat * 45)) w fun x16 =>
    Bm x16 (
      Pn p fun a_1 =>
      (0 ≤ i ∧ i < ((3 : Nat) : Int)) ∧
      LdI .i64 ((Addr.add (a_1.add 3) (i.toNat * 45)).add 2) w.drew fun x23 =>
      Pn p fun a_2 =>
      (0 ≤ i ∧ i < ((3 : Nat) : Int)) ∧
      Sts [.int .i64 (IntKind.i64.wrap (x23 - (1 : Int)))] ((Addr.add (a_2.add 3) (i.toNat * 45)).add 2) 0 w.drew fun w1 =>
      Pn p fun a_3 =>
      (0 ≤ i ∧ i < ((3 : Nat) : Int)) ∧
      LdI .i64 ((Addr.add (a_3.add 3) (i.toNat * 45)).add 2) w1 fun x35 =>
      Bm (decide (x35 ≤ (0 : Int))) (
        Pn p fun a_4 =>
        (0 ≤ i ∧ i < ((3 : Nat) : Int)) ∧
        Sts [.bool false] (Addr.add (a_4.add 3) (i.toNat * 45)) 0 w1 fun w2 =>
        ip_IP_Tick.B1 p i w2 N1 R) (
        ip_IP_Tick.B1 p i w1 N1 R)) (
      ip_IP_Tick.B1 p i w N1 R)) (
    R  w)
theorem ip_IP_Tick.L1b_eq (p : Option Addr) (i : Int) (w : World)  (N1 : Option Addr → Int → World → Prop) (R : World → Prop) (sB1 : Option Addr → Int → World → Prop) :
    (
  Bm (decide (i < (3 : Int))) (
    Pn p fun a =>
    (0 ≤ i ∧ i < ((3 : Nat) : Int)) ∧
    LdB (Addr.add (a.add 3) (i.toNat * 45)) w fun x16 =>
    Bm x16 (
      Pn p fun a_1 =>
      (0 ≤ i ∧ i < ((3 : Nat) : Int)) ∧
      LdI .i64 ((Addr.add (a_1.add 3) (i.toNat * 45)).add 2) w.drew fun x23 =>
      Pn p fun a_2 =>
      (0 ≤ i ∧ i < ((3 : Nat) : Int)) ∧
      Sts [.int .i64 (IntKind.i64.wrap (x23 - (1 : Int)))] ((Addr.add (a_2.add 3) (i.toNat * 45)).add 2) 0 w.drew fun w1 =>
      Pn p fun a_3 =>
      (0 ≤ i ∧ i < ((3 : Nat) : Int)) ∧
      LdI .i64 ((Addr.add (a_3.add 3) (i.toNat * 45)).add 2) w1 fun x35 =>
      Bm (decide (x35 ≤ (0 : Int))) (
        Pn p fun a_4 =>
        (0 ≤ i ∧ i < ((3 : Nat) : Int)) ∧
        Sts [.bool false] (Addr.add (a_4.add 3) (i.toNat * 45)) 0 w1 fun w2 =>
        sB1 p i w2) (
        sB1 p i w1)) (
      sB1 p i w)) (
    R  w)) = kstep Try.prog 43 Try.f24.results.toList (Try.f24.body.getD .skip) (ip_IP_Tick.RV R) (kvc Try.prog 43 Try.f24.results.toList (Try.f24.body.getD .skip) (ip_IP_Tick.RV R) [([(0, [1, 1, 0, 0, 1, 1]), (2, [1, 1, 0, 0]), (1, [0])], fun σ w => dP (slotOf σ 0) fun p_ => dI .i64 (slotOf σ 2) fun i_ => sB1 p_ i_ w)] 2000) [(0, [1, 1, 0, 0]), (2, [1, 1, 0, 0]), (1, [0])] [(0, .pointer p), (2, .int .i64 i)] w := by kernel_rfl
theorem ip_IP_Tick.L1b_sound {R : World → Prop} {N1 : Option Addr → Int → World → Prop} (hN1 : ∀ p i w, N1 p i w → KW Try.prog 24 43 (ip_IP_Tick.RV R) ([(0, [1, 1, 0, 0]), (2, [1, 1, 0, 0]), (1, [0])].map (toItem (Try.f24.body.getD .skip))) [(0, .pointer p), (2, .int .i64 i)] w) (p : Option Addr) (i : Int) (w : World) (h : ip_IP_Tick.L1b p i w  N1 R) :
    KW Try.prog 24 43 (ip_IP_Tick.RV R) ([(0, [1, 1, 0, 0]), (2, [1, 1, 0, 0]), (1, [0])].map (toItem (Try.f24.body.getD .skip))) [(0, .pointer p), (2, .int .i64 i)] w := by
  exact block_spec Try.func24 Try.mixed (stops_cons (fun σ w h => by
      obtain ⟨p_, e0, h⟩ := dP_elim h
      obtain ⟨i_, e1, h⟩ := dI_elim h
      exact (ip_IP_Tick.B1_sound hN1 p_ i_ w h).weaken (Sub.cons (Sub.cons (Sub.nil _) e1) e0)) stops_nil) (Eq.mp (ip_IP_Tick.L1b_eq p i w  N1 R (fun p_ i_ w => ip_IP_Tick.B1 p_ i_ w N1 R)) h)
def ip_IP_Tick.L1 (p : Option Addr) (i : Int) (w : World)  (R : World → Prop) : Prop :=
  ∃ (I : Nat → Option Addr → Int → World → Prop) (m : Nat), I m p i w ∧ ∀ m p i w, I m p i w → ip_IP_Tick.L1b p i w  (fun p' i' w' => ∃ m', m' < m ∧ I m' p' i' w') R
theorem ip_IP_Tick.L1_sound {R : World → Prop}  (p : Option Addr) (i : Int) (w : World) (h : ip_IP_Tick.L1 p i w  R) :
    KW Try.prog 24 43 (ip_IP_Tick.RV R) ([(0, [1, 1, 0, 0]), (2, [1, 1, 0, 0]), (1, [0])].map (toItem (Try.f24.body.getD .skip))) [(0, .pointer p), (2, .int .i64 i)] w := by
  obtain ⟨I, m, h0, hr⟩ := h
  refine KW.loop (fun m σ w => ∃ (p : Option Addr) (i : Int), σ = [(0, .pointer p), (2, .int .i64 i)] ∧ I m p i w) ?_ m _ w ⟨p, i, rfl, h0⟩
  rintro m ih σ w ⟨p, i, rfl, hI⟩
  exact ip_IP_Tick.L1b_sound  (N1 := fun p' i' w' => ∃ m', m' < m ∧ I m' p' i' w') (fun p' i' w' hx => by obtain ⟨m', hlt, hI'⟩ := hx; exact ih m' hlt _ w' ⟨p', i', rfl, hI'⟩) p i w (hr m p i w hI)
def ip_IP_Tick.B0 (p : Option Addr) (w : World)   (R : World → Prop) : Prop :=
  Pn p fun a =>
  Sts [.int .i64 (24 : Int)] (a.add 2) 0 w fun w1 =>
  ip_IP_Tick.L1 p (0 : Int) w1  R
theorem ip_IP_Tick.B0_eq (p : Option Addr) (w : World)   (R : World → Prop) (sL1 : Option Addr → Int → World → Prop) :
    (
  Pn p fun a =>
  Sts [.int .i64 (24 : Int)] (a.add 2) 0 w fun w1 =>
  sL1 p (0 : Int) w1) = kstep Try.prog 43 Try.f24.results.toList (Try.f24.body.getD .skip) (ip_IP_Tick.RV R) (kvc Try.prog 43 Try.f24.results.toList (Try.f24.body.getD .skip) (ip_IP_Tick.RV R) [([(0, [1, 1, 0, 0]), (2, [1, 1, 0, 0]), (1, [0])], fun σ w => dP (slotOf σ 0) fun p_ => dI .i64 (slotOf σ 2) fun i_ => sL1 p_ i_ w)] 2000) [(0, [])] [(0, .pointer p)] w := by kernel_rfl
theorem ip_IP_Tick.B0_sound {R : World → Prop}  (p : Option Addr) (w : World) (h : ip_IP_Tick.B0 p w   R) :
    KW Try.prog 24 43 (ip_IP_Tick.RV R) ([(0, [])].map (toItem (Try.f24.body.getD .skip))) [(0, .pointer p)] w := by
  exact block_spec Try.func24 Try.mixed (stops_cons (fun σ w h => by
      obtain ⟨p_, e0, h⟩ := dP_elim h
      obtain ⟨i_, e1, h⟩ := dI_elim h
      exact (ip_IP_Tick.L1_sound  p_ i_ w h).weaken (Sub.cons (Sub.cons (Sub.nil _) e1) e0)) stops_nil) (Eq.mp (ip_IP_Tick.B0_eq p w   R (fun p_ i_ w => ip_IP_Tick.L1 p_ i_ w  R)) h)
theorem ip_IP_Tick.sound (p : Option Addr) (w : World) (R : World → Prop) (h : ip_IP_Tick.B0 p w R) : ip_IP_Tick.Call p w R := by
  have hc := calls_of_block (args := #[.pointer p]) Try.func24 (body := (Try.f24.body.getD .skip)) (by kernel_rfl) (by kernel_rfl) (args_slot _) (ip_IP_Tick.B0_sound p w h)
  exact hc.mono fun e w' he => by
    obtain ⟨v, rfl, hv⟩ := he
    exact ip_IP_Tick.RV_elim hv
def ipm_IP_Tick.B1 (p : Option Addr) (i : Int) (w : World) (N1 : Option Addr → Int → World → Prop)  (R : World → Prop) : Prop :=
  N1 p (IntKind.i64.wrap (i - (1 : Int))) w
theorem ipm_IP_Tick.B1_eq (p : Option Addr) (i : Int) (w : World) (N1 : Option Addr → Int → World → Prop)  (R : World → Prop)  :
    (
  N1 p (IntKind.i64.wrap (i - (1 : Int))) w) = kstep Try.prog 39 Try.f25.results.toList (Try.f25.body.getD .skip) (ipm_IP_Tick.RV R) (kvc Try.prog 39 Try.f25.results.toList (Try.f25.body.getD .skip) (ipm_IP_Tick.RV R) [([(0, [1, 1, 0, 0]), (2, [1, 1, 0, 0]), (1, [0])], fun σ w => dP (slotOf σ 0) fun p_ => dI .i64 (slotOf σ 2) fun i_ => N1 p_ i_ w)] 2000) [(0, [1, 1, 0, 0, 1, 1]), (2, [1, 1, 0, 0]), (1, [0])] [(0, .pointer p), (2, .int .i64 i)] w := by kernel_rfl
theorem ipm_IP_Tick.B1_sound {R : World → Prop} {N1 : Option Addr → Int → World → Prop} (hN1 : ∀ p i w, N1 p i w → KW Try.prog 25 39 (ipm_IP_Tick.RV R) ([(0, [1, 1, 0, 0]), (2, [1, 1, 0, 0]), (1, [0])].map (toItem (Try.f25.body.getD .skip))) [(0, .pointer p), (2, .int .i64 i)] w) (p : Option Addr) (i : Int) (w : World) (h : ipm_IP_Tick.B1 p i w N1  R) :
    KW Try.prog 25 39 (ipm_IP_Tick.RV R) ([(0, [1, 1, 0, 0, 1, 1]), (2, [1, 1, 0, 0]), (1, [0])].map (toItem (Try.f25.body.getD .skip))) [(0, .pointer p), (2, .int .i64 i)] w := by
  exact block_spec Try.func25 Try.mixed (stops_cons (fun σ w h => by
      obtain ⟨p_, e0, h⟩ := dP_elim h
      obtain ⟨i_, e1, h⟩ := dI_elim h
      exact (hN1 p_ i_ w h).weaken (Sub.cons (Sub.cons (Sub.nil _) e1) e0)) stops_nil) (Eq.mp (ipm_IP_Tick.B1_eq p i w N1  R ) h)
def ipm_IP_Tick.L1b (p : Option Addr) (i : Int) (w : World)  (N1 : Option Addr → Int → World → Prop) (R : World → Prop) : Prop :=
  Bm (decide (i ≥ (0 : Int))) (
    Pn p fun a =>
    LdL (a.add 3) w fun x19_b x19_l x19_c =>
    Pn x19_b fun a_1 =>
    (0 ≤ i ∧ i < ((x19_l : Nat) : Int)) ∧
    LdI .i64 ((Addr.add a_1 (i.toNat * 6)).add 3) w fun x23 =>
    Pn x19_b fun a_2 =>
    (0 ≤ i ∧ i < ((x19_l : Nat) : Int)) ∧
    Sts [.int .i64 (IntKind.i64.wrap (x23 - (1 : Int)))] ((Addr.add a_2 (i.toNat * 6)).add 3) 0 w fun w1 =>
    Pn p fun a_3 =>
    LdL (a_3.add 3) w1 fun x30_b x30_l x30_c =>
    Pn x30_b fun a_4 =>
    (0 ≤ i ∧ i < ((x30_l : Nat) : Int)) ∧
    LdI .i64 ((Addr.add a_4 (i.toNat * 6)).add 3) w1 fun x34 =>
    Bm (x34 == (0 : Int)) (
      ipm_IP_remove.Call p i w1 fun w2 =>
      ipm_IP_Tick.B1 p i w2 N1 R) (
      ipm_IP_Tick.B1 p i w1 N1 R)) (
    R  w)
theorem ipm_IP_Tick.L1b_eq (p : Option Addr) (i : Int) (w : World)  (N1 : Option Addr → Int → World → Prop) (R : World → Prop) (sB1 : Option Addr → Int → World → Prop) :
    (
  Bm (decide (i ≥ (0 : Int))) (
    Pn p fun a =>
    LdL (a.add 3) w fun x19_b x19_l x19_c =>
    Pn x19_b fun a_1 =>
    (0 ≤ i ∧ i < ((x19_l : Nat) : Int)) ∧
    LdI .i64 ((Addr.add a_1 (i.toNat * 6)).add 3) w fun x23 =>
    Pn x19_b fun a_2 =>
    (0 ≤ i ∧ i < ((x19_l : Nat) : Int)) ∧
    Sts [.int .i64 (IntKind.i64.wrap (x23 - (1 : Int)))] ((Addr.add a_2 (i.toNat * 6)).add 3) 0 w fun w1 =>
    Pn p fun a_3 =>
    LdL (a_3.add 3) w1 fun x30_b x30_l x30_c =>
    Pn x30_b fun a_4 =>
    (0 ≤ i ∧ i < ((x30_l : Nat) : Int)) ∧
    LdI .i64 ((Addr.add a_4 (i.toNat * 6)).add 3) w1 fun x34 =>
    Bm (x34 == (0 : Int)) (
      ipm_IP_remove.Call p i w1 fun w2 =>
      sB1 p i w2) (
      sB1 p i w1)) (
    R  w)) = kstep Try.prog 39 Try.f25.results.toList (Try.f25.body.getD .skip) (ipm_IP_Tick.RV R) (kvc Try.prog 39 Try.f25.results.toList (Try.f25.body.getD .skip) (ipm_IP_Tick.RV R) [([(0, [1, 1, 0, 0, 1, 1]), (2, [1, 1, 0, 0]), (1, [0])], fun σ w => dP (slotOf σ 0) fun p_ => dI .i64 (slotOf σ 2) fun i_ => sB1 p_ i_ w)] 2000) [(0, [1, 1, 0, 0]), (2, [1, 1, 0, 0]), (1, [0])] [(0, .pointer p), (2, .int .i64 i)] w := by kernel_rfl
theorem ipm_IP_Tick.L1b_sound {R : World → Prop} {N1 : Option Addr → Int → World → Prop} (hN1 : ∀ p i w, N1 p i w → KW Try.prog 25 39 (ipm_IP_Tick.RV R) ([(0, [1, 1, 0, 0]), (2, [1, 1, 0, 0]), (1, [0])].map (toItem (Try.f25.body.getD .skip))) [(0, .pointer p), (2, .int .i64 i)] w) (p : Option Addr) (i : Int) (w : World) (h : ipm_IP_Tick.L1b p i w  N1 R) :
    KW Try.prog 25 39 (ipm_IP_Tick.RV R) ([(0, [1, 1, 0, 0]), (2, [1, 1, 0, 0]), (1, [0])].map (toItem (Try.f25.body.getD .skip))) [(0, .pointer p), (2, .int .i64 i)] w := by
  exact block_spec Try.func25 Try.mixed (stops_cons (fun σ w h => by
      obtain ⟨p_, e0, h⟩ := dP_elim h
      obtain ⟨i_, e1, h⟩ := dI_elim h
      exact (ipm_IP_Tick.B1_sound hN1 p_ i_ w h).weaken (Sub.cons (Sub.cons (Sub.nil _) e1) e0)) stops_nil) (Eq.mp (ipm_IP_Tick.L1b_eq p i w  N1 R (fun p_ i_ w => ipm_IP_Tick.B1 p_ i_ w N1 R)) h)
def ipm_IP_Tick.L1 (p : Option Addr) (i : Int) (w : World)  (R : World → Prop) : Prop :=
  ∃ (I : Nat → Option Addr → Int → World → Prop) (m : Nat), I m p i w ∧ ∀ m p i w, I m p i w → ipm_IP_Tick.L1b p i w  (fun p' i' w' => ∃ m', m' < m ∧ I m' p' i' w') R
theorem ipm_IP_Tick.L1_sound {R : World → Prop}  (p : Option Addr) (i : Int) (w : World) (h : ipm_IP_Tick.L1 p i w  R) :
    KW Try.prog 25 39 (ipm_IP_Tick.RV R) ([(0, [1, 1, 0, 0]), (2, [1, 1, 0, 0]), (1, [0])].map (toItem (Try.f25.body.getD .skip))) [(0, .pointer p), (2, .int .i64 i)] w := by
  obtain ⟨I, m, h0, hr⟩ := h
  refine KW.loop (fun m σ w => ∃ (p : Option Addr) (i : Int), σ = [(0, .pointer p), (2, .int .i64 i)] ∧ I m p i w) ?_ m _ w ⟨p, i, rfl, h0⟩
  rintro m ih σ w ⟨p, i, rfl, hI⟩
  exact ipm_IP_Tick.L1b_sound  (N1 := fun p' i' w' => ∃ m', m' < m ∧ I m' p' i' w') (fun p' i' w' hx => by obtain ⟨m', hlt, hI'⟩ := hx; exact ih m' hlt _ w' ⟨p', i', rfl, hI'⟩) p i w (hr m p i w hI)
def ipm_IP_Tick.B0 (p : Option Addr) (w : World)   (R : World → Prop) : Prop :=
  Pn p fun a =>
  Sts [.int .i64 (24 : Int)] (a.add 2) 0 w fun w1 =>
  Pn p fun a_1 =>
  LdL (a_1.add 3) w1 fun x9_b x9_l x9_c =>
  ipm_IP_Tick.L1 p (IntKind.i64.wrap (((x9_l : Nat) : Int) - (1 : Int))) w1  R
theorem ipm_IP_Tick.B0_eq (p : Option Addr) (w : World)   (R : World → Prop) (sL1 : Option Addr → Int → World → Prop) :
    (
  Pn p fun a =>
  Sts [.int .i64 (24 : Int)] (a.add 2) 0 w fun w1 =>
  Pn p fun a_1 =>
  LdL (a_1.add 3) w1 fun x9_b x9_l x9_c =>
  sL1 p (IntKind.i64.wrap (((x9_l : Nat) : Int) - (1 : Int))) w1) = kstep Try.prog 39 Try.f25.results.toList (Try.f25.body.getD .skip) (ipm_IP_Tick.RV R) (kvc Try.prog 39 Try.f25.results.toList (Try.f25.body.getD .skip) (ipm_IP_Tick.RV R) [([(0, [1, 1, 0, 0]), (2, [1, 1, 0, 0]), (1, [0])], fun σ w => dP (slotOf σ 0) fun p_ => dI .i64 (slotOf σ 2) fun i_ => sL1 p_ i_ w)] 2000) [(0, [])] [(0, .pointer p)] w := by kernel_rfl
theorem ipm_IP_Tick.B0_sound {R : World → Prop}  (p : Option Addr) (w : World) (h : ipm_IP_Tick.B0 p w   R) :
    KW Try.prog 25 39 (ipm_IP_Tick.RV R) ([(0, [])].map (toItem (Try.f25.body.getD .skip))) [(0, .pointer p)] w := by
  exact block_spec Try.func25 Try.mixed (stops_cons (fun σ w h => by
      obtain ⟨p_, e0, h⟩ := dP_elim h
      obtain ⟨i_, e1, h⟩ := dI_elim h
      exact (ipm_IP_Tick.L1_sound  p_ i_ w h).weaken (Sub.cons (Sub.cons (Sub.nil _) e1) e0)) stops_nil) (Eq.mp (ipm_IP_Tick.B0_eq p w   R (fun p_ i_ w => ipm_IP_Tick.L1 p_ i_ w  R)) h)
theorem ipm_IP_Tick.sound (p : Option Addr) (w : World) (R : World → Prop) (h : ipm_IP_Tick.B0 p w R) : ipm_IP_Tick.Call p w R := by
  have hc := calls_of_block (args := #[.pointer p]) Try.func25 (body := (Try.f25.body.getD .skip)) (by kernel_rfl) (by kernel_rfl) (args_slot _) (ipm_IP_Tick.B0_sound p w h)
  exact hc.mono fun e w' he => by
    obtain ⟨v, rfl, hv⟩ := he
    exact ipm_IP_Tick.RV_elim hv
def iplaw_World_OwnRows.L1b (w0 a_b : Option Addr) (a_l a_c : Nat) (i : Int) (w : World)  (N1 : Option Addr → Option Addr → Nat → Nat → Int → World → Prop) (R : World → Prop) : Prop :=
  Bm (decide (i < ((a_l : Nat) : Int))) (
    Pn a_b fun a =>
    (0 ≤ i ∧ i < ((a_l : Nat) : Int)) ∧
    Sts [.int .i64 (165 : Int), .int .i64 (165 : Int), .int .i64 (165 : Int), .int .i64 (165 : Int), .int .i64 (165 : Int), .int .i64 (165 : Int)] (Addr.add a (i.toNat * 6)) 0 w fun w1 =>
    N1 w0 a_b a_l a_c (IntKind.i64.wrap (i + (1 : Int))) w1) (
    Bm (decide (((a_l : Nat) : Int) > (0 : Int))) (
      Pn w0 fun a_1 =>
      LdL (a_1.add 6) w fun x26_b x26_l x26_c =>
      New (.cells #[.slice a_b a_l a_c] 58) w fun b28 w2 =>
      Append 58 (.slice none 0 0) 1 24 x26_b x26_l x26_c (some ⟨b28, 0, none⟩) 1 w2 fun b29 c29 w3 =>
      Pn w0 fun a_2 =>
      Sts [.slice b29 (x26_l + 1) c29] (a_2.add 6) 0 w3 fun w4 =>
      R  w4) (
      R  w))
theorem iplaw_World_OwnRows.L1b_eq (w0 a_b : Option Addr) (a_l a_c : Nat) (i : Int) (w : World)  (N1 : Option Addr → Option Addr → Nat → Nat → Int → World → Prop) (R : World → Prop)  :
    (
  Bm (decide (i < ((a_l : Nat) : Int))) (
    Pn a_b fun a =>
    (0 ≤ i ∧ i < ((a_l : Nat) : Int)) ∧
    Sts [.int .i64 (165 : Int), .int .i64 (165 : Int), .int .i64 (165 : Int), .int .i64 (165 : Int), .int .i64 (165 : Int), .int .i64 (165 : Int)] (Addr.add a (i.toNat * 6)) 0 w fun w1 =>
    N1 w0 a_b a_l a_c (IntKind.i64.wrap (i + (1 : Int))) w1) (
    Bm (decide (((a_l : Nat) : Int) > (0 : Int))) (
      Pn w0 fun a_1 =>
      LdL (a_1.add 6) w fun x26_b x26_l x26_c =>
      New (.cells #[.slice a_b a_l a_c] 58) w fun b28 w2 =>
      Append 58 (.slice none 0 0) 1 24 x26_b x26_l x26_c (some ⟨b28, 0, none⟩) 1 w2 fun b29 c29 w3 =>
      Pn w0 fun a_2 =>
      Sts [.slice b29 (x26_l + 1) c29] (a_2.add 6) 0 w3 fun w4 =>
      R  w4) (
      R  w))) = kstep Try.prog 32 Try.f26.results.toList (Try.f26.body.getD .skip) (iplaw_World_OwnRows.RV R) (kvc Try.prog 32 Try.f26.results.toList (Try.f26.body.getD .skip) (iplaw_World_OwnRows.RV R) [([(0, [1, 0, 1, 0, 0]), (2, [1, 0, 1, 0, 0]), (1, [0]), (0, [1, 1])], fun σ w => dP (slotOf σ 0) fun w0_ => dL (slotOf σ 1) fun a_b_ a_l_ a_c_ => dI .i64 (slotOf σ 4) fun i_ => N1 w0_ a_b_ a_l_ a_c_ i_ w)] 2000) [(0, [1, 0, 1, 0, 0]), (2, [1, 0, 1, 0, 0]), (1, [0]), (0, [1, 1])] [(0, .pointer w0), (1, .slice a_b a_l a_c), (4, .int .i64 i)] w := by kernel_rfl
theorem iplaw_World_OwnRows.L1b_sound {R : World → Prop} {N1 : Option Addr → Option Addr → Nat → Nat → Int → World → Prop} (hN1 : ∀ w0 a_b a_l a_c i w, N1 w0 a_b a_l a_c i w → KW Try.prog 26 32 (iplaw_World_OwnRows.RV R) ([(0, [1, 0, 1, 0, 0]), (2, [1, 0, 1, 0, 0]), (1, [0]), (0, [1, 1])].map (toItem (Try.f26.body.getD .skip))) [(0, .pointer w0), (1, .slice a_b a_l a_c), (4, .int .i64 i)] w) (w0 a_b : Option Addr) (a_l a_c : Nat) (i : Int) (w : World) (h : iplaw_World_OwnRows.L1b w0 a_b a_l a_c i w  N1 R) :
    KW Try.prog 26 32 (iplaw_World_OwnRows.RV R) ([(0, [1, 0, 1, 0, 0]), (2, [1, 0, 1, 0, 0]), (1, [0]), (0, [1, 1])].map (toItem (Try.f26.body.getD .skip))) [(0, .pointer w0), (1, .slice a_b a_l a_c), (4, .int .i64 i)] w := by
  exact block_spec Try.func26 Try.mixed (stops_cons (fun σ w h => by
      obtain ⟨w0_, e0, h⟩ := dP_elim h
      obtain ⟨a_b_, a_l_, a_c_, e1, h⟩ := dL_elim h
      obtain ⟨i_, e2, h⟩ := dI_elim h
      exact (hN1 w0_ a_b_ a_l_ a_c_ i_ w h).weaken (Sub.cons (Sub.cons (Sub.cons (Sub.nil _) e2) e1) e0)) stops_nil) (Eq.mp (iplaw_World_OwnRows.L1b_eq w0 a_b a_l a_c i w  N1 R ) h)
def iplaw_World_OwnRows.L1 (w0 a_b : Option Addr) (a_l a_c : Nat) (i : Int) (w : World)  (R : World → Prop) : Prop :=
  ∃ (I : Nat → Option Addr → Option Addr → Nat → Nat → Int → World → Prop) (m : Nat), I m w0 a_b a_l a_c i w ∧ ∀ m w0 a_b a_l a_c i w, I m w0 a_b a_l a_c i w → iplaw_World_OwnRows.L1b w0 a_b a_l a_c i w  (fun w0' a_b' a_l' a_c' i' w' => ∃ m', m' < m ∧ I m' w0' a_b' a_l' a_c' i' w') R
theorem iplaw_World_OwnRows.L1_sound {R : World → Prop}  (w0 a_b : Option Addr) (a_l a_c : Nat) (i : Int) (w : World) (h : iplaw_World_OwnRows.L1 w0 a_b a_l a_c i w  R) :
    KW Try.prog 26 32 (iplaw_World_OwnRows.RV R) ([(0, [1, 0, 1, 0, 0]), (2, [1, 0, 1, 0, 0]), (1, [0]), (0, [1, 1])].map (toItem (Try.f26.body.getD .skip))) [(0, .pointer w0), (1, .slice a_b a_l a_c), (4, .int .i64 i)] w := by
  obtain ⟨I, m, h0, hr⟩ := h
  refine KW.loop (fun m σ w => ∃ (w0 a_b : Option Addr) (a_l a_c : Nat) (i : Int), σ = [(0, .pointer w0), (1, .slice a_b a_l a_c), (4, .int .i64 i)] ∧ I m w0 a_b a_l a_c i w) ?_ m _ w ⟨w0, a_b, a_l, a_c, i, rfl, h0⟩
  rintro m ih σ w ⟨w0, a_b, a_l, a_c, i, rfl, hI⟩
  exact iplaw_World_OwnRows.L1b_sound  (N1 := fun w0' a_b' a_l' a_c' i' w' => ∃ m', m' < m ∧ I m' w0' a_b' a_l' a_c' i' w') (fun w0' a_b' a_l' a_c' i' w' hx => by obtain ⟨m', hlt, hI'⟩ := hx; exact ih m' hlt _ w' ⟨w0', a_b', a_l', a_c', i', rfl, hI'⟩) w0 a_b a_l a_c i w (hr m w0 a_b a_l a_c i w hI)
def iplaw_World_OwnRows.B0 (w0 a_b : Option Addr) (a_l a_c : Nat) (w : World)   (R : World → Prop) : Prop :=
  (0 ≤ ((a_c : Nat) : Int) ∧ ((a_c : Nat) : Int) ≤ ((a_c : Nat) : Int)) ∧
  iplaw_World_OwnRows.L1 w0 (slBase a_b ((0 : Nat) : Int) ((a_c : Nat) : Int) 6) (((a_c : Nat) : Int).toNat - ((0 : Nat) : Int).toNat) (((a_c : Nat) : Int).toNat - ((0 : Nat) : Int).toNat) (0 : Int) w  R
theorem iplaw_World_OwnRows.B0_eq (w0 a_b : Option Addr) (a_l a_c : Nat) (w : World)   (R : World → Prop) (sL1 : Option Addr → Option Addr → Nat → Nat → Int → World → Prop) :
    (
  (0 ≤ ((a_c : Nat) : Int) ∧ ((a_c : Nat) : Int) ≤ ((a_c : Nat) : Int)) ∧
  sL1 w0 (slBase a_b ((0 : Nat) : Int) ((a_c : Nat) : Int) 6) (((a_c : Nat) : Int).toNat - ((0 : Nat) : Int).toNat) (((a_c : Nat) : Int).toNat - ((0 : Nat) : Int).toNat) (0 : Int) w) = kstep Try.prog 32 Try.f26.results.toList (Try.f26.body.getD .skip) (iplaw_World_OwnRows.RV R) (kvc Try.prog 32 Try.f26.results.toList (Try.f26.body.getD .skip) (iplaw_World_OwnRows.RV R) [([(0, [1, 0, 1, 0, 0]), (2, [1, 0, 1, 0, 0]), (1, [0]), (0, [1, 1])], fun σ w => dP (slotOf σ 0) fun w0_ => dL (slotOf σ 1) fun a_b_ a_l_ a_c_ => dI .i64 (slotOf σ 4) fun i_ => sL1 w0_ a_b_ a_l_ a_c_ i_ w)] 2000) [(0, [])] [(0, .pointer w0), (1, .slice a_b a_l a_c)] w := by kernel_rfl
theorem iplaw_World_OwnRows.B0_sound {R : World → Prop}  (w0 a_b : Option Addr) (a_l a_c : Nat) (w : World) (h : iplaw_World_OwnRows.B0 w0 a_b a_l a_c w   R) :
    KW Try.prog 26 32 (iplaw_World_OwnRows.RV R) ([(0, [])].map (toItem (Try.f26.body.getD .skip))) [(0, .pointer w0), (1, .slice a_b a_l a_c)] w := by
  exact block_spec Try.func26 Try.mixed (stops_cons (fun σ w h => by
      obtain ⟨w0_, e0, h⟩ := dP_elim h
      obtain ⟨a_b_, a_l_, a_c_, e1, h⟩ := dL_elim h
      obtain ⟨i_, e2, h⟩ := dI_elim h
      exact (iplaw_World_OwnRows.L1_sound  w0_ a_b_ a_l_ a_c_ i_ w h).weaken (Sub.cons (Sub.cons (Sub.cons (Sub.nil _) e2) e1) e0)) stops_nil) (Eq.mp (iplaw_World_OwnRows.B0_eq w0 a_b a_l a_c w   R (fun w0_ a_b_ a_l_ a_c_ i_ w => iplaw_World_OwnRows.L1 w0_ a_b_ a_l_ a_c_ i_ w  R)) h)
theorem iplaw_World_OwnRows.sound (w0 a_b : Option Addr) (a_l a_c : Nat) (w : World) (R : World → Prop) (h : iplaw_World_OwnRows.B0 w0 a_b a_l a_c w R) : iplaw_World_OwnRows.Call w0 a_b a_l a_c w R := by
  have hc := calls_of_block (args := #[.pointer w0, .slice a_b a_l a_c]) Try.func26 (body := (Try.f26.body.getD .skip)) (by kernel_rfl) (by kernel_rfl) (args_slot _) (iplaw_World_OwnRows.B0_sound w0 a_b a_l a_c w h)
  exact hc.mono fun e w' he => by
    obtain ⟨v, rfl, hv⟩ := he
    exact iplaw_World_OwnRows.RV_elim hv
def iplaw_World_OwnNums.L1b (w0 a_b : Option Addr) (a_l a_c : Nat) (i : Int) (w : World)  (N1 : Option Addr → Option Addr → Nat → Nat → Int → World → Prop) (R : World → Prop) : Prop :=
  Bm (decide (i < ((a_l : Nat) : Int))) (
    Pn a_b fun a =>
    (0 ≤ i ∧ i < ((a_l : Nat) : Int)) ∧
    Sts [.int .i64 (165 : Int)] (Addr.add a (i.toNat * 1)) 0 w fun w1 =>
    N1 w0 a_b a_l a_c (IntKind.i64.wrap (i + (1 : Int))) w1) (
    Bm (decide (((a_l : Nat) : Int) > (0 : Int))) (
      Pn w0 fun a_1 =>
      LdL (a_1.add 7) w fun x25_b x25_l x25_c =>
      New (.cells #[.slice a_b a_l a_c] 61) w fun b27 w2 =>
      Append 61 (.slice none 0 0) 1 24 x25_b x25_l x25_c (some ⟨b27, 0, none⟩) 1 w2 fun b28 c28 w3 =>
      Pn w0 fun a_2 =>
      Sts [.slice b28 (x25_l + 1) c28] (a_2.add 7) 0 w3 fun w4 =>
      R  w4) (
      R  w))
theorem iplaw_World_OwnNums.L1b_eq (w0 a_b : Option Addr) (a_l a_c : Nat) (i : Int) (w : World)  (N1 : Option Addr → Option Addr → Nat → Nat → Int → World → Prop) (R : World → Prop)  :
    (
  Bm (decide (i < ((a_l : Nat) : Int))) (
    Pn a_b fun a =>
    (0 ≤ i ∧ i < ((a_l : Nat) : Int)) ∧
    Sts [.int .i64 (165 : Int)] (Addr.add a (i.toNat * 1)) 0 w fun w1 =>
    N1 w0 a_b a_l a_c (IntKind.i64.wrap (i + (1 : Int))) w1) (
    Bm (decide (((a_l : Nat) : Int) > (0 : Int))) (
      Pn w0 fun a_1 =>
      LdL (a_1.add 7) w fun x25_b x25_l x25_c =>
      New (.cells #[.slice a_b a_l a_c] 61) w fun b27 w2 =>
      Append 61 (.slice none 0 0) 1 24 x25_b x25_l x25_c (some ⟨b27, 0, none⟩) 1 w2 fun b28 c28 w3 =>
      Pn w0 fun a_2 =>
      Sts [.slice b28 (x25_l + 1) c28] (a_2.add 7) 0 w3 fun w4 =>
      R  w4) (
      R  w))) = kstep Try.prog 31 Try.f27.results.toList (Try.f27.body.getD .skip) (iplaw_World_OwnNums.RV R) (kvc Try.prog 31 Try.f27.results.toList (Try.f27.body.getD .skip) (iplaw_World_OwnNums.RV R) [([(0, [1, 0, 1, 0, 0]), (2, [1, 0, 1, 0, 0]), (1, [0]), (0, [1, 1])], fun σ w => dP (slotOf σ 0) fun w0_ => dL (slotOf σ 1) fun a_b_ a_l_ a_c_ => dI .i64 (slotOf σ 4) fun i_ => N1 w0_ a_b_ a_l_ a_c_ i_ w)] 2000) [(0, [1, 0, 1, 0, 0]), (2, [1, 0, 1, 0, 0]), (1, [0]), (0, [1, 1])] [(0, .pointer w0), (1, .slice a_b a_l a_c), (4, .int .i64 i)] w := by kernel_rfl
theorem iplaw_World_OwnNums.L1b_sound {R : World → Prop} {N1 : Option Addr → Option Addr → Nat → Nat → Int → World → Prop} (hN1 : ∀ w0 a_b a_l a_c i w, N1 w0 a_b a_l a_c i w → KW Try.prog 27 31 (iplaw_World_OwnNums.RV R) ([(0, [1, 0, 1, 0, 0]), (2, [1, 0, 1, 0, 0]), (1, [0]), (0, [1, 1])].map (toItem (Try.f27.body.getD .skip))) [(0, .pointer w0), (1, .slice a_b a_l a_c), (4, .int .i64 i)] w) (w0 a_b : Option Addr) (a_l a_c : Nat) (i : Int) (w : World) (h : iplaw_World_OwnNums.L1b w0 a_b a_l a_c i w  N1 R) :
    KW Try.prog 27 31 (iplaw_World_OwnNums.RV R) ([(0, [1, 0, 1, 0, 0]), (2, [1, 0, 1, 0, 0]), (1, [0]), (0, [1, 1])].map (toItem (Try.f27.body.getD .skip))) [(0, .pointer w0), (1, .slice a_b a_l a_c), (4, .int .i64 i)] w := by
  exact block_spec Try.func27 Try.mixed (stops_cons (fun σ w h => by
      obtain ⟨w0_, e0, h⟩ := dP_elim h
      obtain ⟨a_b_, a_l_, a_c_, e1, h⟩ := dL_elim h
      obtain ⟨i_, e2, h⟩ := dI_elim h
      exact (hN1 w0_ a_b_ a_l_ a_c_ i_ w h).weaken (Sub.cons (Sub.cons (Sub.cons (Sub.nil _) e2) e1) e0)) stops_nil) (Eq.mp (iplaw_World_OwnNums.L1b_eq w0 a_b a_l a_c i w  N1 R ) h)
def iplaw_World_OwnNums.L1 (w0 a_b : Option Addr) (a_l a_c : Nat) (i : Int) (w : World)  (R : World → Prop) : Prop :=
  ∃ (I : Nat → Option Addr → Option Addr → Nat → Nat → Int → World → Prop) (m : Nat), I m w0 a_b a_l a_c i w ∧ ∀ m w0 a_b a_l a_c i w, I m w0 a_b a_l a_c i w → iplaw_World_OwnNums.L1b w0 a_b a_l a_c i w  (fun w0' a_b' a_l' a_c' i' w' => ∃ m', m' < m ∧ I m' w0' a_b' a_l' a_c' i' w') R
theorem iplaw_World_OwnNums.L1_sound {R : World → Prop}  (w0 a_b : Option Addr) (a_l a_c : Nat) (i : Int) (w : World) (h : iplaw_World_OwnNums.L1 w0 a_b a_l a_c i w  R) :
    KW Try.prog 27 31 (iplaw_World_OwnNums.RV R) ([(0, [1, 0, 1, 0, 0]), (2, [1, 0, 1, 0, 0]), (1, [0]), (0, [1, 1])].map (toItem (Try.f27.body.getD .skip))) [(0, .pointer w0), (1, .slice a_b a_l a_c), (4, .int .i64 i)] w := by
  obtain ⟨I, m, h0, hr⟩ := h
  refine KW.loop (fun m σ w => ∃ (w0 a_b : Option Addr) (a_l a_c : Nat) (i : Int), σ = [(0, .pointer w0), (1, .slice a_b a_l a_c), (4, .int .i64 i)] ∧ I m w0 a_b a_l a_c i w) ?_ m _ w ⟨w0, a_b, a_l, a_c, i, rfl, h0⟩
  rintro m ih σ w ⟨w0, a_b, a_l, a_c, i, rfl, hI⟩
  exact iplaw_World_OwnNums.L1b_sound  (N1 := fun w0' a_b' a_l' a_c' i' w' => ∃ m', m' < m ∧ I m' w0' a_b' a_l' a_c' i' w') (fun w0' a_b' a_l' a_c' i' w' hx => by obtain ⟨m', hlt, hI'⟩ := hx; exact ih m' hlt _ w' ⟨w0', a_b', a_l', a_c', i', rfl, hI'⟩) w0 a_b a_l a_c i w (hr m w0 a_b a_l a_c i w hI)
def iplaw_World_OwnNums.B0 (w0 a_b : Option Addr) (a_l a_c : Nat) (w : World)   (R : World → Prop) : Prop :=
  (0 ≤ ((a_c : Nat) : Int) ∧ ((a_c : Nat) : Int) ≤ ((a_c : Nat) : Int)) ∧
  iplaw_World_OwnNums.L1 w0 (slBase a_b ((0 : Nat) : Int) ((a_c : Nat) : Int) 1) (((a_c : Nat) : Int).toNat - ((0 : Nat) : Int).toNat) (((a_c : Nat) : Int).toNat - ((0 : Nat) : Int).toNat) (0 : Int) w  R
theorem iplaw_World_OwnNums.B0_eq (w0 a_b : Option Addr) (a_l a_c : Nat) (w : World)   (R : World → Prop) (sL1 : Option Addr → Option Addr → Nat → Nat → Int → World → Prop) :
    (
  (0 ≤ ((a_c : Nat) : Int) ∧ ((a_c : Nat) : Int) ≤ ((a_c : Nat) : Int)) ∧
  sL1 w0 (slBase a_b ((0 : Nat) : Int) ((a_c : Nat) : Int) 1) (((a_c : Nat) : Int).toNat - ((0 : Nat) : Int).toNat) (((a_c : Nat) : Int).toNat - ((0 : Nat) : Int).toNat) (0 : Int) w) = kstep Try.prog 31 Try.f27.results.toList (Try.f27.body.getD .skip) (iplaw_World_OwnNums.RV R) (kvc Try.prog 31 Try.f27.results.toList (Try.f27.body.getD .skip) (iplaw_World_OwnNums.RV R) [([(0, [1, 0, 1, 0, 0]), (2, [1, 0, 1, 0, 0]), (1, [0]), (0, [1, 1])], fun σ w => dP (slotOf σ 0) fun w0_ => dL (slotOf σ 1) fun a_b_ a_l_ a_c_ => dI .i64 (slotOf σ 4) fun i_ => sL1 w0_ a_b_ a_l_ a_c_ i_ w)] 2000) [(0, [])] [(0, .pointer w0), (1, .slice a_b a_l a_c)] w := by kernel_rfl
theorem iplaw_World_OwnNums.B0_sound {R : World → Prop}  (w0 a_b : Option Addr) (a_l a_c : Nat) (w : World) (h : iplaw_World_OwnNums.B0 w0 a_b a_l a_c w   R) :
    KW Try.prog 27 31 (iplaw_World_OwnNums.RV R) ([(0, [])].map (toItem (Try.f27.body.getD .skip))) [(0, .pointer w0), (1, .slice a_b a_l a_c)] w := by
  exact block_spec Try.func27 Try.mixed (stops_cons (fun σ w h => by
      obtain ⟨w0_, e0, h⟩ := dP_elim h
      obtain ⟨a_b_, a_l_, a_c_, e1, h⟩ := dL_elim h
      obtain ⟨i_, e2, h⟩ := dI_elim h
      exact (iplaw_World_OwnNums.L1_sound  w0_ a_b_ a_l_ a_c_ i_ w h).weaken (Sub.cons (Sub.cons (Sub.cons (Sub.nil _) e2) e1) e0)) stops_nil) (Eq.mp (iplaw_World_OwnNums.B0_eq w0 a_b a_l a_c w   R (fun w0_ a_b_ a_l_ a_c_ i_ w => iplaw_World_OwnNums.L1 w0_ a_b_ a_l_ a_c_ i_ w  R)) h)
theorem iplaw_World_OwnNums.sound (w0 a_b : Option Addr) (a_l a_c : Nat) (w : World) (R : World → Prop) (h : iplaw_World_OwnNums.B0 w0 a_b a_l a_c w R) : iplaw_World_OwnNums.Call w0 a_b a_l a_c w R := by
  have hc := calls_of_block (args := #[.pointer w0, .slice a_b a_l a_c]) Try.func27 (body := (Try.f27.body.getD .skip)) (by kernel_rfl) (by kernel_rfl) (args_slot _) (iplaw_World_OwnNums.B0_sound w0 a_b a_l a_c w h)
  exact hc.mono fun e w' he => by
    obtain ⟨v, rfl, hv⟩ := he
    exact iplaw_World_OwnNums.RV_elim hv
def ip_IP_Addr.B0 (p : Option Addr) (w : World)   (R : Int → World → Prop) : Prop :=
  Pn p fun a =>
  LdI .i64 a w fun x6 =>
  R x6 w
theorem ip_IP_Addr.B0_eq (p : Option Addr) (w : World)   (R : Int → World → Prop)  :
    (
  Pn p fun a =>
  LdI .i64 a w fun x6 =>
  R x6 w) = kstep Try.prog 7 Try.f28.results.toList (Try.f28.body.getD .skip) (ip_IP_Addr.RV R) (kvc Try.prog 7 Try.f28.results.toList (Try.f28.body.getD .skip) (ip_IP_Addr.RV R) [] 2000) [(0, [])] [(0, .pointer p)] w := by kernel_rfl
theorem ip_IP_Addr.B0_sound {R : Int → World → Prop}  (p : Option Addr) (w : World) (h : ip_IP_Addr.B0 p w   R) :
    KW Try.prog 28 7 (ip_IP_Addr.RV R) ([(0, [])].map (toItem (Try.f28.body.getD .skip))) [(0, .pointer p)] w := by
  exact block_spec Try.func28 Try.mixed stops_nil (Eq.mp (ip_IP_Addr.B0_eq p w   R ) h)
theorem ip_IP_Addr.sound (p : Option Addr) (w : World) (R : Int → World → Prop) (h : ip_IP_Addr.B0 p w R) : ip_IP_Addr.Call p w R := by
  have hc := calls_of_block (args := #[.pointer p]) Try.func28 (body := (Try.f28.body.getD .skip)) (by kernel_rfl) (by kernel_rfl) (args_slot _) (ip_IP_Addr.B0_sound p w h)
  exact hc.mono fun e w' he => by
    obtain ⟨v, rfl, hv⟩ := he
    exact ip_IP_Addr.RV_elim hv
def ipm_IP_Addr.B0 (p : Option Addr) (w : World)   (R : Int → World → Prop) : Prop :=
  Pn p fun a =>
  LdI .i64 a w fun x6 =>
  R x6 w
theorem ipm_IP_Addr.B0_eq (p : Option Addr) (w : World)   (R : Int → World → Prop)  :
    (
  Pn p fun a =>
  LdI .i64 a w fun x6 =>
  R x6 w) = kstep Try.prog 7 Try.f29.results.toList (Try.f29.body.getD .skip) (ipm_IP_Addr.RV R) (kvc Try.prog 7 Try.f29.results.toList (Try.f29.body.getD .skip) (ipm_IP_Addr.RV R) [] 2000) [(0, [])] [(0, .pointer p)] w := by kernel_rfl
theorem ipm_IP_Addr.B0_sound {R : Int → World → Prop}  (p : Option Addr) (w : World) (h : ipm_IP_Addr.B0 p w   R) :
    KW Try.prog 29 7 (ipm_IP_Addr.RV R) ([(0, [])].map (toItem (Try.f29.body.getD .skip))) [(0, .pointer p)] w := by
  exact block_spec Try.func29 Try.mixed stops_nil (Eq.mp (ipm_IP_Addr.B0_eq p w   R ) h)
theorem ipm_IP_Addr.sound (p : Option Addr) (w : World) (R : Int → World → Prop) (h : ipm_IP_Addr.B0 p w R) : ipm_IP_Addr.Call p w R := by
  have hc := calls_of_block (args := #[.pointer p]) Try.func29 (body := (Try.f29.body.getD .skip)) (by kernel_rfl) (by kernel_rfl) (args_slot _) (ipm_IP_Addr.B0_sound p w h)
  exact hc.mono fun e w' he => by
    obtain ⟨v, rfl, hv⟩ := he
    exact ipm_IP_Addr.RV_elim hv
def ip_IP_NextId.B0 (p : Option Addr) (w : World)   (R : Int → World → Prop) : Prop :=
  Pn p fun a =>
  LdI .i64 (a.add 1) w fun x6 =>
  R x6 w
theorem ip_IP_NextId.B0_eq (p : Option Addr) (w : World)   (R : Int → World → Prop)  :
    (
  Pn p fun a =>
  LdI .i64 (a.add 1) w fun x6 =>
  R x6 w) = kstep Try.prog 7 Try.f30.results.toList (Try.f30.body.getD .skip) (ip_IP_NextId.RV R) (kvc Try.prog 7 Try.f30.results.toList (Try.f30.body.getD .skip) (ip_IP_NextId.RV R) [] 2000) [(0, [])] [(0, .pointer p)] w := by kernel_rfl
theorem ip_IP_NextId.B0_sound {R : Int → World → Prop}  (p : Option Addr) (w : World) (h : ip_IP_NextId.B0 p w   R) :
    KW Try.prog 30 7 (ip_IP_NextId.RV R) ([(0, [])].map (toItem (Try.f30.body.getD .skip))) [(0, .pointer p)] w := by
  exact block_spec Try.func30 Try.mixed stops_nil (Eq.mp (ip_IP_NextId.B0_eq p w   R ) h)
theorem ip_IP_NextId.sound (p : Option Addr) (w : World) (R : Int → World → Prop) (h : ip_IP_NextId.B0 p w R) : ip_IP_NextId.Call p w R := by
  have hc := calls_of_block (args := #[.pointer p]) Try.func30 (body := (Try.f30.body.getD .skip)) (by kernel_rfl) (by kernel_rfl) (args_slot _) (ip_IP_NextId.B0_sound p w h)
  exact hc.mono fun e w' he => by
    obtain ⟨v, rfl, hv⟩ := he
    exact ip_IP_NextId.RV_elim hv
def ipm_IP_NextId.B0 (p : Option Addr) (w : World)   (R : Int → World → Prop) : Prop :=
  Pn p fun a =>
  LdI .i64 (a.add 1) w fun x6 =>
  R x6 w
theorem ipm_IP_NextId.B0_eq (p : Option Addr) (w : World)   (R : Int → World → Prop)  :
    (
  Pn p fun a =>
  LdI .i64 (a.add 1) w fun x6 =>
  R x6 w) = kstep Try.prog 7 Try.f31.results.toList (Try.f31.body.getD .skip) (ipm_IP_NextId.RV R) (kvc Try.prog 7 Try.f31.results.toList (Try.f31.body.getD .skip) (ipm_IP_NextId.RV R) [] 2000) [(0, [])] [(0, .pointer p)] w := by kernel_rfl
theorem ipm_IP_NextId.B0_sound {R : Int → World → Prop}  (p : Option Addr) (w : World) (h : ipm_IP_NextId.B0 p w   R) :
    KW Try.prog 31 7 (ipm_IP_NextId.RV R) ([(0, [])].map (toItem (Try.f31.body.getD .skip))) [(0, .pointer p)] w := by
  exact block_spec Try.func31 Try.mixed stops_nil (Eq.mp (ipm_IP_NextId.B0_eq p w   R ) h)
theorem ipm_IP_NextId.sound (p : Option Addr) (w : World) (R : Int → World → Prop) (h : ipm_IP_NextId.B0 p w R) : ipm_IP_NextId.Call p w R := by
  have hc := calls_of_block (args := #[.pointer p]) Try.func31 (body := (Try.f31.body.getD .skip)) (by kernel_rfl) (by kernel_rfl) (args_slot _) (ipm_IP_NextId.B0_sound p w h)
  exact hc.mono fun e w' he => by
    obtain ⟨v, rfl, hv⟩ := he
    exact ipm_IP_NextId.RV_elim hv
def ip_IP_Credit.B0 (p : Option Addr) (w : World)   (R : Int → World → Prop) : Prop :=
  Pn p fun a =>
  LdI .i64 (a.add 2) w fun x6 =>
  R x6 w
theorem ip_IP_Credit.B0_eq (p : Option Addr) (w : World)   (R : Int → World → Prop)  :
    (
  Pn p fun a =>
  LdI .i64 (a.add 2) w fun x6 =>
  R x6 w) = kstep Try.prog 7 Try.f32.results.toList (Try.f32.body.getD .skip) (ip_IP_Credit.RV R) (kvc Try.prog 7 Try.f32.results.toList (Try.f32.body.getD .skip) (ip_IP_Credit.RV R) [] 2000) [(0, [])] [(0, .pointer p)] w := by kernel_rfl
theorem ip_IP_Credit.B0_sound {R : Int → World → Prop}  (p : Option Addr) (w : World) (h : ip_IP_Credit.B0 p w   R) :
    KW Try.prog 32 7 (ip_IP_Credit.RV R) ([(0, [])].map (toItem (Try.f32.body.getD .skip))) [(0, .pointer p)] w := by
  exact block_spec Try.func32 Try.mixed stops_nil (Eq.mp (ip_IP_Credit.B0_eq p w   R ) h)
theorem ip_IP_Credit.sound (p : Option Addr) (w : World) (R : Int → World → Prop) (h : ip_IP_Credit.B0 p w R) : ip_IP_Credit.Call p w R := by
  have hc := calls_of_block (args := #[.pointer p]) Try.func32 (body := (Try.f32.body.getD .skip)) (by kernel_rfl) (by kernel_rfl) (args_slot _) (ip_IP_Credit.B0_sound p w h)
  exact hc.mono fun e w' he => by
    obtain ⟨v, rfl, hv⟩ := he
    exact ip_IP_Credit.RV_elim hv
def ipm_IP_Credit.B0 (p : Option Addr) (w : World)   (R : Int → World → Prop) : Prop :=
  Pn p fun a =>
  LdI .i64 (a.add 2) w fun x6 =>
  R x6 w
theorem ipm_IP_Credit.B0_eq (p : Option Addr) (w : World)   (R : Int → World → Prop)  :
    (
  Pn p fun a =>
  LdI .i64 (a.add 2) w fun x6 =>
  R x6 w) = kstep Try.prog 7 Try.f33.results.toList (Try.f33.body.getD .skip) (ipm_IP_Credit.RV R) (kvc Try.prog 7 Try.f33.results.toList (Try.f33.body.getD .skip) (ipm_IP_Credit.RV R) [] 2000) [(0, [])] [(0, .pointer p)] w := by kernel_rfl
theorem ipm_IP_Credit.B0_sound {R : Int → World → Prop}  (p : Option Addr) (w : World) (h : ipm_IP_Credit.B0 p w   R) :
    KW Try.prog 33 7 (ipm_IP_Credit.RV R) ([(0, [])].map (toItem (Try.f33.body.getD .skip))) [(0, .pointer p)] w := by
  exact block_spec Try.func33 Try.mixed stops_nil (Eq.mp (ipm_IP_Credit.B0_eq p w   R ) h)
theorem ipm_IP_Credit.sound (p : Option Addr) (w : World) (R : Int → World → Prop) (h : ipm_IP_Credit.B0 p w R) : ipm_IP_Credit.Call p w R := by
  have hc := calls_of_block (args := #[.pointer p]) Try.func33 (body := (Try.f33.body.getD .skip)) (by kernel_rfl) (by kernel_rfl) (args_slot _) (ipm_IP_Credit.B0_sound p w h)
  exact hc.mono fun e w' he => by
    obtain ⟨v, rfl, hv⟩ := he
    exact ipm_IP_Credit.RV_elim hv
def ip_IP_Pending.L1b (p : Option Addr) (r : Nat) (out_b : Option Addr) (out_l out_c : Nat) (j : Int) (w : World)  (N1 : Option Addr → Nat → Option Addr → Nat → Nat → Int → World → Prop) (R : Option Addr → Nat → Nat → World → Prop) : Prop :=
  LdI .i64 ⟨r, 3, none⟩ w fun x16 =>
  Bm (decide (j < x16)) (
    (0 ≤ j ∧ j < ((3 : Nat) : Int)) ∧
    LdI .i64 (Addr.add ⟨r, 0, none⟩ (j.toNat * 1)) w fun x23 =>
    Pn p fun a =>
    (0 ≤ x23 ∧ x23 < ((3 : Nat) : Int)) ∧
    LdI .i64 ((Addr.add (a.add 3) (x23.toNat * 45)).add 1) w fun x30 =>
    Pn p fun a_1 =>
    (0 ≤ x23 ∧ x23 < ((3 : Nat) : Int)) ∧
    LdI .u64 ((Addr.add (a_1.add 3) (x23.toNat * 45)).add 4) w fun x37 =>
    ip_count.Call x37 w fun r38 w1 =>
    0 ≤ (16 : Int) ∧
    0 ≤ (8 : Int) ∧
    Pn p fun a_2 =>
    (0 ≤ x23 ∧ x23 < ((3 : Nat) : Int)) ∧
    LdI .i64 ((Addr.add (a_2.add 3) (x23.toNat * 45)).add 2) w1.drew fun x54 =>
    Pn p fun a_3 =>
    (0 ≤ x23 ∧ x23 < ((3 : Nat) : Int)) ∧
    LdI .i64 ((Addr.add (a_3.add 3) (x23.toNat * 45)).add 3) w1.drew fun x61 =>
    Pn out_b fun a_4 =>
    (0 ≤ j ∧ j < ((out_l : Nat) : Int)) ∧
    Sts [.int .i64 (x30.fdiv (2 ^ (min (16 : Int).toNat IntKind.i64.bits))), .int .i64 (IntKind.i64.wrap (BitVec.ofInt IntKind.i64.bits (x30.fdiv (2 ^ (min (8 : Int).toNat IntKind.i64.bits))) &&& BitVec.ofInt IntKind.i64.bits (255 : Int)).toNat), .int .i64 (IntKind.i64.wrap (BitVec.ofInt IntKind.i64.bits x30 &&& BitVec.ofInt IntKind.i64.bits (255 : Int)).toNat), .int .i64 x54, .int .i64 x61, .int .i64 r38] (Addr.add a_4 (j.toNat * 6)) 0 w1.drew fun w2 =>
    N1 p r out_b out_l out_c (IntKind.i64.wrap (j + (1 : Int))) w2) (
    R out_b out_l out_c w)
theorem ip_IP_Pending.L1b_eq (p : Option Addr) (r : Nat) (out_b : Option Addr) (out_l out_c : Nat) (j : Int) (w : World)  (N1 : Option Addr → Nat → Option Addr → Nat → Nat → Int → World → Prop) (R : Option Addr → Nat → Nat → World → Prop)  :
    (
  LdI .i64 ⟨r, 3, none⟩ w fun x16 =>
  Bm (decide (j < x16)) (
    (0 ≤ j ∧ j < ((3 : Nat) : Int)) ∧
    LdI .i64 (Addr.add ⟨r, 0, none⟩ (j.toNat * 1)) w fun x23 =>
    Pn p fun a =>
    (0 ≤ x23 ∧ x23 < ((3 : Nat) : Int)) ∧
    LdI .i64 ((Addr.add (a.add 3) (x23.toNat * 45)).add 1) w fun x30 =>
    Pn p fun a_1 =>
    (0 ≤ x23 ∧ x23 < ((3 : Nat) : Int)) ∧
    LdI .u64 ((Addr.add (a_1.add 3) (x23.toNat * 45)).add 4) w fun x37 =>
    ip_count.Call x37 w fun r38 w1 =>
    0 ≤ (16 : Int) ∧
    0 ≤ (8 : Int) ∧
    Pn p fun a_2 =>
    (0 ≤ x23 ∧ x23 < ((3 : Nat) : Int)) ∧
    LdI .i64 ((Addr.add (a_2.add 3) (x23.toNat * 45)).add 2) w1.drew fun x54 =>
    Pn p fun a_3 =>
    (0 ≤ x23 ∧ x23 < ((3 : Nat) : Int)) ∧
    LdI .i64 ((Addr.add (a_3.add 3) (x23.toNat * 45)).add 3) w1.drew fun x61 =>
    Pn out_b fun a_4 =>
    (0 ≤ j ∧ j < ((out_l : Nat) : Int)) ∧
    Sts [.int .i64 (x30.fdiv (2 ^ (min (16 : Int).toNat IntKind.i64.bits))), .int .i64 (IntKind.i64.wrap (BitVec.ofInt IntKind.i64.bits (x30.fdiv (2 ^ (min (8 : Int).toNat IntKind.i64.bits))) &&& BitVec.ofInt IntKind.i64.bits (255 : Int)).toNat), .int .i64 (IntKind.i64.wrap (BitVec.ofInt IntKind.i64.bits x30 &&& BitVec.ofInt IntKind.i64.bits (255 : Int)).toNat), .int .i64 x54, .int .i64 x61, .int .i64 r38] (Addr.add a_4 (j.toNat * 6)) 0 w1.drew fun w2 =>
    N1 p r out_b out_l out_c (IntKind.i64.wrap (j + (1 : Int))) w2) (
    R out_b out_l out_c w)) = kstep Try.prog 66 Try.f34.results.toList (Try.f34.body.getD .skip) (ip_IP_Pending.RV R) (kvc Try.prog 66 Try.f34.results.toList (Try.f34.body.getD .skip) (ip_IP_Pending.RV R) [([(0, [1, 1, 1, 0, 1, 0, 0]), (2, [1, 1, 1, 0, 1, 0, 0]), (1, [0]), (0, [1, 1, 1, 1])], fun σ w => dP (slotOf σ 0) fun p_ => dK (slotOf σ 3) fun r_ => dL (slotOf σ 4) fun out_b_ out_l_ out_c_ => dI .i64 (slotOf σ 5) fun j_ => N1 p_ r_ out_b_ out_l_ out_c_ j_ w)] 2000) [(0, [1, 1, 1, 0, 1, 0, 0]), (2, [1, 1, 1, 0, 1, 0, 0]), (1, [0]), (0, [1, 1, 1, 1])] [(0, .pointer p), (3, .pointer (some ⟨r, 0, none⟩)), (4, .slice out_b out_l out_c), (5, .int .i64 j)] w := by kernel_rfl
theorem ip_IP_Pending.L1b_sound {R : Option Addr → Nat → Nat → World → Prop} {N1 : Option Addr → Nat → Option Addr → Nat → Nat → Int → World → Prop} (hN1 : ∀ p r out_b out_l out_c j w, N1 p r out_b out_l out_c j w → KW Try.prog 34 66 (ip_IP_Pending.RV R) ([(0, [1, 1, 1, 0, 1, 0, 0]), (2, [1, 1, 1, 0, 1, 0, 0]), (1, [0]), (0, [1, 1, 1, 1])].map (toItem (Try.f34.body.getD .skip))) [(0, .pointer p), (3, .pointer (some ⟨r, 0, none⟩)), (4, .slice out_b out_l out_c), (5, .int .i64 j)] w) (p : Option Addr) (r : Nat) (out_b : Option Addr) (out_l out_c : Nat) (j : Int) (w : World) (h : ip_IP_Pending.L1b p r out_b out_l out_c j w  N1 R) :
    KW Try.prog 34 66 (ip_IP_Pending.RV R) ([(0, [1, 1, 1, 0, 1, 0, 0]), (2, [1, 1, 1, 0, 1, 0, 0]), (1, [0]), (0, [1, 1, 1, 1])].map (toItem (Try.f34.body.getD .skip))) [(0, .pointer p), (3, .pointer (some ⟨r, 0, none⟩)), (4, .slice out_b out_l out_c), (5, .int .i64 j)] w := by
  exact block_spec Try.func34 Try.mixed (stops_cons (fun σ w h => by
      obtain ⟨p_, e0, h⟩ := dP_elim h
      obtain ⟨r_, e1, h⟩ := dK_elim h
      obtain ⟨out_b_, out_l_, out_c_, e2, h⟩ := dL_elim h
      obtain ⟨j_, e3, h⟩ := dI_elim h
      exact (hN1 p_ r_ out_b_ out_l_ out_c_ j_ w h).weaken (Sub.cons (Sub.cons (Sub.cons (Sub.cons (Sub.nil _) e3) e2) e1) e0)) stops_nil) (Eq.mp (ip_IP_Pending.L1b_eq p r out_b out_l out_c j w  N1 R ) h)
def ip_IP_Pending.L1 (p : Option Addr) (r : Nat) (out_b : Option Addr) (out_l out_c : Nat) (j : Int) (w : World)  (R : Option Addr → Nat → Nat → World → Prop) : Prop :=
  ∃ (I : Nat → Option Addr → Nat → Option Addr → Nat → Nat → Int → World → Prop) (m : Nat), I m p r out_b out_l out_c j w ∧ ∀ m p r out_b out_l out_c j w, I m p r out_b out_l out_c j w → ip_IP_Pending.L1b p r out_b out_l out_c j w  (fun p' r' out_b' out_l' out_c' j' w' => ∃ m', m' < m ∧ I m' p' r' out_b' out_l' out_c' j' w') R
theorem ip_IP_Pending.L1_sound {R : Option Addr → Nat → Nat → World → Prop}  (p : Option Addr) (r : Nat) (out_b : Option Addr) (out_l out_c : Nat) (j : Int) (w : World) (h : ip_IP_Pending.L1 p r out_b out_l out_c j w  R) :
    KW Try.prog 34 66 (ip_IP_Pending.RV R) ([(0, [1, 1, 1, 0, 1, 0, 0]), (2, [1, 1, 1, 0, 1, 0, 0]), (1, [0]), (0, [1, 1, 1, 1])].map (toItem (Try.f34.body.getD .skip))) [(0, .pointer p), (3, .pointer (some ⟨r, 0, none⟩)), (4, .slice out_b out_l out_c), (5, .int .i64 j)] w := by
  obtain ⟨I, m, h0, hr⟩ := h
  refine KW.loop (fun m σ w => ∃ (p : Option Addr) (r : Nat) (out_b : Option Addr) (out_l out_c : Nat) (j : Int), σ = [(0, .pointer p), (3, .pointer (some ⟨r, 0, none⟩)), (4, .slice out_b out_l out_c), (5, .int .i64 j)] ∧ I m p r out_b out_l out_c j w) ?_ m _ w ⟨p, r, out_b, out_l, out_c, j, rfl, h0⟩
  rintro m ih σ w ⟨p, r, out_b, out_l, out_c, j, rfl, hI⟩
  exact ip_IP_Pending.L1b_sound  (N1 := fun p' r' out_b' out_l' out_c' j' w' => ∃ m', m' < m ∧ I m' p' r' out_b' out_l' out_c' j' w') (fun p' r' out_b' out_l' out_c' j' w' hx => by obtain ⟨m', hlt, hI'⟩ := hx; exact ih m' hlt _ w' ⟨p', r', out_b', out_l', out_c', j', rfl, hI'⟩) p r out_b out_l out_c j w (hr m p r out_b out_l out_c j w hI)
def ip_IP_Pending.B0 (p : Option Addr) (w : World)   (R : Option Addr → Nat → Nat → World → Prop) : Prop :=
  ip_IP_sorted.Call p w fun r10_0 r10_1 r10_2 r10_3 w1 =>
  New (.cells #[.int .i64 (0 : Int), .int .i64 (0 : Int), .int .i64 (0 : Int), .int .i64 (0 : Int)] 89) w1 fun r_ w2 =>
  Sts [.int .i64 r10_0, .int .i64 r10_1, .int .i64 r10_2, .int .i64 r10_3] ⟨r_, 0, none⟩ 0 w2 fun w3 =>
  LdI .i64 ⟨r_, 3, none⟩ w3 fun x12 =>
  Make 70 (.agg #[.int .i64 (0 : Int), .int .i64 (0 : Int), .int .i64 (0 : Int), .int .i64 (0 : Int), .int .i64 (0 : Int), .int .i64 (0 : Int)]) 6 48 x12 x12 w3 fun b13 w4 =>
  ip_IP_Pending.L1 p r_ (some ⟨b13, 0, none⟩) x12.toNat x12.toNat (0 : Int) w4  R
theorem ip_IP_Pending.B0_eq (p : Option Addr) (w : World)   (R : Option Addr → Nat → Nat → World → Prop) (sL1 : Option Addr → Nat → Option Addr → Nat → Nat → Int → World → Prop) :
    (
  ip_IP_sorted.Call p w fun r10_0 r10_1 r10_2 r10_3 w1 =>
  New (.cells #[.int .i64 (0 : Int), .int .i64 (0 : Int), .int .i64 (0 : Int), .int .i64 (0 : Int)] 89) w1 fun r_ w2 =>
  Sts [.int .i64 r10_0, .int .i64 r10_1, .int .i64 r10_2, .int .i64 r10_3] ⟨r_, 0, none⟩ 0 w2 fun w3 =>
  LdI .i64 ⟨r_, 3, none⟩ w3 fun x12 =>
  Make 70 (.agg #[.int .i64 (0 : Int), .int .i64 (0 : Int), .int .i64 (0 : Int), .int .i64 (0 : Int), .int .i64 (0 : Int), .int .i64 (0 : Int)]) 6 48 x12 x12 w3 fun b13 w4 =>
  sL1 p r_ (some ⟨b13, 0, none⟩) x12.toNat x12.toNat (0 : Int) w4) = kstep Try.prog 66 Try.f34.results.toList (Try.f34.body.getD .skip) (ip_IP_Pending.RV R) (kvc Try.prog 66 Try.f34.results.toList (Try.f34.body.getD .skip) (ip_IP_Pending.RV R) [([(0, [1, 1, 1, 0, 1, 0, 0]), (2, [1, 1, 1, 0, 1, 0, 0]), (1, [0]), (0, [1, 1, 1, 1])], fun σ w => dP (slotOf σ 0) fun p_ => dK (slotOf σ 3) fun r_ => dL (slotOf σ 4) fun out_b_ out_l_ out_c_ => dI .i64 (slotOf σ 5) fun j_ => sL1 p_ r_ out_b_ out_l_ out_c_ j_ w)] 2000) [(0, [])] [(0, .pointer p)] w := by kernel_rfl
theorem ip_IP_Pending.B0_sound {R : Option Addr → Nat → Nat → World → Prop}  (p : Option Addr) (w : World) (h : ip_IP_Pending.B0 p w   R) :
    KW Try.prog 34 66 (ip_IP_Pending.RV R) ([(0, [])].map (toItem (Try.f34.body.getD .skip))) [(0, .pointer p)] w := by
  exact block_spec Try.func34 Try.mixed (stops_cons (fun σ w h => by
      obtain ⟨p_, e0, h⟩ := dP_elim h
      obtain ⟨r_, e1, h⟩ := dK_elim h
      obtain ⟨out_b_, out_l_, out_c_, e2, h⟩ := dL_elim h
      obtain ⟨j_, e3, h⟩ := dI_elim h
      exact (ip_IP_Pending.L1_sound  p_ r_ out_b_ out_l_ out_c_ j_ w h).weaken (Sub.cons (Sub.cons (Sub.cons (Sub.cons (Sub.nil _) e3) e2) e1) e0)) stops_nil) (Eq.mp (ip_IP_Pending.B0_eq p w   R (fun p_ r_ out_b_ out_l_ out_c_ j_ w => ip_IP_Pending.L1 p_ r_ out_b_ out_l_ out_c_ j_ w  R)) h)
theorem ip_IP_Pending.sound (p : Option Addr) (w : World) (R : Option Addr → Nat → Nat → World → Prop) (h : ip_IP_Pending.B0 p w R) : ip_IP_Pending.Call p w R := by
  have hc := calls_of_block (args := #[.pointer p]) Try.func34 (body := (Try.f34.body.getD .skip)) (by kernel_rfl) (by kernel_rfl) (args_slot _) (ip_IP_Pending.B0_sound p w h)
  exact hc.mono fun e w' he => by
    obtain ⟨v, rfl, hv⟩ := he
    exact ip_IP_Pending.RV_elim hv
def ipm_IP_Pending.L1b (p out_b : Option Addr) (out_l out_c : Nat) (i : Int) (w : World)  (N1 : Option Addr → Option Addr → Nat → Nat → Int → World → Prop) (R : Option Addr → Nat → Nat → World → Prop) : Prop :=
  Pn p fun a =>
  LdL (a.add 3) w fun x16_b x16_l x16_c =>
  Bm (decide (i < ((x16_l : Nat) : Int))) (
    ipm_IP_have.Call p i w fun r23 w1 =>
    Pn p fun a_1 =>
    LdL (a_1.add 3) w1.drew fun x28_b x28_l x28_c =>
    Pn x28_b fun a_2 =>
    (0 ≤ i ∧ i < ((x28_l : Nat) : Int)) ∧
    LdI .i64 (Addr.add a_2 (i.toNat * 6)) w1.drew fun x32 =>
    Pn p fun a_3 =>
    LdL (a_3.add 3) w1.drew fun x36_b x36_l x36_c =>
    Pn x36_b fun a_4 =>
    (0 ≤ i ∧ i < ((x36_l : Nat) : Int)) ∧
    LdI .i64 ((Addr.add a_4 (i.toNat * 6)).add 1) w1.drew fun x40 =>
    Pn p fun a_5 =>
    LdL (a_5.add 3) w1.drew fun x44_b x44_l x44_c =>
    Pn x44_b fun a_6 =>
    (0 ≤ i ∧ i < ((x44_l : Nat) : Int)) ∧
    LdI .i64 ((Addr.add a_6 (i.toNat * 6)).add 2) w1.drew fun x48 =>
    Pn p fun a_7 =>
    LdL (a_7.add 3) w1.drew fun x52_b x52_l x52_c =>
    Pn x52_b fun a_8 =>
    (0 ≤ i ∧ i < ((x52_l : Nat) : Int)) ∧
    LdI .i64 ((Addr.add a_8 (i.toNat * 6)).add 3) w1.drew fun x56 =>
    Pn p fun a_9 =>
    LdL (a_9.add 3) w1.drew fun x60_b x60_l x60_c =>
    Pn x60_b fun a_10 =>
    (0 ≤ i ∧ i < ((x60_l : Nat) : Int)) ∧
    LdI .i64 ((Addr.add a_10 (i.toNat * 6)).add 4) w1.drew fun x64 =>
    New (.cells #[.int .i64 x32, .int .i64 x40, .int .i64 x48, .int .i64 x56, .int .i64 x64, .int .i64 r23] 70) w1.drew fun b67 w2 =>
    Append 70 (.agg #[.int .i64 (0 : Int), .int .i64 (0 : Int), .int .i64 (0 : Int), .int .i64 (0 : Int), .int .i64 (0 : Int), .int .i64 (0 : Int)]) 6 48 out_b out_l out_c (some ⟨b67, 0, none⟩) 1 w2 fun b68 c68 w3 =>
    N1 p b68 (out_l + 1) c68 (IntKind.i64.wrap (i + (1 : Int))) w3) (
    R out_b out_l out_c w)
theorem ipm_IP_Pending.L1b_eq (p out_b : Option Addr) (out_l out_c : Nat) (i : Int) (w : World)  (N1 : Option Addr → Option Addr → Nat → Nat → Int → World → Prop) (R : Option Addr → Nat → Nat → World → Prop)  :
    (
  Pn p fun a =>
  LdL (a.add 3) w fun x16_b x16_l x16_c =>
  Bm (decide (i < ((x16_l : Nat) : Int))) (
    ipm_IP_have.Call p i w fun r23 w1 =>
    Pn p fun a_1 =>
    LdL (a_1.add 3) w1.drew fun x28_b x28_l x28_c =>
    Pn x28_b fun a_2 =>
    (0 ≤ i ∧ i < ((x28_l : Nat) : Int)) ∧
    LdI .i64 (Addr.add a_2 (i.toNat * 6)) w1.drew fun x32 =>
    Pn p fun a_3 =>
    LdL (a_3.add 3) w1.drew fun x36_b x36_l x36_c =>
    Pn x36_b fun a_4 =>
    (0 ≤ i ∧ i < ((x36_l : Nat) : Int)) ∧
    LdI .i64 ((Addr.add a_4 (i.toNat * 6)).add 1) w1.drew fun x40 =>
    Pn p fun a_5 =>
    LdL (a_5.add 3) w1.drew fun x44_b x44_l x44_c =>
    Pn x44_b fun a_6 =>
    (0 ≤ i ∧ i < ((x44_l : Nat) : Int)) ∧
    LdI .i64 ((Addr.add a_6 (i.toNat * 6)).add 2) w1.drew fun x48 =>
    Pn p fun a_7 =>
    LdL (a_7.add 3) w1.drew fun x52_b x52_l x52_c =>
    Pn x52_b fun a_8 =>
    (0 ≤ i ∧ i < ((x52_l : Nat) : Int)) ∧
    LdI .i64 ((Addr.add a_8 (i.toNat * 6)).add 3) w1.drew fun x56 =>
    Pn p fun a_9 =>
    LdL (a_9.add 3) w1.drew fun x60_b x60_l x60_c =>
    Pn x60_b fun a_10 =>
    (0 ≤ i ∧ i < ((x60_l : Nat) : Int)) ∧
    LdI .i64 ((Addr.add a_10 (i.toNat * 6)).add 4) w1.drew fun x64 =>
    New (.cells #[.int .i64 x32, .int .i64 x40, .int .i64 x48, .int .i64 x56, .int .i64 x64, .int .i64 r23] 70) w1.drew fun b67 w2 =>
    Append 70 (.agg #[.int .i64 (0 : Int), .int .i64 (0 : Int), .int .i64 (0 : Int), .int .i64 (0 : Int), .int .i64 (0 : Int), .int .i64 (0 : Int)]) 6 48 out_b out_l out_c (some ⟨b67, 0, none⟩) 1 w2 fun b68 c68 w3 =>
    N1 p b68 (out_l + 1) c68 (IntKind.i64.wrap (i + (1 : Int))) w3) (
    R out_b out_l out_c w)) = kstep Try.prog 70 Try.f35.results.toList (Try.f35.body.getD .skip) (ipm_IP_Pending.RV R) (kvc Try.prog 70 Try.f35.results.toList (Try.f35.body.getD .skip) (ipm_IP_Pending.RV R) [([(0, [1, 1, 0, 1, 0, 0]), (2, [1, 1, 0, 1, 0, 0]), (1, [0]), (0, [1, 1, 1])], fun σ w => dP (slotOf σ 0) fun p_ => dL (slotOf σ 3) fun out_b_ out_l_ out_c_ => dI .i64 (slotOf σ 4) fun i_ => N1 p_ out_b_ out_l_ out_c_ i_ w)] 2000) [(0, [1, 1, 0, 1, 0, 0]), (2, [1, 1, 0, 1, 0, 0]), (1, [0]), (0, [1, 1, 1])] [(0, .pointer p), (3, .slice out_b out_l out_c), (4, .int .i64 i)] w := by kernel_rfl
theorem ipm_IP_Pending.L1b_sound {R : Option Addr → Nat → Nat → World → Prop} {N1 : Option Addr → Option Addr → Nat → Nat → Int → World → Prop} (hN1 : ∀ p out_b out_l out_c i w, N1 p out_b out_l out_c i w → KW Try.prog 35 70 (ipm_IP_Pending.RV R) ([(0, [1, 1, 0, 1, 0, 0]), (2, [1, 1, 0, 1, 0, 0]), (1, [0]), (0, [1, 1, 1])].map (toItem (Try.f35.body.getD .skip))) [(0, .pointer p), (3, .slice out_b out_l out_c), (4, .int .i64 i)] w) (p out_b : Option Addr) (out_l out_c : Nat) (i : Int) (w : World) (h : ipm_IP_Pending.L1b p out_b out_l out_c i w  N1 R) :
    KW Try.prog 35 70 (ipm_IP_Pending.RV R) ([(0, [1, 1, 0, 1, 0, 0]), (2, [1, 1, 0, 1, 0, 0]), (1, [0]), (0, [1, 1, 1])].map (toItem (Try.f35.body.getD .skip))) [(0, .pointer p), (3, .slice out_b out_l out_c), (4, .int .i64 i)] w := by
  exact block_spec Try.func35 Try.mixed (stops_cons (fun σ w h => by
      obtain ⟨p_, e0, h⟩ := dP_elim h
      obtain ⟨out_b_, out_l_, out_c_, e1, h⟩ := dL_elim h
      obtain ⟨i_, e2, h⟩ := dI_elim h
      exact (hN1 p_ out_b_ out_l_ out_c_ i_ w h).weaken (Sub.cons (Sub.cons (Sub.cons (Sub.nil _) e2) e1) e0)) stops_nil) (Eq.mp (ipm_IP_Pending.L1b_eq p out_b out_l out_c i w  N1 R ) h)
def ipm_IP_Pending.L1 (p out_b : Option Addr) (out_l out_c : Nat) (i : Int) (w : World)  (R : Option Addr → Nat → Nat → World → Prop) : Prop :=
  ∃ (I : Nat → Option Addr → Option Addr → Nat → Nat → Int → World → Prop) (m : Nat), I m p out_b out_l out_c i w ∧ ∀ m p out_b out_l out_c i w, I m p out_b out_l out_c i w → ipm_IP_Pending.L1b p out_b out_l out_c i w  (fun p' out_b' out_l' out_c' i' w' => ∃ m', m' < m ∧ I m' p' out_b' out_l' out_c' i' w') R
theorem ipm_IP_Pending.L1_sound {R : Option Addr → Nat → Nat → World → Prop}  (p out_b : Option Addr) (out_l out_c : Nat) (i : Int) (w : World) (h : ipm_IP_Pending.L1 p out_b out_l out_c i w  R) :
    KW Try.prog 35 70 (ipm_IP_Pending.RV R) ([(0, [1, 1, 0, 1, 0, 0]), (2, [1, 1, 0, 1, 0, 0]), (1, [0]), (0, [1, 1, 1])].map (toItem (Try.f35.body.getD .skip))) [(0, .pointer p), (3, .slice out_b out_l out_c), (4, .int .i64 i)] w := by
  obtain ⟨I, m, h0, hr⟩ := h
  refine KW.loop (fun m σ w => ∃ (p out_b : Option Addr) (out_l out_c : Nat) (i : Int), σ = [(0, .pointer p), (3, .slice out_b out_l out_c), (4, .int .i64 i)] ∧ I m p out_b out_l out_c i w) ?_ m _ w ⟨p, out_b, out_l, out_c, i, rfl, h0⟩
  rintro m ih σ w ⟨p, out_b, out_l, out_c, i, rfl, hI⟩
  exact ipm_IP_Pending.L1b_sound  (N1 := fun p' out_b' out_l' out_c' i' w' => ∃ m', m' < m ∧ I m' p' out_b' out_l' out_c' i' w') (fun p' out_b' out_l' out_c' i' w' hx => by obtain ⟨m', hlt, hI'⟩ := hx; exact ih m' hlt _ w' ⟨p', out_b', out_l', out_c', i', rfl, hI'⟩) p out_b out_l out_c i w (hr m p out_b out_l out_c i w hI)
def ipm_IP_Pending.B0 (p : Option Addr) (w : World)   (R : Option Addr → Nat → Nat → World → Prop) : Prop :=
  Pn p fun a =>
  LdL (a.add 3) w fun x9_b x9_l x9_c =>
  Make 70 (.agg #[.int .i64 (0 : Int), .int .i64 (0 : Int), .int .i64 (0 : Int), .int .i64 (0 : Int), .int .i64 (0 : Int), .int .i64 (0 : Int)]) 6 48 (0 : Int) ((x9_l : Nat) : Int) w fun b11 w1 =>
  ipm_IP_Pending.L1 p (some ⟨b11, 0, none⟩) 0 (((x9_l : Nat) : Int).toNat) (0 : Int) w1  R
theorem ipm_IP_Pending.B0_eq (p : Option Addr) (w : World)   (R : Option Addr → Nat → Nat → World → Prop) (sL1 : Option Addr → Option Addr → Nat → Nat → Int → World → Prop) :
    (
  Pn p fun a =>
  LdL (a.add 3) w fun x9_b x9_l x9_c =>
  Make 70 (.agg #[.int .i64 (0 : Int), .int .i64 (0 : Int), .int .i64 (0 : Int), .int .i64 (0 : Int), .int .i64 (0 : Int), .int .i64 (0 : Int)]) 6 48 (0 : Int) ((x9_l : Nat) : Int) w fun b11 w1 =>
  sL1 p (some ⟨b11, 0, none⟩) 0 (((x9_l : Nat) : Int).toNat) (0 : Int) w1) = kstep Try.prog 70 Try.f35.results.toList (Try.f35.body.getD .skip) (ipm_IP_Pending.RV R) (kvc Try.prog 70 Try.f35.results.toList (Try.f35.body.getD .skip) (ipm_IP_Pending.RV R) [([(0, [1, 1, 0, 1, 0, 0]), (2, [1, 1, 0, 1, 0, 0]), (1, [0]), (0, [1, 1, 1])], fun σ w => dP (slotOf σ 0) fun p_ => dL (slotOf σ 3) fun out_b_ out_l_ out_c_ => dI .i64 (slotOf σ 4) fun i_ => sL1 p_ out_b_ out_l_ out_c_ i_ w)] 2000) [(0, [])] [(0, .pointer p)] w := by kernel_rfl
theorem ipm_IP_Pending.B0_sound {R : Option Addr → Nat → Nat → World → Prop}  (p : Option Addr) (w : World) (h : ipm_IP_Pending.B0 p w   R) :
    KW Try.prog 35 70 (ipm_IP_Pending.RV R) ([(0, [])].map (toItem (Try.f35.body.getD .skip))) [(0, .pointer p)] w := by
  exact block_spec Try.func35 Try.mixed (stops_cons (fun σ w h => by
      obtain ⟨p_, e0, h⟩ := dP_elim h
      obtain ⟨out_b_, out_l_, out_c_, e1, h⟩ := dL_elim h
      obtain ⟨i_, e2, h⟩ := dI_elim h
      exact (ipm_IP_Pending.L1_sound  p_ out_b_ out_l_ out_c_ i_ w h).weaken (Sub.cons (Sub.cons (Sub.cons (Sub.nil _) e2) e1) e0)) stops_nil) (Eq.mp (ipm_IP_Pending.B0_eq p w   R (fun p_ out_b_ out_l_ out_c_ i_ w => ipm_IP_Pending.L1 p_ out_b_ out_l_ out_c_ i_ w  R)) h)
theorem ipm_IP_Pending.sound (p : Option Addr) (w : World) (R : Option Addr → Nat → Nat → World → Prop) (h : ipm_IP_Pending.B0 p w R) : ipm_IP_Pending.Call p w R := by
  have hc := calls_of_block (args := #[.pointer p]) Try.func35 (body := (Try.f35.body.getD .skip)) (by kernel_rfl) (by kernel_rfl) (args_slot _) (ipm_IP_Pending.B0_sound p w h)
  exact hc.mono fun e w' he => by
    obtain ⟨v, rfl, hv⟩ := he
    exact ipm_IP_Pending.RV_elim hv
def ip_IP_Peek.B2 (p : Option Addr) (i : Int) (out_b : Option Addr) (out_l out_c : Nat) (k : Int) (w : World) (N1 : Option Addr → Int → Option Addr → Nat → Nat → Int → World → Prop)  (R : Option Addr → Nat → Nat → World → Prop) : Prop :=
  N1 p i out_b out_l out_c (IntKind.i64.wrap (k + (1 : Int))) w
theorem ip_IP_Peek.B2_eq (p : Option Addr) (i : Int) (out_b : Option Addr) (out_l out_c : Nat) (k : Int) (w : World) (N1 : Option Addr → Int → Option Addr → Nat → Nat → Int → World → Prop)  (R : Option Addr → Nat → Nat → World → Prop)  :
    (
  N1 p i out_b out_l out_c (IntKind.i64.wrap (k + (1 : Int))) w) = kstep Try.prog 58 Try.f36.results.toList (Try.f36.body.getD .skip) (ip_IP_Peek.RV R) (kvc Try.prog 58 Try.f36.results.toList (Try.f36.body.getD .skip) (ip_IP_Peek.RV R) [([(0, [1, 1, 1, 1, 1, 0, 1, 0, 0]), (2, [1, 1, 1, 1, 1, 0, 1, 0, 0]), (1, [0]), (0, [1, 1, 1, 1, 1, 1])], fun σ w => dP (slotOf σ 0) fun p_ => dI .i64 (slotOf σ 6) fun i_ => dL (slotOf σ 7) fun out_b_ out_l_ out_c_ => dI .i64 (slotOf σ 8) fun k_ => N1 p_ i_ out_b_ out_l_ out_c_ k_ w)] 2000) [(0, [1, 1, 1, 1, 1, 0, 1, 0, 0, 1, 1]), (2, [1, 1, 1, 1, 1, 0, 1, 0, 0]), (1, [0]), (0, [1, 1, 1, 1, 1, 1])] [(0, .pointer p), (6, .int .i64 i), (7, .slice out_b out_l out_c), (8, .int .i64 k)] w := by kernel_rfl
theorem ip_IP_Peek.B2_sound {R : Option Addr → Nat → Nat → World → Prop} {N1 : Option Addr → Int → Option Addr → Nat → Nat → Int → World → Prop} (hN1 : ∀ p i out_b out_l out_c k w, N1 p i out_b out_l out_c k w → KW Try.prog 36 58 (ip_IP_Peek.RV R) ([(0, [1, 1, 1, 1, 1, 0, 1, 0, 0]), (2, [1, 1, 1, 1, 1, 0, 1, 0, 0]), (1, [0]), (0, [1, 1, 1, 1, 1, 1])].map (toItem (Try.f36.body.getD .skip))) [(0, .pointer p), (6, .int .i64 i), (7, .slice out_b out_l out_c), (8, .int .i64 k)] w) (p : Option Addr) (i : Int) (out_b : Option Addr) (out_l out_c : Nat) (k : Int) (w : World) (h : ip_IP_Peek.B2 p i out_b out_l out_c k w N1  R) :
    KW Try.prog 36 58 (ip_IP_Peek.RV R) ([(0, [1, 1, 1, 1, 1, 0, 1, 0, 0, 1, 1]), (2, [1, 1, 1, 1, 1, 0, 1, 0, 0]), (1, [0]), (0, [1, 1, 1, 1, 1, 1])].map (toItem (Try.f36.body.getD .skip))) [(0, .pointer p), (6, .int .i64 i), (7, .slice out_b out_l out_c), (8, .int .i64 k)] w := by
  exact block_spec Try.func36 Try.mixed (stops_cons (fun σ w h => by
      obtain ⟨p_, e0, h⟩ := dP_elim h
      obtain ⟨i_, e1, h⟩ := dI_elim h
      obtain ⟨out_b_, out_l_, out_c_, e2, h⟩ := dL_elim h
      obtain ⟨k_, e3, h⟩ := dI_elim h
      exact (hN1 p_ i_ out_b_ out_l_ out_c_ k_ w h).weaken (Sub.cons (Sub.cons (Sub.cons (Sub.cons (Sub.nil _) e3) e2) e1) e0)) stops_nil) (Eq.mp (ip_IP_Peek.B2_eq p i out_b out_l out_c k w N1  R ) h)
def ip_IP_Peek.L1b (p : Option Addr) (i : Int) (out_b : Option Addr) (out_l out_c : Nat) (k : Int) (w : World)  (N1 : Option Addr → Int → Option Addr → Nat → Nat → Int → World → Prop) (R : Option Addr → Nat → Nat → World → Prop) : Prop :=
  Bm (decide (k < (40 : Int))) (
    Pn out_b fun a =>
    (0 ≤ k ∧ k < ((out_l : Nat) : Int)) ∧
    Sts [.int .i64 (-1 : Int)] (Addr.add a (k.toNat * 1)) 0 w fun w1 =>
    Pn p fun a_1 =>
    (0 ≤ i ∧ i < ((3 : Nat) : Int)) ∧
    LdI .u64 ((Addr.add (a_1.add 3) (i.toNat * 45)).add 4) w1 fun x38 =>
    0 ≤ (IntKind.u64.wrap k) ∧
    Bm ((IntKind.u64.wrap (BitVec.ofInt IntKind.u64.bits (x38.fdiv (2 ^ (min (IntKind.u64.wrap k).toNat IntKind.u64.bits))) &&& BitVec.ofInt IntKind.u64.bits (1 : Int)).toNat) != (0 : Int)) (
      Pn p fun a_2 =>
      (0 ≤ i ∧ i < ((3 : Nat) : Int)) ∧
      (0 ≤ k ∧ k < ((40 : Nat) : Int)) ∧
      LdI .u8 (Addr.add ((Addr.add (a_2.add 3) (i.toNat * 45)).add 5) (k.toNat * 1)) w1 fun x54 =>
      Pn out_b fun a_3 =>
      (0 ≤ k ∧ k < ((out_l : Nat) : Int)) ∧
      Sts [.int .i64 (IntKind.i64.wrap x54)] (Addr.add a_3 (k.toNat * 1)) 0 w1 fun w2 =>
      ip_IP_Peek.B2 p i out_b out_l out_c k w2 N1 R) (
      ip_IP_Peek.B2 p i out_b out_l out_c k w1 N1 R)) (
    R out_b out_l out_c w)
theorem ip_IP_Peek.L1b_eq (p : Option Addr) (i : Int) (out_b : Option Addr) (out_l out_c : Nat) (k : Int) (w : World)  (N1 : Option Addr → Int → Option Addr → Nat → Nat → Int → World → Prop) (R : Option Addr → Nat → Nat → World → Prop) (sB2 : Option Addr → Int → Option Addr → Nat → Nat → Int → World → Prop) :
    (
  Bm (decide (k < (40 : Int))) (
    Pn out_b fun a =>
    (0 ≤ k ∧ k < ((out_l : Nat) : Int)) ∧
    Sts [.int .i64 (-1 : Int)] (Addr.add a (k.toNat * 1)) 0 w fun w1 =>
    Pn p fun a_1 =>
    (0 ≤ i ∧ i < ((3 : Nat) : Int)) ∧
    LdI .u64 ((Addr.add (a_1.add 3) (i.toNat * 45)).add 4) w1 fun x38 =>
    0 ≤ (IntKind.u64.wrap k) ∧
    Bm ((IntKind.u64.wrap (BitVec.ofInt IntKind.u64.bits (x38.fdiv (2 ^ (min (IntKind.u64.wrap k).toNat IntKind.u64.bits))) &&& BitVec.ofInt IntKind.u64.bits (1 : Int)).toNat) != (0 : Int)) (
      Pn p fun a_2 =>
      (0 ≤ i ∧ i < ((3 : Nat) : Int)) ∧
      (0 ≤ k ∧ k < ((40 : Nat) : Int)) ∧
      LdI .u8 (Addr.add ((Addr.add (a_2.add 3) (i.toNat * 45)).add 5) (k.toNat * 1)) w1 fun x54 =>
      Pn out_b fun a_3 =>
      (0 ≤ k ∧ k < ((out_l : Nat) : Int)) ∧
      Sts [.int .i64 (IntKind.i64.wrap x54)] (Addr.add a_3 (k.toNat * 1)) 0 w1 fun w2 =>
      sB2 p i out_b out_l out_c k w2) (
      sB2 p i out_b out_l out_c k w1)) (
    R out_b out_l out_c w)) = kstep Try.prog 58 Try.f36.results.toList (Try.f36.body.getD .skip) (ip_IP_Peek.RV R) (kvc Try.prog 58 Try.f36.results.toList (Try.f36.body.getD .skip) (ip_IP_Peek.RV R) [([(0, [1, 1, 1, 1, 1, 0, 1, 0, 0, 1, 1]), (2, [1, 1, 1, 1, 1, 0, 1, 0, 0]), (1, [0]), (0, [1, 1, 1, 1, 1, 1])], fun σ w => dP (slotOf σ 0) fun p_ => dI .i64 (slotOf σ 6) fun i_ => dL (slotOf σ 7) fun out_b_ out_l_ out_c_ => dI .i64 (slotOf σ 8) fun k_ => sB2 p_ i_ out_b_ out_l_ out_c_ k_ w)] 2000) [(0, [1, 1, 1, 1, 1, 0, 1, 0, 0]), (2, [1, 1, 1, 1, 1, 0, 1, 0, 0]), (1, [0]), (0, [1, 1, 1, 1, 1, 1])] [(0, .pointer p), (6, .int .i64 i), (7, .slice out_b out_l out_c), (8, .int .i64 k)] w := by kernel_rfl
theorem ip_IP_Peek.L1b_sound {R : Option Addr → Nat → Nat → World → Prop} {N1 : Option Addr → Int → Option Addr → Nat → Nat → Int → World → Prop} (hN1 : ∀ p i out_b out_l out_c k w, N1 p i out_b out_l out_c k w → KW Try.prog 36 58 (ip_IP_Peek.RV R) ([(0, [1, 1, 1, 1, 1, 0, 1, 0, 0]), (2, [1, 1, 1, 1, 1, 0, 1, 0, 0]), (1, [0]), (0, [1, 1, 1, 1, 1, 1])].map (toItem (Try.f36.body.getD .skip))) [(0, .pointer p), (6, .int .i64 i), (7, .slice out_b out_l out_c), (8, .int .i64 k)] w) (p : Option Addr) (i : Int) (out_b : Option Addr) (out_l out_c : Nat) (k : Int) (w : World) (h : ip_IP_Peek.L1b p i out_b out_l out_c k w  N1 R) :
    KW Try.prog 36 58 (ip_IP_Peek.RV R) ([(0, [1, 1, 1, 1, 1, 0, 1, 0, 0]), (2, [1, 1, 1, 1, 1, 0, 1, 0, 0]), (1, [0]), (0, [1, 1, 1, 1, 1, 1])].map (toItem (Try.f36.body.getD .skip))) [(0, .pointer p), (6, .int .i64 i), (7, .slice out_b out_l out_c), (8, .int .i64 k)] w := by
  exact block_spec Try.func36 Try.mixed (stops_cons (fun σ w h => by
      obtain ⟨p_, e0, h⟩ := dP_elim h
      obtain ⟨i_, e1, h⟩ := dI_elim h
      obtain ⟨out_b_, out_l_, out_c_, e2, h⟩ := dL_elim h
      obtain ⟨k_, e3, h⟩ := dI_elim h
      exact (ip_IP_Peek.B2_sound hN1 p_ i_ out_b_ out_l_ out_c_ k_ w h).weaken (Sub.cons (Sub.cons (Sub.cons (Sub.cons (Sub.nil _) e3) e2) e1) e0)) stops_nil) (Eq.mp (ip_IP_Peek.L1b_eq p i out_b out_l out_c k w  N1 R (fun p_ i_ out_b_ out_l_ out_c_ k_ w => ip_IP_Peek.B2 p_ i_ out_b_ out_l_ out_c_ k_ w N1 R)) h)
def ip_IP_Peek.L1 (p : Option Addr) (i : Int) (out_b : Option Addr) (out_l out_c : Nat) (k : Int) (w : World)  (R : Option Addr → Nat → Nat → World → Prop) : Prop :=
  ∃ (I : Nat → Option Addr → Int → Option Addr → Nat → Nat → Int → World → Prop) (m : Nat), I m p i out_b out_l out_c k w ∧ ∀ m p i out_b out_l out_c k w, I m p i out_b out_l out_c k w → ip_IP_Peek.L1b p i out_b out_l out_c k w  (fun p' i' out_b' out_l' out_c' k' w' => ∃ m', m' < m ∧ I m' p' i' out_b' out_l' out_c' k' w') R
theorem ip_IP_Peek.L1_sound {R : Option Addr → Nat → Nat → World → Prop}  (p : Option Addr) (i : Int) (out_b : Option Addr) (out_l out_c : Nat) (k : Int) (w : World) (h : ip_IP_Peek.L1 p i out_b out_l out_c k w  R) :
    KW Try.prog 36 58 (ip_IP_Peek.RV R) ([(0, [1, 1, 1, 1, 1, 0, 1, 0, 0]), (2, [1, 1, 1, 1, 1, 0, 1, 0, 0]), (1, [0]), (0, [1, 1, 1, 1, 1, 1])].map (toItem (Try.f36.body.getD .skip))) [(0, .pointer p), (6, .int .i64 i), (7, .slice out_b out_l out_c), (8, .int .i64 k)] w := by
  obtain ⟨I, m, h0, hr⟩ := h
  refine KW.loop (fun m σ w => ∃ (p : Option Addr) (i : Int) (out_b : Option Addr) (out_l out_c : Nat) (k : Int), σ = [(0, .pointer p), (6, .int .i64 i), (7, .slice out_b out_l out_c), (8, .int .i64 k)] ∧ I m p i out_b out_l out_c k w) ?_ m _ w ⟨p, i, out_b, out_l, out_c, k, rfl, h0⟩
  rintro m ih σ w ⟨p, i, out_b, out_l, out_c, k, rfl, hI⟩
  exact ip_IP_Peek.L1b_sound  (N1 := fun p' i' out_b' out_l' out_c' k' w' => ∃ m', m' < m ∧ I m' p' i' out_b' out_l' out_c' k' w') (fun p' i' out_b' out_l' out_c' k' w' hx => by obtain ⟨m', hlt, hI'⟩ := hx; exact ih m' hlt _ w' ⟨p', i', out_b', out_l', out_c', k', rfl, hI'⟩) p i out_b out_l out_c k w (hr m p i out_b out_l out_c k w hI)
def ip_IP_Peek.B1 (p : Option Addr) (j : Int) (r : Nat) (t18 : Bool) (w : World)   (R : Option Addr → Nat → Nat → World → Prop) : Prop :=
  Bm t18 (
    New (.cells #[] 3) w fun b19 w1 =>
    R (some ⟨b19, 0, none⟩) 0 0 w1) (
    (0 ≤ j ∧ j < ((3 : Nat) : Int)) ∧
    LdI .i64 (Addr.add ⟨r, 0, none⟩ (j.toNat * 1)) w fun x23 =>
    Make 3 (.int .i64 (0 : Int)) 1 8 (40 : Int) (40 : Int) w fun b24 w2 =>
    ip_IP_Peek.L1 p x23 (some ⟨b24, 0, none⟩) 40 40 (0 : Int) w2  R)
theorem ip_IP_Peek.B1_eq (p : Option Addr) (j : Int) (r : Nat) (t18 : Bool) (w : World)   (R : Option Addr → Nat → Nat → World → Prop) (sL1 : Option Addr → Int → Option Addr → Nat → Nat → Int → World → Prop) :
    (
  Bm t18 (
    New (.cells #[] 3) w fun b19 w1 =>
    R (some ⟨b19, 0, none⟩) 0 0 w1) (
    (0 ≤ j ∧ j < ((3 : Nat) : Int)) ∧
    LdI .i64 (Addr.add ⟨r, 0, none⟩ (j.toNat * 1)) w fun x23 =>
    Make 3 (.int .i64 (0 : Int)) 1 8 (40 : Int) (40 : Int) w fun b24 w2 =>
    sL1 p x23 (some ⟨b24, 0, none⟩) 40 40 (0 : Int) w2)) = kstep Try.prog 58 Try.f36.results.toList (Try.f36.body.getD .skip) (ip_IP_Peek.RV R) (kvc Try.prog 58 Try.f36.results.toList (Try.f36.body.getD .skip) (ip_IP_Peek.RV R) [([(0, [1, 1, 1, 1, 1, 0, 1, 0, 0]), (2, [1, 1, 1, 1, 1, 0, 1, 0, 0]), (1, [0]), (0, [1, 1, 1, 1, 1, 1])], fun σ w => dP (slotOf σ 0) fun p_ => dI .i64 (slotOf σ 6) fun i_ => dL (slotOf σ 7) fun out_b_ out_l_ out_c_ => dI .i64 (slotOf σ 8) fun k_ => sL1 p_ i_ out_b_ out_l_ out_c_ k_ w)] 2000) [(0, [1, 1, 0, 1]), (0, [1, 1, 1])] [(0, .pointer p), (1, .int .i64 j), (5, .pointer (some ⟨r, 0, none⟩)), (18, .bool t18)] w := by kernel_rfl
theorem ip_IP_Peek.B1_sound {R : Option Addr → Nat → Nat → World → Prop}  (p : Option Addr) (j : Int) (r : Nat) (t18 : Bool) (w : World) (h : ip_IP_Peek.B1 p j r t18 w   R) :
    KW Try.prog 36 58 (ip_IP_Peek.RV R) ([(0, [1, 1, 0, 1]), (0, [1, 1, 1])].map (toItem (Try.f36.body.getD .skip))) [(0, .pointer p), (1, .int .i64 j), (5, .pointer (some ⟨r, 0, none⟩)), (18, .bool t18)] w := by
  exact block_spec Try.func36 Try.mixed (stops_cons (fun σ w h => by
      obtain ⟨p_, e0, h⟩ := dP_elim h
      obtain ⟨i_, e1, h⟩ := dI_elim h
      obtain ⟨out_b_, out_l_, out_c_, e2, h⟩ := dL_elim h
      obtain ⟨k_, e3, h⟩ := dI_elim h
      exact (ip_IP_Peek.L1_sound  p_ i_ out_b_ out_l_ out_c_ k_ w h).weaken (Sub.cons (Sub.cons (Sub.cons (Sub.cons (Sub.nil _) e3) e2) e1) e0)) stops_nil) (Eq.mp (ip_IP_Peek.B1_eq p j r t18 w   R (fun p_ i_ out_b_ out_l_ out_c_ k_ w => ip_IP_Peek.L1 p_ i_ out_b_ out_l_ out_c_ k_ w  R)) h)
def ip_IP_Peek.B0 (p : Option Addr) (j : Int) (w : World)   (R : Option Addr → Nat → Nat → World → Prop) : Prop :=
  ip_IP_sorted.Call p w fun r10_0 r10_1 r10_2 r10_3 w1 =>
  New (.cells #[.int .i64 (0 : Int), .int .i64 (0 : Int), .int .i64 (0 : Int), .int .i64 (0 : Int)] 89) w1 fun r_ w2 =>
  Sts [.int .i64 r10_0, .int .i64 r10_1, .int .i64 r10_2, .int .i64 r10_3] ⟨r_, 0, none⟩ 0 w2 fun w3 =>
  Bm (decide (j < (0 : Int))) (
    ip_IP_Peek.B1 p j r_ true w3  R) (
    LdI .i64 ⟨r_, 3, none⟩ w3 fun x16 =>
    ip_IP_Peek.B1 p j r_ (decide (j ≥ x16)) w3  R)
theorem ip_IP_Peek.B0_eq (p : Option Addr) (j : Int) (w : World)   (R : Option Addr → Nat → Nat → World → Prop) (sB1 : Option Addr → Int → Nat → Bool → World → Prop) :
    (
  ip_IP_sorted.Call p w fun r10_0 r10_1 r10_2 r10_3 w1 =>
  New (.cells #[.int .i64 (0 : Int), .int .i64 (0 : Int), .int .i64 (0 : Int), .int .i64 (0 : Int)] 89) w1 fun r_ w2 =>
  Sts [.int .i64 r10_0, .int .i64 r10_1, .int .i64 r10_2, .int .i64 r10_3] ⟨r_, 0, none⟩ 0 w2 fun w3 =>
  Bm (decide (j < (0 : Int))) (
    sB1 p j r_ true w3) (
    LdI .i64 ⟨r_, 3, none⟩ w3 fun x16 =>
    sB1 p j r_ (decide (j ≥ x16)) w3)) = kstep Try.prog 58 Try.f36.results.toList (Try.f36.body.getD .skip) (ip_IP_Peek.RV R) (kvc Try.prog 58 Try.f36.results.toList (Try.f36.body.getD .skip) (ip_IP_Peek.RV R) [([(0, [1, 1, 0, 1]), (0, [1, 1, 1])], fun σ w => dP (slotOf σ 0) fun p_ => dI .i64 (slotOf σ 1) fun j_ => dK (slotOf σ 5) fun r_ => dB (slotOf σ 18) fun t18_ => sB1 p_ j_ r_ t18_ w)] 2000) [(0, [])] [(0, .pointer p), (1, .int .i64 j)] w := by kernel_rfl
theorem ip_IP_Peek.B0_sound {R : Option Addr → Nat → Nat → World → Prop}  (p : Option Addr) (j : Int) (w : World) (h : ip_IP_Peek.B0 p j w   R) :
    KW Try.prog 36 58 (ip_IP_Peek.RV R) ([(0, [])].map (toItem (Try.f36.body.getD .skip))) [(0, .pointer p), (1, .int .i64 j)] w := by
  exact block_spec Try.func36 Try.mixed (stops_cons (fun σ w h => by
      obtain ⟨p_, e0, h⟩ := dP_elim h
      obtain ⟨j_, e1, h⟩ := dI_elim h
      obtain ⟨r_, e2, h⟩ := dK_elim h
      obtain ⟨t18_, e3, h⟩ := dB_elim h
      exact (ip_IP_Peek.B1_sound  p_ j_ r_ t18_ w h).weaken (Sub.cons (Sub.cons (Sub.cons (Sub.cons (Sub.nil _) e3) e2) e1) e0)) stops_nil) (Eq.mp (ip_IP_Peek.B0_eq p j w   R (fun p_ j_ r_ t18_ w => ip_IP_Peek.B1 p_ j_ r_ t18_ w  R)) h)
theorem ip_IP_Peek.sound (p : Option Addr) (j : Int) (w : World) (R : Option Addr → Nat → Nat → World → Prop) (h : ip_IP_Peek.B0 p j w R) : ip_IP_Peek.Call p j w R := by
  have hc := calls_of_block (args := #[.pointer p, .int .i64 j]) Try.func36 (body := (Try.f36.body.getD .skip)) (by kernel_rfl) (by kernel_rfl) (args_slot _) (ip_IP_Peek.B0_sound p j w h)
  exact hc.mono fun e w' he => by
    obtain ⟨v, rfl, hv⟩ := he
    exact ip_IP_Peek.RV_elim hv
end Go.Proofs.Qxb6500425a
