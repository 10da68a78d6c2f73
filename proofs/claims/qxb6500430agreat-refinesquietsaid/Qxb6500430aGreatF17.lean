import Derived.Test.Qxb6500430aGreatSig
set_option maxRecDepth 100000
set_option linter.unusedVariables false
open Go.Vc
namespace Go.Proofs.Qxb6500430aGreat
def electm_Elect_GotVote.B3 (e : Option Addr) (n p : Int) (w : World) (N1 : Option Addr → Int → Int → World → Prop)  (R : Bool → World → Prop) : Prop :=
  N1 e n (IntKind.i64.wrap (p + (1 : Int))) w
theorem electm_Elect_GotVote.B3_eq (e : Option Addr) (n p : Int) (w : World) (N1 : Option Addr → Int → Int → World → Prop)  (R : Bool → World → Prop)  :
    (
  N1 e n (IntKind.i64.wrap (p + (1 : Int))) w) = kstep Tryz.prog 73 Tryz.f182.results.toList (Tryz.f182.body.getD .skip) (electm_Elect_GotVote.RV R) (kvc Tryz.prog 73 Tryz.f182.results.toList (Tryz.f182.body.getD .skip) (electm_Elect_GotVote.RV R) [([(0, [1, 1, 1, 1, 1, 0, 1, 0, 0]), (2, [1, 1, 1, 1, 1, 0, 1, 0, 0]), (1, [0]), (0, [1, 1, 1, 1, 1, 1])], fun σ w => dP (slotOf σ 0) fun e_ => dI .i64 (slotOf σ 9) fun n_ => dI .i64 (slotOf σ 10) fun p_ => N1 e_ n_ p_ w)] 2000) [(0, [1, 1, 1, 1, 1, 0, 1, 0, 0, 1, 1]), (2, [1, 1, 1, 1, 1, 0, 1, 0, 0]), (1, [0]), (0, [1, 1, 1, 1, 1, 1])] [(0, .pointer e), (9, .int .i64 n), (10, .int .i64 p)] w := by kernel_rfl
theorem electm_Elect_GotVote.B3_sound {R : Bool → World → Prop} {N1 : Option Addr → Int → Int → World → Prop} (hN1 : ∀ e n p w, N1 e n p w → KW Tryz.prog 182 73 (electm_Elect_GotVote.RV R) ([(0, [1, 1, 1, 1, 1, 0, 1, 0, 0]), (2, [1, 1, 1, 1, 1, 0, 1, 0, 0]), (1, [0]), (0, [1, 1, 1, 1, 1, 1])].map (toItem (Tryz.f182.body.getD .skip))) [(0, .pointer e), (9, .int .i64 n), (10, .int .i64 p)] w) (e : Option Addr) (n p : Int) (w : World) (h : electm_Elect_GotVote.B3 e n p w N1  R) :
    KW Tryz.prog 182 73 (electm_Elect_GotVote.RV R) ([(0, [1, 1, 1, 1, 1, 0, 1, 0, 0, 1, 1]), (2, [1, 1, 1, 1, 1, 0, 1, 0, 0]), (1, [0]), (0, [1, 1, 1, 1, 1, 1])].map (toItem (Tryz.f182.body.getD .skip))) [(0, .pointer e), (9, .int .i64 n), (10, .int .i64 p)] w := by
  exact block_spec Tryz.func182 Tryz.mixed (stops_cons (fun σ w h => by
      obtain ⟨e_, e0, h⟩ := dP_elim h
      obtain ⟨n_, e1, h⟩ := dI_elim h
      obtain ⟨p_, e2, h⟩ := dI_elim h
      exact (hN1 e_ n_ p_ w h).weaken (Sub.cons (Sub.cons (Sub.cons (Sub.nil _) e2) e1) e0)) stops_nil) (Eq.mp (electm_Elect_GotVote.B3_eq e n p w N1  R ) h)
def electm_Elect_GotVote.L1b (e : Option Addr) (n p : Int) (w : World)  (N1 : Option Addr → Int → Int → World → Prop) (R : Bool → World → Prop) : Prop :=
  Bm (decide (p < (3 : Int))) (
    Pn e fun a =>
    (0 ≤ p ∧ p < ((3 : Nat) : Int)) ∧
    LdB (Addr.add (a.add 6) (p.toNat * 1)) w fun x55 =>
    Bm x55 (
      electm_Elect_GotVote.B3 e (IntKind.i64.wrap (n + (1 : Int))) p w N1 R) (
      electm_Elect_GotVote.B3 e n p w N1 R)) (
    Bm (decide (n < (2 : Int))) (
      R false w) (
      Pn e fun a_1 =>
      LdI .i64 a_1 w fun x66 =>
      Pn e fun a_2 =>
      Sts [.int .i64 (2 : Int)] (a_2.add 3) 0 w fun w1 =>
      Pn e fun a_3 =>
      Sts [.int .i64 x66] (a_3.add 4) 0 w1 fun w2 =>
      Pn e fun a_4 =>
      Sts [.int .i64 (0 : Int)] (a_4.add 5) 0 w2 fun w3 =>
      R true w3))
theorem electm_Elect_GotVote.L1b_eq (e : Option Addr) (n p : Int) (w : World)  (N1 : Option Addr → Int → Int → World → Prop) (R : Bool → World → Prop) (sB3 : Option Addr → Int → Int → World → Prop) :
    (
  Bm (decide (p < (3 : Int))) (
    Pn e fun a =>
    (0 ≤ p ∧ p < ((3 : Nat) : Int)) ∧
    LdB (Addr.add (a.add 6) (p.toNat * 1)) w fun x55 =>
    Bm x55 (
      sB3 e (IntKind.i64.wrap (n + (1 : Int))) p w) (
      sB3 e n p w)) (
    Bm (decide (n < (2 : Int))) (
      R false w) (
      Pn e fun a_1 =>
      LdI .i64 a_1 w fun x66 =>
      Pn e fun a_2 =>
      Sts [.int .i64 (2 : Int)] (a_2.add 3) 0 w fun w1 =>
      Pn e fun a_3 =>
      Sts [.int .i64 x66] (a_3.add 4) 0 w1 fun w2 =>
      Pn e fun a_4 =>
      Sts [.int .i64 (0 : Int)] (a_4.add 5) 0 w2 fun w3 =>
      R true w3))) = kstep Tryz.prog 73 Tryz.f182.results.toList (Tryz.f182.body.getD .skip) (electm_Elect_GotVote.RV R) (kvc Tryz.prog 73 Tryz.f182.results.toList (Tryz.f182.body.getD .skip) (electm_Elect_GotVote.RV R) [([(0, [1, 1, 1, 1, 1, 0, 1, 0, 0, 1, 1]), (2, [1, 1, 1, 1, 1, 0, 1, 0, 0]), (1, [0]), (0, [1, 1, 1, 1, 1, 1])], fun σ w => dP (slotOf σ 0) fun e_ => dI .i64 (slotOf σ 9) fun n_ => dI .i64 (slotOf σ 10) fun p_ => sB3 e_ n_ p_ w)] 2000) [(0, [1, 1, 1, 1, 1, 0, 1, 0, 0]), (2, [1, 1, 1, 1, 1, 0, 1, 0, 0]), (1, [0]), (0, [1, 1, 1, 1, 1, 1])] [(0, .pointer e), (9, .int .i64 n), (10, .int .i64 p)] w := by kernel_rfl
theorem electm_Elect_GotVote.L1b_sound {R : Bool → World → Prop} {N1 : Option Addr → Int → Int → World → Prop} (hN1 : ∀ e n p w, N1 e n p w → KW Tryz.prog 182 73 (electm_Elect_GotVote.RV R) ([(0, [1, 1, 1, 1, 1, 0, 1, 0, 0]), (2, [1, 1, 1, 1, 1, 0, 1, 0, 0]), (1, [0]), (0, [1, 1, 1, 1, 1, 1])].map (toItem (Tryz.f182.body.getD .skip))) [(0, .pointer e), (9, .int .i64 n), (10, .int .i64 p)] w) (e : Option Addr) (n p : Int) (w : World) (h : electm_Elect_GotVote.L1b e n p w  N1 R) :
    KW Tryz.prog 182 73 (electm_Elect_GotVote.RV R) ([(0, [1, 1, 1, 1, 1, 0, 1, 0, 0]), (2, [1, 1, 1, 1, 1, 0, 1, 0, 0]), (1, [0]), (0, [1, 1, 1, 1, 1, 1])].map (toItem (Tryz.f182.body.getD .skip))) [(0, .pointer e), (9, .int .i64 n), (10, .int .i64 p)] w := by
  exact block_spec Tryz.func182 Tryz.mixed (stops_cons (fun σ w h => by
      obtain ⟨e_, e0, h⟩ := dP_elim h
      obtain ⟨n_, e1, h⟩ := dI_elim h
      obtain ⟨p_, e2, h⟩ := dI_elim h
      exact (electm_Elect_GotVote.B3_sound hN1 e_ n_ p_ w h).weaken (Sub.cons (Sub.cons (Sub.cons (Sub.nil _) e2) e1) e0)) stops_nil) (Eq.mp (electm_Elect_GotVote.L1b_eq e n p w  N1 R (fun e_ n_ p_ w => electm_Elect_GotVote.B3 e_ n_ p_ w N1 R)) h)
def electm_Elect_GotVote.L1 (e : Option Addr) (n p : Int) (w : World)  (R : Bool → World → Prop) : Prop :=
  ∃ (I : Nat → Option Addr → Int → Int → World → Prop) (m : Nat), I m e n p w ∧ ∀ m e n p w, I m e n p w → electm_Elect_GotVote.L1b e n p w  (fun e' n' p' w' => ∃ m', m' < m ∧ I m' e' n' p' w') R
theorem electm_Elect_GotVote.L1_sound {R : Bool → World → Prop}  (e : Option Addr) (n p : Int) (w : World) (h : electm_Elect_GotVote.L1 e n p w  R) :
    KW Tryz.prog 182 73 (electm_Elect_GotVote.RV R) ([(0, [1, 1, 1, 1, 1, 0, 1, 0, 0]), (2, [1, 1, 1, 1, 1, 0, 1, 0, 0]), (1, [0]), (0, [1, 1, 1, 1, 1, 1])].map (toItem (Tryz.f182.body.getD .skip))) [(0, .pointer e), (9, .int .i64 n), (10, .int .i64 p)] w := by
  obtain ⟨I, m, hBase, hr⟩ := h
  refine KW.loop (fun m σ w => ∃ (e : Option Addr) (n p : Int), σ = [(0, .pointer e), (9, .int .i64 n), (10, .int .i64 p)] ∧ I m e n p w) ?_ m _ w ⟨e, n, p, rfl, hBase⟩
  rintro m ih σ w ⟨e, n, p, rfl, hI⟩
  exact electm_Elect_GotVote.L1b_sound  (N1 := fun e' n' p' w' => ∃ m', m' < m ∧ I m' e' n' p' w') (fun e' n' p' w' hx => by obtain ⟨m', hlt, hI'⟩ := hx; exact ih m' hlt _ w' ⟨e', n', p', rfl, hI'⟩) e n p w (hr m e n p w hI)
def electm_Elect_GotVote.B2 (e : Option Addr) (from0 : Int) (t40 : Bool) (w : World)   (R : Bool → World → Prop) : Prop :=
  Bm t40 (
    R false w) (
    Pn e fun a =>
    (0 ≤ from0 ∧ from0 < ((3 : Nat) : Int)) ∧
    Sts [.bool true] (Addr.add (a.add 6) (from0.toNat * 1)) 0 w fun w1 =>
    electm_Elect_GotVote.L1 e (0 : Int) (0 : Int) w1  R)
theorem electm_Elect_GotVote.B2_eq (e : Option Addr) (from0 : Int) (t40 : Bool) (w : World)   (R : Bool → World → Prop) (sL1 : Option Addr → Int → Int → World → Prop) :
    (
  Bm t40 (
    R false w) (
    Pn e fun a =>
    (0 ≤ from0 ∧ from0 < ((3 : Nat) : Int)) ∧
    Sts [.bool true] (Addr.add (a.add 6) (from0.toNat * 1)) 0 w fun w1 =>
    sL1 e (0 : Int) (0 : Int) w1)) = kstep Tryz.prog 73 Tryz.f182.results.toList (Tryz.f182.body.getD .skip) (electm_Elect_GotVote.RV R) (kvc Tryz.prog 73 Tryz.f182.results.toList (Tryz.f182.body.getD .skip) (electm_Elect_GotVote.RV R) [([(0, [1, 1, 1, 1, 1, 0, 1, 0, 0]), (2, [1, 1, 1, 1, 1, 0, 1, 0, 0]), (1, [0]), (0, [1, 1, 1, 1, 1, 1])], fun σ w => dP (slotOf σ 0) fun e_ => dI .i64 (slotOf σ 9) fun n_ => dI .i64 (slotOf σ 10) fun p_ => sL1 e_ n_ p_ w)] 2000) [(0, [1, 1, 0, 1]), (0, [1, 1, 1])] [(0, .pointer e), (1, .int .i64 from0), (40, .bool t40)] w := by kernel_rfl
theorem electm_Elect_GotVote.B2_sound {R : Bool → World → Prop}  (e : Option Addr) (from0 : Int) (t40 : Bool) (w : World) (h : electm_Elect_GotVote.B2 e from0 t40 w   R) :
    KW Tryz.prog 182 73 (electm_Elect_GotVote.RV R) ([(0, [1, 1, 0, 1]), (0, [1, 1, 1])].map (toItem (Tryz.f182.body.getD .skip))) [(0, .pointer e), (1, .int .i64 from0), (40, .bool t40)] w := by
  exact block_spec Tryz.func182 Tryz.mixed (stops_cons (fun σ w h => by
      obtain ⟨e_, e0, h⟩ := dP_elim h
      obtain ⟨n_, e1, h⟩ := dI_elim h
      obtain ⟨p_, e2, h⟩ := dI_elim h
      exact (electm_Elect_GotVote.L1_sound  e_ n_ p_ w h).weaken (Sub.cons (Sub.cons (Sub.cons (Sub.nil _) e2) e1) e0)) stops_nil) (Eq.mp (electm_Elect_GotVote.B2_eq e from0 t40 w   R (fun e_ n_ p_ w => electm_Elect_GotVote.L1 e_ n_ p_ w  R)) h)
def electm_Elect_GotVote.B1 (e : Option Addr) (from0 term : Int) (granted t18 : Bool) (w : World)   (R : Bool → World → Prop) : Prop :=
  Bm t18 (
    R false w) (
    electm_Elect_See.Call e term w fun r21 w1 =>
    Bm r21 (
      electm_Elect_GotVote.B2 e from0 true w1  R) (
      Pn e fun a =>
      LdI .i64 (a.add 1) w1 fun x27 =>
      Bm (decide (term < x27)) (
        electm_Elect_GotVote.B2 e from0 true w1  R) (
        Pn e fun a_1 =>
        LdI .i64 (a_1.add 3) w1 fun x34 =>
        Bm (x34 != (1 : Int)) (
          electm_Elect_GotVote.B2 e from0 true w1  R) (
          electm_Elect_GotVote.B2 e from0 (!granted) w1  R))))
theorem electm_Elect_GotVote.B1_eq (e : Option Addr) (from0 term : Int) (granted t18 : Bool) (w : World)   (R : Bool → World → Prop) (sB2 : Option Addr → Int → Bool → World → Prop) :
    (
  Bm t18 (
    R false w) (
    electm_Elect_See.Call e term w fun r21 w1 =>
    Bm r21 (
      sB2 e from0 true w1) (
      Pn e fun a =>
      LdI .i64 (a.add 1) w1 fun x27 =>
      Bm (decide (term < x27)) (
        sB2 e from0 true w1) (
        Pn e fun a_1 =>
        LdI .i64 (a_1.add 3) w1 fun x34 =>
        Bm (x34 != (1 : Int)) (
          sB2 e from0 true w1) (
          sB2 e from0 (!granted) w1))))) = kstep Tryz.prog 73 Tryz.f182.results.toList (Tryz.f182.body.getD .skip) (electm_Elect_GotVote.RV R) (kvc Tryz.prog 73 Tryz.f182.results.toList (Tryz.f182.body.getD .skip) (electm_Elect_GotVote.RV R) [([(0, [1, 1, 0, 1]), (0, [1, 1, 1])], fun σ w => dP (slotOf σ 0) fun e_ => dI .i64 (slotOf σ 1) fun from0_ => dB (slotOf σ 40) fun t40_ => sB2 e_ from0_ t40_ w)] 2000) [(0, [1, 0, 1]), (0, [1, 1])] [(0, .pointer e), (1, .int .i64 from0), (2, .int .i64 term), (3, .bool granted), (18, .bool t18)] w := by kernel_rfl
theorem electm_Elect_GotVote.B1_sound {R : Bool → World → Prop}  (e : Option Addr) (from0 term : Int) (granted t18 : Bool) (w : World) (h : electm_Elect_GotVote.B1 e from0 term granted t18 w   R) :
    KW Tryz.prog 182 73 (electm_Elect_GotVote.RV R) ([(0, [1, 0, 1]), (0, [1, 1])].map (toItem (Tryz.f182.body.getD .skip))) [(0, .pointer e), (1, .int .i64 from0), (2, .int .i64 term), (3, .bool granted), (18, .bool t18)] w := by
  exact block_spec Tryz.func182 Tryz.mixed (stops_cons (fun σ w h => by
      obtain ⟨e_, e0, h⟩ := dP_elim h
      obtain ⟨from0_, e1, h⟩ := dI_elim h
      obtain ⟨t40_, e2, h⟩ := dB_elim h
      exact (electm_Elect_GotVote.B2_sound  e_ from0_ t40_ w h).weaken (Sub.cons (Sub.cons (Sub.cons (Sub.nil _) e2) e1) e0)) stops_nil) (Eq.mp (electm_Elect_GotVote.B1_eq e from0 term granted t18 w   R (fun e_ from0_ t40_ w => electm_Elect_GotVote.B2 e_ from0_ t40_ w  R)) h)
def electm_Elect_GotVote.B0 (e : Option Addr) (from0 term : Int) (granted : Bool) (w : World)   (R : Bool → World → Prop) : Prop :=
  electm_Elect_peer.Call e from0 w fun r13 w1 =>
  Bm (!r13) (
    electm_Elect_GotVote.B1 e from0 term granted true w1  R) (
    electm_Elect_GotVote.B1 e from0 term granted (decide (term > (72057594037927936 : Int))) w1  R)
theorem electm_Elect_GotVote.B0_eq (e : Option Addr) (from0 term : Int) (granted : Bool) (w : World)   (R : Bool → World → Prop) (sB1 : Option Addr → Int → Int → Bool → Bool → World → Prop) :
    (
  electm_Elect_peer.Call e from0 w fun r13 w1 =>
  Bm (!r13) (
    sB1 e from0 term granted true w1) (
    sB1 e from0 term granted (decide (term > (72057594037927936 : Int))) w1)) = kstep Tryz.prog 73 Tryz.f182.results.toList (Tryz.f182.body.getD .skip) (electm_Elect_GotVote.RV R) (kvc Tryz.prog 73 Tryz.f182.results.toList (Tryz.f182.body.getD .skip) (electm_Elect_GotVote.RV R) [([(0, [1, 0, 1]), (0, [1, 1])], fun σ w => dP (slotOf σ 0) fun e_ => dI .i64 (slotOf σ 1) fun from0_ => dI .i64 (slotOf σ 2) fun term_ => dB (slotOf σ 3) fun granted_ => dB (slotOf σ 18) fun t18_ => sB1 e_ from0_ term_ granted_ t18_ w)] 2000) [(0, [])] [(0, .pointer e), (1, .int .i64 from0), (2, .int .i64 term), (3, .bool granted)] w := by kernel_rfl
theorem electm_Elect_GotVote.B0_sound {R : Bool → World → Prop}  (e : Option Addr) (from0 term : Int) (granted : Bool) (w : World) (h : electm_Elect_GotVote.B0 e from0 term granted w   R) :
    KW Tryz.prog 182 73 (electm_Elect_GotVote.RV R) ([(0, [])].map (toItem (Tryz.f182.body.getD .skip))) [(0, .pointer e), (1, .int .i64 from0), (2, .int .i64 term), (3, .bool granted)] w := by
  exact block_spec Tryz.func182 Tryz.mixed (stops_cons (fun σ w h => by
      obtain ⟨e_, e0, h⟩ := dP_elim h
      obtain ⟨from0_, e1, h⟩ := dI_elim h
      obtain ⟨term_, e2, h⟩ := dI_elim h
      obtain ⟨granted_, e3, h⟩ := dB_elim h
      obtain ⟨t18_, e4, h⟩ := dB_elim h
      exact (electm_Elect_GotVote.B1_sound  e_ from0_ term_ granted_ t18_ w h).weaken (Sub.cons (Sub.cons (Sub.cons (Sub.cons (Sub.cons (Sub.nil _) e4) e3) e2) e1) e0)) stops_nil) (Eq.mp (electm_Elect_GotVote.B0_eq e from0 term granted w   R (fun e_ from0_ term_ granted_ t18_ w => electm_Elect_GotVote.B1 e_ from0_ term_ granted_ t18_ w  R)) h)
theorem electm_Elect_GotVote.sound (e : Option Addr) (from0 term : Int) (granted : Bool) (w : World) (R : Bool → World → Prop) (h : electm_Elect_GotVote.B0 e from0 term granted w R) : electm_Elect_GotVote.Call e from0 term granted w R := by
  have hc := calls_of_block (args := #[.pointer e, .int .i64 from0, .int .i64 term, .bool granted]) Tryz.func182 (body := (Tryz.f182.body.getD .skip)) (by kernel_rfl) (by kernel_rfl) (args_slot _) (electm_Elect_GotVote.B0_sound e from0 term granted w h)
  exact hc.mono fun e w' he => by
    obtain ⟨v, rfl, hv⟩ := he
    exact electm_Elect_GotVote.RV_elim hv
def rlogm_Log_Append.B2 (l : Option Addr) (e : Nat) (t31 : Bool) (w : World)   (R : Int → World → Prop) : Prop :=
  Bm t31 (
    R (6 : Int) w) (
    Pn l fun a =>
    LdP a w.drew fun x35 =>
    Pn l fun a_1 =>
    LdP a_1 w.drew fun x39 =>
    Pn x39 fun a_2 =>
    LdI .i64 (a_2.add 5) w.drew fun x42 =>
    LdI .i64 ⟨e, 0, none⟩ w.drew fun x43_0 =>
    LdS ⟨e, 1, none⟩ w.drew fun x43_1 =>
    Pn x35 fun a_3 =>
    (0 ≤ x42 ∧ x42 < ((6 : Nat) : Int)) ∧
    Sts [.int .i64 x43_0, .string x43_1] (Addr.add (a_3.add 6) (x42.toNat * 2)) 0 w.drew fun w1 =>
    Pn l fun a_4 =>
    LdP a_4 w1 fun x50 =>
    Pn x50 fun a_5 =>
    LdI .i64 (a_5.add 5) w1 fun x53 =>
    Pn x50 fun a_6 =>
    Sts [.int .i64 (IntKind.i64.wrap (x53 + (1 : Int)))] (a_6.add 5) 0 w1 fun w2 =>
    rlogm_Log_step.Call l w2 fun w3 =>
    R (0 : Int) w3)
theorem rlogm_Log_Append.B2_eq (l : Option Addr) (e : Nat) (t31 : Bool) (w : World)   (R : Int → World → Prop)  :
    (
  Bm t31 (
    R (6 : Int) w) (
    Pn l fun a =>
    LdP a w.drew fun x35 =>
    Pn l fun a_1 =>
    LdP a_1 w.drew fun x39 =>
    Pn x39 fun a_2 =>
    LdI .i64 (a_2.add 5) w.drew fun x42 =>
    LdI .i64 ⟨e, 0, none⟩ w.drew fun x43_0 =>
    LdS ⟨e, 1, none⟩ w.drew fun x43_1 =>
    Pn x35 fun a_3 =>
    (0 ≤ x42 ∧ x42 < ((6 : Nat) : Int)) ∧
    Sts [.int .i64 x43_0, .string x43_1] (Addr.add (a_3.add 6) (x42.toNat * 2)) 0 w.drew fun w1 =>
    Pn l fun a_4 =>
    LdP a_4 w1 fun x50 =>
    Pn x50 fun a_5 =>
    LdI .i64 (a_5.add 5) w1 fun x53 =>
    Pn x50 fun a_6 =>
    Sts [.int .i64 (IntKind.i64.wrap (x53 + (1 : Int)))] (a_6.add 5) 0 w1 fun w2 =>
    rlogm_Log_step.Call l w2 fun w3 =>
    R (0 : Int) w3)) = kstep Tryz.prog 59 Tryz.f183.results.toList (Tryz.f183.body.getD .skip) (rlogm_Log_Append.RV R) (kvc Tryz.prog 59 Tryz.f183.results.toList (Tryz.f183.body.getD .skip) (rlogm_Log_Append.RV R) [] 2000) [(0, [1, 1, 0, 1]), (0, [1, 1, 1])] [(0, .pointer l), (3, .pointer (some ⟨e, 0, none⟩)), (31, .bool t31)] w := by kernel_rfl
theorem rlogm_Log_Append.B2_sound {R : Int → World → Prop}  (l : Option Addr) (e : Nat) (t31 : Bool) (w : World) (h : rlogm_Log_Append.B2 l e t31 w   R) :
    KW Tryz.prog 183 59 (rlogm_Log_Append.RV R) ([(0, [1, 1, 0, 1]), (0, [1, 1, 1])].map (toItem (Tryz.f183.body.getD .skip))) [(0, .pointer l), (3, .pointer (some ⟨e, 0, none⟩)), (31, .bool t31)] w := by
  exact block_spec Tryz.func183 Tryz.mixed stops_nil (Eq.mp (rlogm_Log_Append.B2_eq l e t31 w   R ) h)
def rlogm_Log_Append.B1 (l : Option Addr) (e : Nat) (t18 : Bool) (w : World)   (R : Int → World → Prop) : Prop :=
  Bm t18 (
    R (4 : Int) w) (
    Pn l fun a =>
    LdP a w fun x22 =>
    Pn x22 fun a_1 =>
    LdI .i64 (a_1.add 5) w fun x25 =>
    Bm (decide (x25 ≥ (6 : Int))) (
      rlogm_Log_Append.B2 l e true w  R) (
      rlogm_Log_Last.Call l w fun r29 w1 =>
      rlogm_Log_Append.B2 l e (decide (r29 ≥ (72057594037927936 : Int))) w1  R))
theorem rlogm_Log_Append.B1_eq (l : Option Addr) (e : Nat) (t18 : Bool) (w : World)   (R : Int → World → Prop) (sB2 : Option Addr → Nat → Bool → World → Prop) :
    (
  Bm t18 (
    R (4 : Int) w) (
    Pn l fun a =>
    LdP a w fun x22 =>
    Pn x22 fun a_1 =>
    LdI .i64 (a_1.add 5) w fun x25 =>
    Bm (decide (x25 ≥ (6 : Int))) (
      sB2 l e true w) (
      rlogm_Log_Last.Call l w fun r29 w1 =>
      sB2 l e (decide (r29 ≥ (72057594037927936 : Int))) w1))) = kstep Tryz.prog 59 Tryz.f183.results.toList (Tryz.f183.body.getD .skip) (rlogm_Log_Append.RV R) (kvc Tryz.prog 59 Tryz.f183.results.toList (Tryz.f183.body.getD .skip) (rlogm_Log_Append.RV R) [([(0, [1, 1, 0, 1]), (0, [1, 1, 1])], fun σ w => dP (slotOf σ 0) fun l_ => dK (slotOf σ 3) fun e_ => dB (slotOf σ 31) fun t31_ => sB2 l_ e_ t31_ w)] 2000) [(0, [1, 0, 1]), (0, [1, 1])] [(0, .pointer l), (3, .pointer (some ⟨e, 0, none⟩)), (18, .bool t18)] w := by kernel_rfl
theorem rlogm_Log_Append.B1_sound {R : Int → World → Prop}  (l : Option Addr) (e : Nat) (t18 : Bool) (w : World) (h : rlogm_Log_Append.B1 l e t18 w   R) :
    KW Tryz.prog 183 59 (rlogm_Log_Append.RV R) ([(0, [1, 0, 1]), (0, [1, 1])].map (toItem (Tryz.f183.body.getD .skip))) [(0, .pointer l), (3, .pointer (some ⟨e, 0, none⟩)), (18, .bool t18)] w := by
  exact block_spec Tryz.func183 Tryz.mixed (stops_cons (fun σ w h => by
      obtain ⟨l_, e0, h⟩ := dP_elim h
      obtain ⟨e_, e1, h⟩ := dK_elim h
      obtain ⟨t31_, e2, h⟩ := dB_elim h
      exact (rlogm_Log_Append.B2_sound  l_ e_ t31_ w h).weaken (Sub.cons (Sub.cons (Sub.cons (Sub.nil _) e2) e1) e0)) stops_nil) (Eq.mp (rlogm_Log_Append.B1_eq l e t18 w   R (fun l_ e_ t31_ w => rlogm_Log_Append.B2 l_ e_ t31_ w  R)) h)
def rlogm_Log_Append.B0 (l : Option Addr) (e_0 : Int) (e_1 : ByteArray) (w : World)   (R : Int → World → Prop) : Prop :=
  New (.cells #[.int .i64 e_0, .string e_1] 155) w fun e_ w1 =>
  LdI .i64 ⟨e_, 0, none⟩ w1 fun x6 =>
  Bm (decide (x6 < (0 : Int))) (
    rlogm_Log_Append.B1 l e_ true w1  R) (
    LdI .i64 ⟨e_, 0, none⟩ w1 fun x10 =>
    Bm (decide (x10 > (72057594037927936 : Int))) (
      rlogm_Log_Append.B1 l e_ true w1  R) (
      LdS ⟨e_, 1, none⟩ w1 fun x15 =>
      rlogm_Log_Append.B1 l e_ (decide (((x15.size : Nat) : Int) > (24 : Int))) w1  R))
theorem rlogm_Log_Append.B0_eq (l : Option Addr) (e_0 : Int) (e_1 : ByteArray) (w : World)   (R : Int → World → Prop) (sB1 : Option Addr → Nat → Bool → World → Prop) :
    (
  New (.cells #[.int .i64 e_0, .string e_1] 155) w fun e_ w1 =>
  LdI .i64 ⟨e_, 0, none⟩ w1 fun x6 =>
  Bm (decide (x6 < (0 : Int))) (
    sB1 l e_ true w1) (
    LdI .i64 ⟨e_, 0, none⟩ w1 fun x10 =>
    Bm (decide (x10 > (72057594037927936 : Int))) (
      sB1 l e_ true w1) (
      LdS ⟨e_, 1, none⟩ w1 fun x15 =>
      sB1 l e_ (decide (((x15.size : Nat) : Int) > (24 : Int))) w1))) = kstep Tryz.prog 59 Tryz.f183.results.toList (Tryz.f183.body.getD .skip) (rlogm_Log_Append.RV R) (kvc Tryz.prog 59 Tryz.f183.results.toList (Tryz.f183.body.getD .skip) (rlogm_Log_Append.RV R) [([(0, [1, 0, 1]), (0, [1, 1])], fun σ w => dP (slotOf σ 0) fun l_ => dK (slotOf σ 3) fun e_ => dB (slotOf σ 18) fun t18_ => sB1 l_ e_ t18_ w)] 2000) [(0, [])] [(0, .pointer l), (1, .agg #[.int .i64 e_0, .string e_1])] w := by kernel_rfl
theorem rlogm_Log_Append.B0_sound {R : Int → World → Prop}  (l : Option Addr) (e_0 : Int) (e_1 : ByteArray) (w : World) (h : rlogm_Log_Append.B0 l e_0 e_1 w   R) :
    KW Tryz.prog 183 59 (rlogm_Log_Append.RV R) ([(0, [])].map (toItem (Tryz.f183.body.getD .skip))) [(0, .pointer l), (1, .agg #[.int .i64 e_0, .string e_1])] w := by
  exact block_spec Tryz.func183 Tryz.mixed (stops_cons (fun σ w h => by
      obtain ⟨l_, e0, h⟩ := dP_elim h
      obtain ⟨e_, e1, h⟩ := dK_elim h
      obtain ⟨t18_, e2, h⟩ := dB_elim h
      exact (rlogm_Log_Append.B1_sound  l_ e_ t18_ w h).weaken (Sub.cons (Sub.cons (Sub.cons (Sub.nil _) e2) e1) e0)) stops_nil) (Eq.mp (rlogm_Log_Append.B0_eq l e_0 e_1 w   R (fun l_ e_ t18_ w => rlogm_Log_Append.B1 l_ e_ t18_ w  R)) h)
theorem rlogm_Log_Append.sound (l : Option Addr) (e_0 : Int) (e_1 : ByteArray) (w : World) (R : Int → World → Prop) (h : rlogm_Log_Append.B0 l e_0 e_1 w R) : rlogm_Log_Append.Call l e_0 e_1 w R := by
  have hc := calls_of_block (args := #[.pointer l, .agg #[.int .i64 e_0, .string e_1]]) Tryz.func183 (body := (Tryz.f183.body.getD .skip)) (by kernel_rfl) (by kernel_rfl) (args_slot _) (rlogm_Log_Append.B0_sound l e_0 e_1 w h)
  exact hc.mono fun e w' he => by
    obtain ⟨v, rfl, hv⟩ := he
    exact rlogm_Log_Append.RV_elim hv
def electm_Elect_Heard.B2 (e : Option Addr) (from0 : Int) (t30 : Bool) (w : World)   (R : Bool → World → Prop) : Prop :=
  Bm t30 (
    R false w) (
    Pn e fun a =>
    Sts [.int .i64 (0 : Int)] (a.add 3) 0 w fun w1 =>
    Pn e fun a_1 =>
    Sts [.int .i64 from0] (a_1.add 4) 0 w1 fun w2 =>
    Pn e fun a_2 =>
    Sts [.int .i64 (0 : Int)] (a_2.add 5) 0 w2 fun w3 =>
    Pn e fun a_3 =>
    Sts [.bool false, .bool false, .bool false] (a_3.add 6) 0 w3 fun w4 =>
    R true w4)
theorem electm_Elect_Heard.B2_eq (e : Option Addr) (from0 : Int) (t30 : Bool) (w : World)   (R : Bool → World → Prop)  :
    (
  Bm t30 (
    R false w) (
    Pn e fun a =>
    Sts [.int .i64 (0 : Int)] (a.add 3) 0 w fun w1 =>
    Pn e fun a_1 =>
    Sts [.int .i64 from0] (a_1.add 4) 0 w1 fun w2 =>
    Pn e fun a_2 =>
    Sts [.int .i64 (0 : Int)] (a_2.add 5) 0 w2 fun w3 =>
    Pn e fun a_3 =>
    Sts [.bool false, .bool false, .bool false] (a_3.add 6) 0 w3 fun w4 =>
    R true w4)) = kstep Tryz.prog 45 Tryz.f184.results.toList (Tryz.f184.body.getD .skip) (electm_Elect_Heard.RV R) (kvc Tryz.prog 45 Tryz.f184.results.toList (Tryz.f184.body.getD .skip) (electm_Elect_Heard.RV R) [] 2000) [(0, [1, 1, 1, 0, 1]), (0, [1, 1, 1, 1])] [(0, .pointer e), (1, .int .i64 from0), (30, .bool t30)] w := by kernel_rfl
theorem electm_Elect_Heard.B2_sound {R : Bool → World → Prop}  (e : Option Addr) (from0 : Int) (t30 : Bool) (w : World) (h : electm_Elect_Heard.B2 e from0 t30 w   R) :
    KW Tryz.prog 184 45 (electm_Elect_Heard.RV R) ([(0, [1, 1, 1, 0, 1]), (0, [1, 1, 1, 1])].map (toItem (Tryz.f184.body.getD .skip))) [(0, .pointer e), (1, .int .i64 from0), (30, .bool t30)] w := by
  exact block_spec Tryz.func184 Tryz.mixed stops_nil (Eq.mp (electm_Elect_Heard.B2_eq e from0 t30 w   R ) h)
def electm_Elect_Heard.B1 (e : Option Addr) (from0 term : Int) (t14 : Bool) (w : World)   (R : Bool → World → Prop) : Prop :=
  Bm t14 (
    R false w) (
    electm_Elect_See.Call e term w fun r17 w1 =>
    Pn e fun a =>
    LdI .i64 (a.add 1) w1 fun x22 =>
    Bm (decide (term < x22)) (
      electm_Elect_Heard.B2 e from0 true w1  R) (
      Pn e fun a_1 =>
      LdI .i64 (a_1.add 3) w1 fun x28 =>
      electm_Elect_Heard.B2 e from0 (x28 == (2 : Int)) w1  R))
theorem electm_Elect_Heard.B1_eq (e : Option Addr) (from0 term : Int) (t14 : Bool) (w : World)   (R : Bool → World → Prop) (sB2 : Option Addr → Int → Bool → World → Prop) :
    (
  Bm t14 (
    R false w) (
    electm_Elect_See.Call e term w fun r17 w1 =>
    Pn e fun a =>
    LdI .i64 (a.add 1) w1 fun x22 =>
    Bm (decide (term < x22)) (
      sB2 e from0 true w1) (
      Pn e fun a_1 =>
      LdI .i64 (a_1.add 3) w1 fun x28 =>
      sB2 e from0 (x28 == (2 : Int)) w1))) = kstep Tryz.prog 45 Tryz.f184.results.toList (Tryz.f184.body.getD .skip) (electm_Elect_Heard.RV R) (kvc Tryz.prog 45 Tryz.f184.results.toList (Tryz.f184.body.getD .skip) (electm_Elect_Heard.RV R) [([(0, [1, 1, 1, 0, 1]), (0, [1, 1, 1, 1])], fun σ w => dP (slotOf σ 0) fun e_ => dI .i64 (slotOf σ 1) fun from0_ => dB (slotOf σ 30) fun t30_ => sB2 e_ from0_ t30_ w)] 2000) [(0, [1, 0, 1]), (0, [1, 1])] [(0, .pointer e), (1, .int .i64 from0), (2, .int .i64 term), (14, .bool t14)] w := by kernel_rfl
theorem electm_Elect_Heard.B1_sound {R : Bool → World → Prop}  (e : Option Addr) (from0 term : Int) (t14 : Bool) (w : World) (h : electm_Elect_Heard.B1 e from0 term t14 w   R) :
    KW Tryz.prog 184 45 (electm_Elect_Heard.RV R) ([(0, [1, 0, 1]), (0, [1, 1])].map (toItem (Tryz.f184.body.getD .skip))) [(0, .pointer e), (1, .int .i64 from0), (2, .int .i64 term), (14, .bool t14)] w := by
  exact block_spec Tryz.func184 Tryz.mixed (stops_cons (fun σ w h => by
      obtain ⟨e_, e0, h⟩ := dP_elim h
      obtain ⟨from0_, e1, h⟩ := dI_elim h
      obtain ⟨t30_, e2, h⟩ := dB_elim h
      exact (electm_Elect_Heard.B2_sound  e_ from0_ t30_ w h).weaken (Sub.cons (Sub.cons (Sub.cons (Sub.nil _) e2) e1) e0)) stops_nil) (Eq.mp (electm_Elect_Heard.B1_eq e from0 term t14 w   R (fun e_ from0_ t30_ w => electm_Elect_Heard.B2 e_ from0_ t30_ w  R)) h)
def electm_Elect_Heard.B0 (e : Option Addr) (from0 term : Int) (w : World)   (R : Bool → World → Prop) : Prop :=
  electm_Elect_peer.Call e from0 w fun r9 w1 =>
  Bm (!r9) (
    electm_Elect_Heard.B1 e from0 term true w1  R) (
    electm_Elect_Heard.B1 e from0 term (decide (term > (72057594037927936 : Int))) w1  R)
theorem electm_Elect_Heard.B0_eq (e : Option Addr) (from0 term : Int) (w : World)   (R : Bool → World → Prop) (sB1 : Option Addr → Int → Int → Bool → World → Prop) :
    (
  electm_Elect_peer.Call e from0 w fun r9 w1 =>
  Bm (!r9) (
    sB1 e from0 term true w1) (
    sB1 e from0 term (decide (term > (72057594037927936 : Int))) w1)) = kstep Tryz.prog 45 Tryz.f184.results.toList (Tryz.f184.body.getD .skip) (electm_Elect_Heard.RV R) (kvc Tryz.prog 45 Tryz.f184.results.toList (Tryz.f184.body.getD .skip) (electm_Elect_Heard.RV R) [([(0, [1, 0, 1]), (0, [1, 1])], fun σ w => dP (slotOf σ 0) fun e_ => dI .i64 (slotOf σ 1) fun from0_ => dI .i64 (slotOf σ 2) fun term_ => dB (slotOf σ 14) fun t14_ => sB1 e_ from0_ term_ t14_ w)] 2000) [(0, [])] [(0, .pointer e), (1, .int .i64 from0), (2, .int .i64 term)] w := by kernel_rfl
theorem electm_Elect_Heard.B0_sound {R : Bool → World → Prop}  (e : Option Addr) (from0 term : Int) (w : World) (h : electm_Elect_Heard.B0 e from0 term w   R) :
    KW Tryz.prog 184 45 (electm_Elect_Heard.RV R) ([(0, [])].map (toItem (Tryz.f184.body.getD .skip))) [(0, .pointer e), (1, .int .i64 from0), (2, .int .i64 term)] w := by
  exact block_spec Tryz.func184 Tryz.mixed (stops_cons (fun σ w h => by
      obtain ⟨e_, e0, h⟩ := dP_elim h
      obtain ⟨from0_, e1, h⟩ := dI_elim h
      obtain ⟨term_, e2, h⟩ := dI_elim h
      obtain ⟨t14_, e3, h⟩ := dB_elim h
      exact (electm_Elect_Heard.B1_sound  e_ from0_ term_ t14_ w h).weaken (Sub.cons (Sub.cons (Sub.cons (Sub.cons (Sub.nil _) e3) e2) e1) e0)) stops_nil) (Eq.mp (electm_Elect_Heard.B0_eq e from0 term w   R (fun e_ from0_ term_ t14_ w => electm_Elect_Heard.B1 e_ from0_ term_ t14_ w  R)) h)
theorem electm_Elect_Heard.sound (e : Option Addr) (from0 term : Int) (w : World) (R : Bool → World → Prop) (h : electm_Elect_Heard.B0 e from0 term w R) : electm_Elect_Heard.Call e from0 term w R := by
  have hc := calls_of_block (args := #[.pointer e, .int .i64 from0, .int .i64 term]) Tryz.func184 (body := (Tryz.f184.body.getD .skip)) (by kernel_rfl) (by kernel_rfl) (args_slot _) (electm_Elect_Heard.B0_sound e from0 term w h)
  exact hc.mono fun e w' he => by
    obtain ⟨v, rfl, hv⟩ := he
    exact electm_Elect_Heard.RV_elim hv
def syncm_Sync_accept.B1 (s : Option Addr) (m0 : Nat) (prev matched k : Int) (w : World) (N1 : Option Addr → Nat → Int → Int → Int → World → Prop)  (R : Bool → Int → World → Prop) : Prop :=
  N1 s m0 prev matched (IntKind.i64.wrap (k + (1 : Int))) w
theorem syncm_Sync_accept.B1_eq (s : Option Addr) (m0 : Nat) (prev matched k : Int) (w : World) (N1 : Option Addr → Nat → Int → Int → Int → World → Prop)  (R : Bool → Int → World → Prop)  :
    (
  N1 s m0 prev matched (IntKind.i64.wrap (k + (1 : Int))) w) = kstep Tryz.prog 135 Tryz.f185.results.toList (Tryz.f185.body.getD .skip) (syncm_Sync_accept.RV R) (kvc Tryz.prog 135 Tryz.f185.results.toList (Tryz.f185.body.getD .skip) (syncm_Sync_accept.RV R) [([(0, [1, 1, 1, 1, 1, 1, 1, 1, 1, 0, 1, 0, 0]), (2, [1, 1, 1, 1, 1, 1, 1, 1, 1, 0, 1, 0, 0]), (1, [0]), (0, [1, 1, 1, 1, 1, 1, 1, 1, 1, 1])], fun σ w => dP (slotOf σ 0) fun s_ => dK (slotOf σ 3) fun m0_ => dI .i64 (slotOf σ 6) fun prev_ => dI .i64 (slotOf σ 11) fun matched_ => dI .i64 (slotOf σ 12) fun k_ => N1 s_ m0_ prev_ matched_ k_ w)] 2000) [(0, [1, 1, 1, 1, 1, 1, 1, 1, 1, 0, 1, 0, 0, 1, 1]), (2, [1, 1, 1, 1, 1, 1, 1, 1, 1, 0, 1, 0, 0]), (1, [0]), (0, [1, 1, 1, 1, 1, 1, 1, 1, 1, 1])] [(0, .pointer s), (3, .pointer (some ⟨m0, 0, none⟩)), (6, .int .i64 prev), (11, .int .i64 matched), (12, .int .i64 k)] w := by kernel_rfl
theorem syncm_Sync_accept.B1_sound {R : Bool → Int → World → Prop} {N1 : Option Addr → Nat → Int → Int → Int → World → Prop} (hN1 : ∀ s m0 prev matched k w, N1 s m0 prev matched k w → KW Tryz.prog 185 135 (syncm_Sync_accept.RV R) ([(0, [1, 1, 1, 1, 1, 1, 1, 1, 1, 0, 1, 0, 0]), (2, [1, 1, 1, 1, 1, 1, 1, 1, 1, 0, 1, 0, 0]), (1, [0]), (0, [1, 1, 1, 1, 1, 1, 1, 1, 1, 1])].map (toItem (Tryz.f185.body.getD .skip))) [(0, .pointer s), (3, .pointer (some ⟨m0, 0, none⟩)), (6, .int .i64 prev), (11, .int .i64 matched), (12, .int .i64 k)] w) (s : Option Addr) (m0 : Nat) (prev matched k : Int) (w : World) (h : syncm_Sync_accept.B1 s m0 prev matched k w N1  R) :
    KW Tryz.prog 185 135 (syncm_Sync_accept.RV R) ([(0, [1, 1, 1, 1, 1, 1, 1, 1, 1, 0, 1, 0, 0, 1, 1]), (2, [1, 1, 1, 1, 1, 1, 1, 1, 1, 0, 1, 0, 0]), (1, [0]), (0, [1, 1, 1, 1, 1, 1, 1, 1, 1, 1])].map (toItem (Tryz.f185.body.getD .skip))) [(0, .pointer s), (3, .pointer (some ⟨m0, 0, none⟩)), (6, .int .i64 prev), (11, .int .i64 matched), (12, .int .i64 k)] w := by
  exact block_spec Tryz.func185 Tryz.mixed (stops_cons (fun σ w h => by
      obtain ⟨s_, e0, h⟩ := dP_elim h
      obtain ⟨m0_, e1, h⟩ := dK_elim h
      obtain ⟨prev_, e2, h⟩ := dI_elim h
      obtain ⟨matched_, e3, h⟩ := dI_elim h
      obtain ⟨k_, e4, h⟩ := dI_elim h
      exact (hN1 s_ m0_ prev_ matched_ k_ w h).weaken (Sub.cons (Sub.cons (Sub.cons (Sub.cons (Sub.cons (Sub.nil _) e4) e3) e2) e1) e0)) stops_nil) (Eq.mp (syncm_Sync_accept.B1_eq s m0 prev matched k w N1  R ) h)
def syncm_Sync_accept.B4 (s : Option Addr) (matched c : Int) (w : World)   (R : Bool → Int → World → Prop) : Prop :=
  Pn s fun a =>
  LdI .i64 (a.add 2) w fun x128 =>
  Bm (decide (c > x128)) (
    Pn s fun a_1 =>
    Sts [.int .i64 c] (a_1.add 2) 0 w fun w1 =>
    R true matched w1) (
    R true matched w)
theorem syncm_Sync_accept.B4_eq (s : Option Addr) (matched c : Int) (w : World)   (R : Bool → Int → World → Prop)  :
    (
  Pn s fun a =>
  LdI .i64 (a.add 2) w fun x128 =>
  Bm (decide (c > x128)) (
    Pn s fun a_1 =>
    Sts [.int .i64 c] (a_1.add 2) 0 w fun w1 =>
    R true matched w1) (
    R true matched w)) = kstep Tryz.prog 135 Tryz.f185.results.toList (Tryz.f185.body.getD .skip) (syncm_Sync_accept.RV R) (kvc Tryz.prog 135 Tryz.f185.results.toList (Tryz.f185.body.getD .skip) (syncm_Sync_accept.RV R) [] 2000) [(0, [1, 1, 1, 1, 1, 1, 1, 1, 1, 1, 1, 1])] [(0, .pointer s), (11, .int .i64 matched), (17, .int .i64 c)] w := by kernel_rfl
theorem syncm_Sync_accept.B4_sound {R : Bool → Int → World → Prop}  (s : Option Addr) (matched c : Int) (w : World) (h : syncm_Sync_accept.B4 s matched c w   R) :
    KW Tryz.prog 185 135 (syncm_Sync_accept.RV R) ([(0, [1, 1, 1, 1, 1, 1, 1, 1, 1, 1, 1, 1])].map (toItem (Tryz.f185.body.getD .skip))) [(0, .pointer s), (11, .int .i64 matched), (17, .int .i64 c)] w := by
  exact block_spec Tryz.func185 Tryz.mixed stops_nil (Eq.mp (syncm_Sync_accept.B4_eq s matched c w   R ) h)
def syncm_Sync_accept.B2 (s : Option Addr) (m0 : Nat) (matched : Int) (w : World)   (R : Bool → Int → World → Prop) : Prop :=
  LdI .i64 ⟨m0, 6, none⟩ w fun x119 =>
  Bm (decide (x119 > matched)) (
    syncm_Sync_accept.B4 s matched matched w  R) (
    syncm_Sync_accept.B4 s matched x119 w  R)
theorem syncm_Sync_accept.B2_eq (s : Option Addr) (m0 : Nat) (matched : Int) (w : World)   (R : Bool → Int → World → Prop) (sB4 : Option Addr → Int → Int → World → Prop) :
    (
  LdI .i64 ⟨m0, 6, none⟩ w fun x119 =>
  Bm (decide (x119 > matched)) (
    sB4 s matched matched w) (
    sB4 s matched x119 w)) = kstep Tryz.prog 135 Tryz.f185.results.toList (Tryz.f185.body.getD .skip) (syncm_Sync_accept.RV R) (kvc Tryz.prog 135 Tryz.f185.results.toList (Tryz.f185.body.getD .skip) (syncm_Sync_accept.RV R) [([(0, [1, 1, 1, 1, 1, 1, 1, 1, 1, 1, 1, 1])], fun σ w => dP (slotOf σ 0) fun s_ => dI .i64 (slotOf σ 11) fun matched_ => dI .i64 (slotOf σ 17) fun c_ => sB4 s_ matched_ c_ w)] 2000) [(0, [1, 1, 1, 1, 1, 1, 1, 1, 1, 1])] [(0, .pointer s), (3, .pointer (some ⟨m0, 0, none⟩)), (11, .int .i64 matched)] w := by kernel_rfl
theorem syncm_Sync_accept.B2_sound {R : Bool → Int → World → Prop}  (s : Option Addr) (m0 : Nat) (matched : Int) (w : World) (h : syncm_Sync_accept.B2 s m0 matched w   R) :
    KW Tryz.prog 185 135 (syncm_Sync_accept.RV R) ([(0, [1, 1, 1, 1, 1, 1, 1, 1, 1, 1])].map (toItem (Tryz.f185.body.getD .skip))) [(0, .pointer s), (3, .pointer (some ⟨m0, 0, none⟩)), (11, .int .i64 matched)] w := by
  exact block_spec Tryz.func185 Tryz.mixed (stops_cons (fun σ w h => by
      obtain ⟨s_, e0, h⟩ := dP_elim h
      obtain ⟨matched_, e1, h⟩ := dI_elim h
      obtain ⟨c_, e2, h⟩ := dI_elim h
      exact (syncm_Sync_accept.B4_sound  s_ matched_ c_ w h).weaken (Sub.cons (Sub.cons (Sub.cons (Sub.nil _) e2) e1) e0)) stops_nil) (Eq.mp (syncm_Sync_accept.B2_eq s m0 matched w   R (fun s_ matched_ c_ w => syncm_Sync_accept.B4 s_ matched_ c_ w  R)) h)
def syncm_Sync_accept.B3 (s : Option Addr) (m0 : Nat) (prev matched k i : Int) (w : World) (N1 : Option Addr → Nat → Int → Int → Int → World → Prop)  (R : Bool → Int → World → Prop) : Prop :=
  Pn s fun a =>
  LdP a w.drew fun x108 =>
  LdL ⟨m0, 8, none⟩ w.drew fun x110_b x110_l x110_c =>
  Pn x110_b fun a_1 =>
  (0 ≤ k ∧ k < ((x110_l : Nat) : Int)) ∧
  LdI .i64 (Addr.add a_1 (k.toNat * 2)) w.drew fun x113_0 =>
  LdS ((Addr.add a_1 (k.toNat * 2)).add 1) w.drew fun x113_1 =>
  rlogm_Log_Append.Call x108 x113_0 x113_1 w.drew fun r114 w1 =>
  Bm (r114 != (0 : Int)) (
    syncm_Sync_accept.B2 s m0 matched w1  R) (
    syncm_Sync_accept.B1 s m0 prev i k w1 N1 R)
theorem syncm_Sync_accept.B3_eq (s : Option Addr) (m0 : Nat) (prev matched k i : Int) (w : World) (N1 : Option Addr → Nat → Int → Int → Int → World → Prop)  (R : Bool → Int → World → Prop) (sB2 : Option Addr → Nat → Int → World → Prop) (sB1 : Option Addr → Nat → Int → Int → Int → World → Prop) :
    (
  Pn s fun a =>
  LdP a w.drew fun x108 =>
  LdL ⟨m0, 8, none⟩ w.drew fun x110_b x110_l x110_c =>
  Pn x110_b fun a_1 =>
  (0 ≤ k ∧ k < ((x110_l : Nat) : Int)) ∧
  LdI .i64 (Addr.add a_1 (k.toNat * 2)) w.drew fun x113_0 =>
  LdS ((Addr.add a_1 (k.toNat * 2)).add 1) w.drew fun x113_1 =>
  rlogm_Log_Append.Call x108 x113_0 x113_1 w.drew fun r114 w1 =>
  Bm (r114 != (0 : Int)) (
    sB2 s m0 matched w1) (
    sB1 s m0 prev i k w1)) = kstep Tryz.prog 135 Tryz.f185.results.toList (Tryz.f185.body.getD .skip) (syncm_Sync_accept.RV R) (kvc Tryz.prog 135 Tryz.f185.results.toList (Tryz.f185.body.getD .skip) (syncm_Sync_accept.RV R) [([(0, [1, 1, 1, 1, 1, 1, 1, 1, 1, 1])], fun σ w => dP (slotOf σ 0) fun s_ => dK (slotOf σ 3) fun m0_ => dI .i64 (slotOf σ 11) fun matched_ => sB2 s_ m0_ matched_ w),
    ([(0, [1, 1, 1, 1, 1, 1, 1, 1, 1, 0, 1, 0, 0, 1, 1]), (2, [1, 1, 1, 1, 1, 1, 1, 1, 1, 0, 1, 0, 0]), (1, [0]), (0, [1, 1, 1, 1, 1, 1, 1, 1, 1, 1])], fun σ w => dP (slotOf σ 0) fun s_ => dK (slotOf σ 3) fun m0_ => dI .i64 (slotOf σ 6) fun prev_ => dI .i64 (slotOf σ 11) fun matched_ => dI .i64 (slotOf σ 12) fun k_ => sB1 s_ m0_ prev_ matched_ k_ w)] 2000) [(0, [1, 1, 1, 1, 1, 1, 1, 1, 1, 0, 1, 0, 0, 1, 0, 0, 1, 1, 1]), (1, [1]), (0, [1, 1, 1, 1, 1, 1, 1, 1, 1, 0, 1, 0, 0, 1, 1]), (2, [1, 1, 1, 1, 1, 1, 1, 1, 1, 0, 1, 0, 0]), (1, [0]), (0, [1, 1, 1, 1, 1, 1, 1, 1, 1, 1])] [(0, .pointer s), (3, .pointer (some ⟨m0, 0, none⟩)), (6, .int .i64 prev), (11, .int .i64 matched), (12, .int .i64 k), (13, .int .i64 i)] w := by kernel_rfl
theorem syncm_Sync_accept.B3_sound {R : Bool → Int → World → Prop} {N1 : Option Addr → Nat → Int → Int → Int → World → Prop} (hN1 : ∀ s m0 prev matched k w, N1 s m0 prev matched k w → KW Tryz.prog 185 135 (syncm_Sync_accept.RV R) ([(0, [1, 1, 1, 1, 1, 1, 1, 1, 1, 0, 1, 0, 0]), (2, [1, 1, 1, 1, 1, 1, 1, 1, 1, 0, 1, 0, 0]), (1, [0]), (0, [1, 1, 1, 1, 1, 1, 1, 1, 1, 1])].map (toItem (Tryz.f185.body.getD .skip))) [(0, .pointer s), (3, .pointer (some ⟨m0, 0, none⟩)), (6, .int .i64 prev), (11, .int .i64 matched), (12, .int .i64 k)] w) (s : Option Addr) (m0 : Nat) (prev matched k i : Int) (w : World) (h : syncm_Sync_accept.B3 s m0 prev matched k i w N1  R) :
    KW Tryz.prog 185 135 (syncm_Sync_accept.RV R) ([(0, [1, 1, 1, 1, 1, 1, 1, 1, 1, 0, 1, 0, 0, 1, 0, 0, 1, 1, 1]), (1, [1]), (0, [1, 1, 1, 1, 1, 1, 1, 1, 1, 0, 1, 0, 0, 1, 1]), (2, [1, 1, 1, 1, 1, 1, 1, 1, 1, 0, 1, 0, 0]), (1, [0]), (0, [1, 1, 1, 1, 1, 1, 1, 1, 1, 1])].map (toItem (Tryz.f185.body.getD .skip))) [(0, .pointer s), (3, .pointer (some ⟨m0, 0, none⟩)), (6, .int .i64 prev), (11, .int .i64 matched), (12, .int .i64 k), (13, .int .i64 i)] w := by
  exact block_spec Tryz.func185 Tryz.mixed (stops_cons (fun σ w h => by
      obtain ⟨s_, e0, h⟩ := dP_elim h
      obtain ⟨m0_, e1, h⟩ := dK_elim h
      obtain ⟨matched_, e2, h⟩ := dI_elim h
      exact (syncm_Sync_accept.B2_sound  s_ m0_ matched_ w h).weaken (Sub.cons (Sub.cons (Sub.cons (Sub.nil _) e2) e1) e0)) (stops_cons (fun σ w h => by
      obtain ⟨s_, e0, h⟩ := dP_elim h
      obtain ⟨m0_, e1, h⟩ := dK_elim h
      obtain ⟨prev_, e2, h⟩ := dI_elim h
      obtain ⟨matched_, e3, h⟩ := dI_elim h
      obtain ⟨k_, e4, h⟩ := dI_elim h
      exact (syncm_Sync_accept.B1_sound hN1 s_ m0_ prev_ matched_ k_ w h).weaken (Sub.cons (Sub.cons (Sub.cons (Sub.cons (Sub.cons (Sub.nil _) e4) e3) e2) e1) e0)) stops_nil)) (Eq.mp (syncm_Sync_accept.B3_eq s m0 prev matched k i w N1  R (fun s_ m0_ matched_ w => syncm_Sync_accept.B2 s_ m0_ matched_ w  R) (fun s_ m0_ prev_ matched_ k_ w => syncm_Sync_accept.B1 s_ m0_ prev_ matched_ k_ w N1 R)) h)
def syncm_Sync_accept.L1b (s : Option Addr) (m0 : Nat) (prev matched k : Int) (w : World)  (N1 : Option Addr → Nat → Int → Int → Int → World → Prop) (R : Bool → Int → World → Prop) : Prop :=
  LdL ⟨m0, 8, none⟩ w fun x58_b x58_l x58_c =>
  Bm (decide (k < ((x58_l : Nat) : Int))) (
    Pn s fun a =>
    LdP a w fun x70 =>
    rlogm_Log_Last.Call x70 w fun r71 w1 =>
    Bm (decide ((IntKind.i64.wrap ((IntKind.i64.wrap (prev + (1 : Int))) + k)) ≤ r71)) (
      Pn s fun a_1 =>
      LdP a_1 w1 fun x79 =>
      rlogm_Log_TermAt.Call x79 (IntKind.i64.wrap ((IntKind.i64.wrap (prev + (1 : Int))) + k)) w1 fun r81_0 r81_1 w2 =>
      LdL ⟨m0, 8, none⟩ w2 fun x86_b x86_l x86_c =>
      Pn x86_b fun a_2 =>
      (0 ≤ k ∧ k < ((x86_l : Nat) : Int)) ∧
      LdI .i64 (Addr.add a_2 (k.toNat * 2)) w2 fun x90 =>
      Bm (r81_0 == x90) (
        syncm_Sync_accept.B1 s m0 prev (IntKind.i64.wrap ((IntKind.i64.wrap (prev + (1 : Int))) + k)) k w2 N1 R) (
        Pn s fun a_3 =>
        LdI .i64 (a_3.add 2) w2 fun x97 =>
        Bm (decide ((IntKind.i64.wrap ((IntKind.i64.wrap (prev + (1 : Int))) + k)) ≤ x97)) (
          syncm_Sync_accept.B2 s m0 matched w2  R) (
          Pn s fun a_4 =>
          LdP a_4 w2 fun x102 =>
          rlogm_Log_TruncateFrom.Call x102 (IntKind.i64.wrap ((IntKind.i64.wrap (prev + (1 : Int))) + k)) w2 fun r104 w3 =>
          syncm_Sync_accept.B3 s m0 prev matched k (IntKind.i64.wrap ((IntKind.i64.wrap (prev + (1 : Int))) + k)) w3 N1 R))) (
      syncm_Sync_accept.B3 s m0 prev matched k (IntKind.i64.wrap ((IntKind.i64.wrap (prev + (1 : Int))) + k)) w1 N1 R)) (
    syncm_Sync_accept.B2 s m0 matched w  R)
theorem syncm_Sync_accept.L1b_eq (s : Option Addr) (m0 : Nat) (prev matched k : Int) (w : World)  (N1 : Option Addr → Nat → Int → Int → Int → World → Prop) (R : Bool → Int → World → Prop) (sB1 : Option Addr → Nat → Int → Int → Int → World → Prop) (sB2 : Option Addr → Nat → Int → World → Prop) (sB3 : Option Addr → Nat → Int → Int → Int → Int → World → Prop) :
    (
  LdL ⟨m0, 8, none⟩ w fun x58_b x58_l x58_c =>
  Bm (decide (k < ((x58_l : Nat) : Int))) (
    Pn s fun a =>
    LdP a w fun x70 =>
    rlogm_Log_Last.Call x70 w fun r71 w1 =>
    Bm (decide ((IntKind.i64.wrap ((IntKind.i64.wrap (prev + (1 : Int))) + k)) ≤ r71)) (
      Pn s fun a_1 =>
      LdP a_1 w1 fun x79 =>
      rlogm_Log_TermAt.Call x79 (IntKind.i64.wrap ((IntKind.i64.wrap (prev + (1 : Int))) + k)) w1 fun r81_0 r81_1 w2 =>
      LdL ⟨m0, 8, none⟩ w2 fun x86_b x86_l x86_c =>
      Pn x86_b fun a_2 =>
      (0 ≤ k ∧ k < ((x86_l : Nat) : Int)) ∧
      LdI .i64 (Addr.add a_2 (k.toNat * 2)) w2 fun x90 =>
      Bm (r81_0 == x90) (
        sB1 s m0 prev (IntKind.i64.wrap ((IntKind.i64.wrap (prev + (1 : Int))) + k)) k w2) (
        Pn s fun a_3 =>
        LdI .i64 (a_3.add 2) w2 fun x97 =>
        Bm (decide ((IntKind.i64.wrap ((IntKind.i64.wrap (prev + (1 : Int))) + k)) ≤ x97)) (
          sB2 s m0 matched w2) (
          Pn s fun a_4 =>
          LdP a_4 w2 fun x102 =>
          rlogm_Log_TruncateFrom.Call x102 (IntKind.i64.wrap ((IntKind.i64.wrap (prev + (1 : Int))) + k)) w2 fun r104 w3 =>
          sB3 s m0 prev matched k (IntKind.i64.wrap ((IntKind.i64.wrap (prev + (1 : Int))) + k)) w3))) (
      sB3 s m0 prev matched k (IntKind.i64.wrap ((IntKind.i64.wrap (prev + (1 : Int))) + k)) w1)) (
    sB2 s m0 matched w)) = kstep Tryz.prog 135 Tryz.f185.results.toList (Tryz.f185.body.getD .skip) (syncm_Sync_accept.RV R) (kvc Tryz.prog 135 Tryz.f185.results.toList (Tryz.f185.body.getD .skip) (syncm_Sync_accept.RV R) [([(0, [1, 1, 1, 1, 1, 1, 1, 1, 1, 0, 1, 0, 0, 1, 1]), (2, [1, 1, 1, 1, 1, 1, 1, 1, 1, 0, 1, 0, 0]), (1, [0]), (0, [1, 1, 1, 1, 1, 1, 1, 1, 1, 1])], fun σ w => dP (slotOf σ 0) fun s_ => dK (slotOf σ 3) fun m0_ => dI .i64 (slotOf σ 6) fun prev_ => dI .i64 (slotOf σ 11) fun matched_ => dI .i64 (slotOf σ 12) fun k_ => sB1 s_ m0_ prev_ matched_ k_ w),
    ([(0, [1, 1, 1, 1, 1, 1, 1, 1, 1, 1])], fun σ w => dP (slotOf σ 0) fun s_ => dK (slotOf σ 3) fun m0_ => dI .i64 (slotOf σ 11) fun matched_ => sB2 s_ m0_ matched_ w),
    ([(0, [1, 1, 1, 1, 1, 1, 1, 1, 1, 0, 1, 0, 0, 1, 0, 0, 1, 1, 1]), (1, [1]), (0, [1, 1, 1, 1, 1, 1, 1, 1, 1, 0, 1, 0, 0, 1, 1]), (2, [1, 1, 1, 1, 1, 1, 1, 1, 1, 0, 1, 0, 0]), (1, [0]), (0, [1, 1, 1, 1, 1, 1, 1, 1, 1, 1])], fun σ w => dP (slotOf σ 0) fun s_ => dK (slotOf σ 3) fun m0_ => dI .i64 (slotOf σ 6) fun prev_ => dI .i64 (slotOf σ 11) fun matched_ => dI .i64 (slotOf σ 12) fun k_ => dI .i64 (slotOf σ 13) fun i_ => sB3 s_ m0_ prev_ matched_ k_ i_ w)] 2000) [(0, [1, 1, 1, 1, 1, 1, 1, 1, 1, 0, 1, 0, 0]), (2, [1, 1, 1, 1, 1, 1, 1, 1, 1, 0, 1, 0, 0]), (1, [0]), (0, [1, 1, 1, 1, 1, 1, 1, 1, 1, 1])] [(0, .pointer s), (3, .pointer (some ⟨m0, 0, none⟩)), (6, .int .i64 prev), (11, .int .i64 matched), (12, .int .i64 k)] w := by kernel_rfl
theorem syncm_Sync_accept.L1b_sound {R : Bool → Int → World → Prop} {N1 : Option Addr → Nat → Int → Int → Int → World → Prop} (hN1 : ∀ s m0 prev matched k w, N1 s m0 prev matched k w → KW Tryz.prog 185 135 (syncm_Sync_accept.RV R) ([(0, [1, 1, 1, 1, 1, 1, 1, 1, 1, 0, 1, 0, 0]), (2, [1, 1, 1, 1, 1, 1, 1, 1, 1, 0, 1, 0, 0]), (1, [0]), (0, [1, 1, 1, 1, 1, 1, 1, 1, 1, 1])].map (toItem (Tryz.f185.body.getD .skip))) [(0, .pointer s), (3, .pointer (some ⟨m0, 0, none⟩)), (6, .int .i64 prev), (11, .int .i64 matched), (12, .int .i64 k)] w) (s : Option Addr) (m0 : Nat) (prev matched k : Int) (w : World) (h : syncm_Sync_accept.L1b s m0 prev matched k w  N1 R) :
    KW Tryz.prog 185 135 (syncm_Sync_accept.RV R) ([(0, [1, 1, 1, 1, 1, 1, 1, 1, 1, 0, 1, 0, 0]), (2, [1, 1, 1, 1, 1, 1, 1, 1, 1, 0, 1, 0, 0]), (1, [0]), (0, [1, 1, 1, 1, 1, 1, 1, 1, 1, 1])].map (toItem (Tryz.f185.body.getD .skip))) [(0, .pointer s), (3, .pointer (some ⟨m0, 0, none⟩)), (6, .int .i64 prev), (11, .int .i64 matched), (12, .int .i64 k)] w := by
  exact block_spec Tryz.func185 Tryz.mixed (stops_cons (fun σ w h => by
      obtain ⟨s_, e0, h⟩ := dP_elim h
      obtain ⟨m0_, e1, h⟩ := dK_elim h
      obtain ⟨prev_, e2, h⟩ := dI_elim h
      obtain ⟨matched_, e3, h⟩ := dI_elim h
      obtain ⟨k_, e4, h⟩ := dI_elim h
      exact (syncm_Sync_accept.B1_sound hN1 s_ m0_ prev_ matched_ k_ w h).weaken (Sub.cons (Sub.cons (Sub.cons (Sub.cons (Sub.cons (Sub.nil _) e4) e3) e2) e1) e0)) (stops_cons (fun σ w h => by
      obtain ⟨s_, e0, h⟩ := dP_elim h
      obtain ⟨m0_, e1, h⟩ := dK_elim h
      obtain ⟨matched_, e2, h⟩ := dI_elim h
      exact (syncm_Sync_accept.B2_sound  s_ m0_ matched_ w h).weaken (Sub.cons (Sub.cons (Sub.cons (Sub.nil _) e2) e1) e0)) (stops_cons (fun σ w h => by
      obtain ⟨s_, e0, h⟩ := dP_elim h
      obtain ⟨m0_, e1, h⟩ := dK_elim h
      obtain ⟨prev_, e2, h⟩ := dI_elim h
      obtain ⟨matched_, e3, h⟩ := dI_elim h
      obtain ⟨k_, e4, h⟩ := dI_elim h
      obtain ⟨i_, e5, h⟩ := dI_elim h
      exact (syncm_Sync_accept.B3_sound hN1 s_ m0_ prev_ matched_ k_ i_ w h).weaken (Sub.cons (Sub.cons (Sub.cons (Sub.cons (Sub.cons (Sub.cons (Sub.nil _) e5) e4) e3) e2) e1) e0)) stops_nil))) (Eq.mp (syncm_Sync_accept.L1b_eq s m0 prev matched k w  N1 R (fun s_ m0_ prev_ matched_ k_ w => syncm_Sync_accept.B1 s_ m0_ prev_ matched_ k_ w N1 R) (fun s_ m0_ matched_ w => syncm_Sync_accept.B2 s_ m0_ matched_ w  R) (fun s_ m0_ prev_ matched_ k_ i_ w => syncm_Sync_accept.B3 s_ m0_ prev_ matched_ k_ i_ w N1 R)) h)
def syncm_Sync_accept.L1 (s : Option Addr) (m0 : Nat) (prev matched k : Int) (w : World)  (R : Bool → Int → World → Prop) : Prop :=
  ∃ (I : Nat → Option Addr → Nat → Int → Int → Int → World → Prop) (m : Nat), I m s m0 prev matched k w ∧ ∀ m s m0 prev matched k w, I m s m0 prev matched k w → syncm_Sync_accept.L1b s m0 prev matched k w  (fun s' m0' prev' matched' k' w' => ∃ m', m' < m ∧ I m' s' m0' prev' matched' k' w') R
theorem syncm_Sync_accept.L1_sound {R : Bool → Int → World → Prop}  (s : Option Addr) (m0 : Nat) (prev matched k : Int) (w : World) (h : syncm_Sync_accept.L1 s m0 prev matched k w  R) :
    KW Tryz.prog 185 135 (syncm_Sync_accept.RV R) ([(0, [1, 1, 1, 1, 1, 1, 1, 1, 1, 0, 1, 0, 0]), (2, [1, 1, 1, 1, 1, 1, 1, 1, 1, 0, 1, 0, 0]), (1, [0]), (0, [1, 1, 1, 1, 1, 1, 1, 1, 1, 1])].map (toItem (Tryz.f185.body.getD .skip))) [(0, .pointer s), (3, .pointer (some ⟨m0, 0, none⟩)), (6, .int .i64 prev), (11, .int .i64 matched), (12, .int .i64 k)] w := by
  obtain ⟨I, m, hBase, hr⟩ := h
  refine KW.loop (fun m σ w => ∃ (s : Option Addr) (m0 : Nat) (prev matched k : Int), σ = [(0, .pointer s), (3, .pointer (some ⟨m0, 0, none⟩)), (6, .int .i64 prev), (11, .int .i64 matched), (12, .int .i64 k)] ∧ I m s m0 prev matched k w) ?_ m _ w ⟨s, m0, prev, matched, k, rfl, hBase⟩
  rintro m ih σ w ⟨s, m0, prev, matched, k, rfl, hI⟩
  exact syncm_Sync_accept.L1b_sound  (N1 := fun s' m0' prev' matched' k' w' => ∃ m', m' < m ∧ I m' s' m0' prev' matched' k' w') (fun s' m0' prev' matched' k' w' hx => by obtain ⟨m', hlt, hI'⟩ := hx; exact ih m' hlt _ w' ⟨s', m0', prev', matched', k', rfl, hI'⟩) s m0 prev matched k w (hr m s m0 prev matched k w hI)
def syncm_Sync_accept.B0 (s : Option Addr) (m0_0 m0_1 m0_2 m0_3 m0_4 m0_5 m0_6 : Int) (m0_7 : Bool) (m0_8_b : Option Addr) (m0_8_l m0_8_c : Nat) (m0_9 : ByteArray) (w : World)   (R : Bool → Int → World → Prop) : Prop :=
  New (.cells #[.int .i64 m0_0, .int .i64 m0_1, .int .i64 m0_2, .int .i64 m0_3, .int .i64 m0_4, .int .i64 m0_5, .int .i64 m0_6, .bool m0_7, .slice m0_8_b m0_8_l m0_8_c, .string m0_9] 101) w fun m0_ w1 =>
  LdI .i64 ⟨m0_, 4, none⟩ w1 fun x19 =>
  Pn s fun a =>
  LdP a w1 fun x23 =>
  rlogm_Log_Base.Call x23 w1 fun r24 w2 =>
  Pn s fun a_1 =>
  LdP a_1 w2 fun x28 =>
  rlogm_Log_Last.Call x28 w2 fun r29 w3 =>
  Bm (decide (x19 < r24)) (
    R true r24 w3) (
    Bm (decide (x19 > r29)) (
      R false r29 w3) (
      Pn s fun a_2 =>
      LdP a_2 w3 fun x42 =>
      rlogm_Log_TermAt.Call x42 x19 w3 fun r44_0 r44_1 w4 =>
      LdI .i64 ⟨m0_, 5, none⟩ w4 fun x49 =>
      Bm (r44_0 != x49) (
        Bm (x19 == (0 : Int)) (
          R false (0 : Int) w4) (
          R false (IntKind.i64.wrap (x19 - (1 : Int))) w4)) (
        syncm_Sync_accept.L1 s m0_ x19 x19 (0 : Int) w4  R)))
theorem syncm_Sync_accept.B0_eq (s : Option Addr) (m0_0 m0_1 m0_2 m0_3 m0_4 m0_5 m0_6 : Int) (m0_7 : Bool) (m0_8_b : Option Addr) (m0_8_l m0_8_c : Nat) (m0_9 : ByteArray) (w : World)   (R : Bool → Int → World → Prop) (sL1 : Option Addr → Nat → Int → Int → Int → World → Prop) :
    (
  New (.cells #[.int .i64 m0_0, .int .i64 m0_1, .int .i64 m0_2, .int .i64 m0_3, .int .i64 m0_4, .int .i64 m0_5, .int .i64 m0_6, .bool m0_7, .slice m0_8_b m0_8_l m0_8_c, .string m0_9] 101) w fun m0_ w1 =>
  LdI .i64 ⟨m0_, 4, none⟩ w1 fun x19 =>
  Pn s fun a =>
  LdP a w1 fun x23 =>
  rlogm_Log_Base.Call x23 w1 fun r24 w2 =>
  Pn s fun a_1 =>
  LdP a_1 w2 fun x28 =>
  rlogm_Log_Last.Call x28 w2 fun r29 w3 =>
  Bm (decide (x19 < r24)) (
    R true r24 w3) (
    Bm (decide (x19 > r29)) (
      R false r29 w3) (
      Pn s fun a_2 =>
      LdP a_2 w3 fun x42 =>
      rlogm_Log_TermAt.Call x42 x19 w3 fun r44_0 r44_1 w4 =>
      LdI .i64 ⟨m0_, 5, none⟩ w4 fun x49 =>
      Bm (r44_0 != x49) (
        Bm (x19 == (0 : Int)) (
          R false (0 : Int) w4) (
          R false (IntKind.i64.wrap (x19 - (1 : Int))) w4)) (
        sL1 s m0_ x19 x19 (0 : Int) w4)))) = kstep Tryz.prog 135 Tryz.f185.results.toList (Tryz.f185.body.getD .skip) (syncm_Sync_accept.RV R) (kvc Tryz.prog 135 Tryz.f185.results.toList (Tryz.f185.body.getD .skip) (syncm_Sync_accept.RV R) [([(0, [1, 1, 1, 1, 1, 1, 1, 1, 1, 0, 1, 0, 0]), (2, [1, 1, 1, 1, 1, 1, 1, 1, 1, 0, 1, 0, 0]), (1, [0]), (0, [1, 1, 1, 1, 1, 1, 1, 1, 1, 1])], fun σ w => dP (slotOf σ 0) fun s_ => dK (slotOf σ 3) fun m0_ => dI .i64 (slotOf σ 6) fun prev_ => dI .i64 (slotOf σ 11) fun matched_ => dI .i64 (slotOf σ 12) fun k_ => sL1 s_ m0_ prev_ matched_ k_ w)] 2000) [(0, [])] [(0, .pointer s), (1, .agg #[.int .i64 m0_0, .int .i64 m0_1, .int .i64 m0_2, .int .i64 m0_3, .int .i64 m0_4, .int .i64 m0_5, .int .i64 m0_6, .bool m0_7, .slice m0_8_b m0_8_l m0_8_c, .string m0_9])] w := by kernel_rfl
theorem syncm_Sync_accept.B0_sound {R : Bool → Int → World → Prop}  (s : Option Addr) (m0_0 m0_1 m0_2 m0_3 m0_4 m0_5 m0_6 : Int) (m0_7 : Bool) (m0_8_b : Option Addr) (m0_8_l m0_8_c : Nat) (m0_9 : ByteArray) (w : World) (h : syncm_Sync_accept.B0 s m0_0 m0_1 m0_2 m0_3 m0_4 m0_5 m0_6 m0_7 m0_8_b m0_8_l m0_8_c m0_9 w   R) :
    KW Tryz.prog 185 135 (syncm_Sync_accept.RV R) ([(0, [])].map (toItem (Tryz.f185.body.getD .skip))) [(0, .pointer s), (1, .agg #[.int .i64 m0_0, .int .i64 m0_1, .int .i64 m0_2, .int .i64 m0_3, .int .i64 m0_4, .int .i64 m0_5, .int .i64 m0_6, .bool m0_7, .slice m0_8_b m0_8_l m0_8_c, .string m0_9])] w := by
  exact block_spec Tryz.func185 Tryz.mixed (stops_cons (fun σ w h => by
      obtain ⟨s_, e0, h⟩ := dP_elim h
      obtain ⟨m0_, e1, h⟩ := dK_elim h
      obtain ⟨prev_, e2, h⟩ := dI_elim h
      obtain ⟨matched_, e3, h⟩ := dI_elim h
      obtain ⟨k_, e4, h⟩ := dI_elim h
      exact (syncm_Sync_accept.L1_sound  s_ m0_ prev_ matched_ k_ w h).weaken (Sub.cons (Sub.cons (Sub.cons (Sub.cons (Sub.cons (Sub.nil _) e4) e3) e2) e1) e0)) stops_nil) (Eq.mp (syncm_Sync_accept.B0_eq s m0_0 m0_1 m0_2 m0_3 m0_4 m0_5 m0_6 m0_7 m0_8_b m0_8_l m0_8_c m0_9 w   R (fun s_ m0_ prev_ matched_ k_ w => syncm_Sync_accept.L1 s_ m0_ prev_ matched_ k_ w  R)) h)
theorem syncm_Sync_accept.sound (s : Option Addr) (m0_0 m0_1 m0_2 m0_3 m0_4 m0_5 m0_6 : Int) (m0_7 : Bool) (m0_8_b : Option Addr) (m0_8_l m0_8_c : Nat) (m0_9 : ByteArray) (w : World) (R : Bool → Int → World → Prop) (h : syncm_Sync_accept.B0 s m0_0 m0_1 m0_2 m0_3 m0_4 m0_5 m0_6 m0_7 m0_8_b m0_8_l m0_8_c m0_9 w R) : syncm_Sync_accept.Call s m0_0 m0_1 m0_2 m0_3 m0_4 m0_5 m0_6 m0_7 m0_8_b m0_8_l m0_8_c m0_9 w R := by
  have hc := calls_of_block (args := #[.pointer s, .agg #[.int .i64 m0_0, .int .i64 m0_1, .int .i64 m0_2, .int .i64 m0_3, .int .i64 m0_4, .int .i64 m0_5, .int .i64 m0_6, .bool m0_7, .slice m0_8_b m0_8_l m0_8_c, .string m0_9]]) Tryz.func185 (body := (Tryz.f185.body.getD .skip)) (by kernel_rfl) (by kernel_rfl) (args_slot _) (syncm_Sync_accept.B0_sound s m0_0 m0_1 m0_2 m0_3 m0_4 m0_5 m0_6 m0_7 m0_8_b m0_8_l m0_8_c m0_9 w h)
  exact hc.mono fun e w' he => by
    obtain ⟨v, rfl, hv⟩ := he
    exact syncm_Sync_accept.RV_elim hv
def rlogm_Log_Install.L1b (l : Option Addr) (idx term : Int) (snap : ByteArray) (w : World)  (N1 : Option Addr → Int → Int → ByteArray → World → Prop) (R : Int → World → Prop) : Prop :=
  Pn l fun a =>
  LdP a w fun x58 =>
  Pn x58 fun a_1 =>
  LdI .i64 (a_1.add 5) w fun x61 =>
  Bm (decide (x61 > (0 : Int))) (
    rlogm_Log_pop.Call l w fun w1 =>
    N1 l idx term snap w1) (
    Pn l fun a_2 =>
    LdP a_2 w.drew fun x68 =>
    Pn l fun a_3 =>
    LdP a_3 w.drew fun x72 =>
    Pn l fun a_4 =>
    LdP a_4 w.drew fun x76 =>
    Pn x68 fun a_5 =>
    Sts [.int .i64 idx] (a_5.add 2) 0 w.drew fun w2 =>
    Pn x72 fun a_6 =>
    Sts [.int .i64 term] (a_6.add 3) 0 w2 fun w3 =>
    Pn x76 fun a_7 =>
    Sts [.string snap] (a_7.add 4) 0 w3 fun w4 =>
    rlogm_Log_step.Call l w4 fun w5 =>
    R (0 : Int) w5)
theorem rlogm_Log_Install.L1b_eq (l : Option Addr) (idx term : Int) (snap : ByteArray) (w : World)  (N1 : Option Addr → Int → Int → ByteArray → World → Prop) (R : Int → World → Prop)  :
    (
  Pn l fun a =>
  LdP a w fun x58 =>
  Pn x58 fun a_1 =>
  LdI .i64 (a_1.add 5) w fun x61 =>
  Bm (decide (x61 > (0 : Int))) (
    rlogm_Log_pop.Call l w fun w1 =>
    N1 l idx term snap w1) (
    Pn l fun a_2 =>
    LdP a_2 w.drew fun x68 =>
    Pn l fun a_3 =>
    LdP a_3 w.drew fun x72 =>
    Pn l fun a_4 =>
    LdP a_4 w.drew fun x76 =>
    Pn x68 fun a_5 =>
    Sts [.int .i64 idx] (a_5.add 2) 0 w.drew fun w2 =>
    Pn x72 fun a_6 =>
    Sts [.int .i64 term] (a_6.add 3) 0 w2 fun w3 =>
    Pn x76 fun a_7 =>
    Sts [.string snap] (a_7.add 4) 0 w3 fun w4 =>
    rlogm_Log_step.Call l w4 fun w5 =>
    R (0 : Int) w5)) = kstep Tryz.prog 88 Tryz.f186.results.toList (Tryz.f186.body.getD .skip) (rlogm_Log_Install.RV R) (kvc Tryz.prog 88 Tryz.f186.results.toList (Tryz.f186.body.getD .skip) (rlogm_Log_Install.RV R) [([(0, [1, 1, 1, 1, 1, 1, 0, 0, 0]), (2, [1, 1, 1, 1, 1, 1, 0, 0, 0]), (1, [0]), (0, [1, 1, 1, 1, 1, 1, 1])], fun σ w => dP (slotOf σ 0) fun l_ => dI .i64 (slotOf σ 1) fun idx_ => dI .i64 (slotOf σ 2) fun term_ => dS (slotOf σ 3) fun snap_ => N1 l_ idx_ term_ snap_ w)] 2000) [(0, [1, 1, 1, 1, 1, 1, 0, 0, 0]), (2, [1, 1, 1, 1, 1, 1, 0, 0, 0]), (1, [0]), (0, [1, 1, 1, 1, 1, 1, 1])] [(0, .pointer l), (1, .int .i64 idx), (2, .int .i64 term), (3, .string snap)] w := by kernel_rfl
theorem rlogm_Log_Install.L1b_sound {R : Int → World → Prop} {N1 : Option Addr → Int → Int → ByteArray → World → Prop} (hN1 : ∀ l idx term snap w, N1 l idx term snap w → KW Tryz.prog 186 88 (rlogm_Log_Install.RV R) ([(0, [1, 1, 1, 1, 1, 1, 0, 0, 0]), (2, [1, 1, 1, 1, 1, 1, 0, 0, 0]), (1, [0]), (0, [1, 1, 1, 1, 1, 1, 1])].map (toItem (Tryz.f186.body.getD .skip))) [(0, .pointer l), (1, .int .i64 idx), (2, .int .i64 term), (3, .string snap)] w) (l : Option Addr) (idx term : Int) (snap : ByteArray) (w : World) (h : rlogm_Log_Install.L1b l idx term snap w  N1 R) :
    KW Tryz.prog 186 88 (rlogm_Log_Install.RV R) ([(0, [1, 1, 1, 1, 1, 1, 0, 0, 0]), (2, [1, 1, 1, 1, 1, 1, 0, 0, 0]), (1, [0]), (0, [1, 1, 1, 1, 1, 1, 1])].map (toItem (Tryz.f186.body.getD .skip))) [(0, .pointer l), (1, .int .i64 idx), (2, .int .i64 term), (3, .string snap)] w := by
  exact block_spec Tryz.func186 Tryz.mixed (stops_cons (fun σ w h => by
      obtain ⟨l_, e0, h⟩ := dP_elim h
      obtain ⟨idx_, e1, h⟩ := dI_elim h
      obtain ⟨term_, e2, h⟩ := dI_elim h
      obtain ⟨snap_, e3, h⟩ := dS_elim h
      exact (hN1 l_ idx_ term_ snap_ w h).weaken (Sub.cons (Sub.cons (Sub.cons (Sub.cons (Sub.nil _) e3) e2) e1) e0)) stops_nil) (Eq.mp (rlogm_Log_Install.L1b_eq l idx term snap w  N1 R ) h)
def rlogm_Log_Install.L1 (l : Option Addr) (idx term : Int) (snap : ByteArray) (w : World)  (R : Int → World → Prop) : Prop :=
  ∃ (I : Nat → Option Addr → Int → Int → ByteArray → World → Prop) (m : Nat), I m l idx term snap w ∧ ∀ m l idx term snap w, I m l idx term snap w → rlogm_Log_Install.L1b l idx term snap w  (fun l' idx' term' snap' w' => ∃ m', m' < m ∧ I m' l' idx' term' snap' w') R
theorem rlogm_Log_Install.L1_sound {R : Int → World → Prop}  (l : Option Addr) (idx term : Int) (snap : ByteArray) (w : World) (h : rlogm_Log_Install.L1 l idx term snap w  R) :
    KW Tryz.prog 186 88 (rlogm_Log_Install.RV R) ([(0, [1, 1, 1, 1, 1, 1, 0, 0, 0]), (2, [1, 1, 1, 1, 1, 1, 0, 0, 0]), (1, [0]), (0, [1, 1, 1, 1, 1, 1, 1])].map (toItem (Tryz.f186.body.getD .skip))) [(0, .pointer l), (1, .int .i64 idx), (2, .int .i64 term), (3, .string snap)] w := by
  obtain ⟨I, m, hBase, hr⟩ := h
  refine KW.loop (fun m σ w => ∃ (l : Option Addr) (idx term : Int) (snap : ByteArray), σ = [(0, .pointer l), (1, .int .i64 idx), (2, .int .i64 term), (3, .string snap)] ∧ I m l idx term snap w) ?_ m _ w ⟨l, idx, term, snap, rfl, hBase⟩
  rintro m ih σ w ⟨l, idx, term, snap, rfl, hI⟩
  exact rlogm_Log_Install.L1b_sound  (N1 := fun l' idx' term' snap' w' => ∃ m', m' < m ∧ I m' l' idx' term' snap' w') (fun l' idx' term' snap' w' hx => by obtain ⟨m', hlt, hI'⟩ := hx; exact ih m' hlt _ w' ⟨l', idx', term', snap', rfl, hI'⟩) l idx term snap w (hr m l idx term snap w hI)
def rlogm_Log_Install.B2 (l : Option Addr) (idx term : Int) (snap : ByteArray) (t49 : Bool) (w : World)   (R : Int → World → Prop) : Prop :=
  Bm t49 (
    rlogm_Log_rebase.Call l idx term snap w fun w1 =>
    R (0 : Int) w1) (
    rlogm_Log_Install.L1 l idx term snap w  R)
theorem rlogm_Log_Install.B2_eq (l : Option Addr) (idx term : Int) (snap : ByteArray) (t49 : Bool) (w : World)   (R : Int → World → Prop) (sL1 : Option Addr → Int → Int → ByteArray → World → Prop) :
    (
  Bm t49 (
    rlogm_Log_rebase.Call l idx term snap w fun w1 =>
    R (0 : Int) w1) (
    sL1 l idx term snap w)) = kstep Tryz.prog 88 Tryz.f186.results.toList (Tryz.f186.body.getD .skip) (rlogm_Log_Install.RV R) (kvc Tryz.prog 88 Tryz.f186.results.toList (Tryz.f186.body.getD .skip) (rlogm_Log_Install.RV R) [([(0, [1, 1, 1, 1, 1, 1, 0, 0, 0]), (2, [1, 1, 1, 1, 1, 1, 0, 0, 0]), (1, [0]), (0, [1, 1, 1, 1, 1, 1, 1])], fun σ w => dP (slotOf σ 0) fun l_ => dI .i64 (slotOf σ 1) fun idx_ => dI .i64 (slotOf σ 2) fun term_ => dS (slotOf σ 3) fun snap_ => sL1 l_ idx_ term_ snap_ w)] 2000) [(0, [1, 1, 1, 1, 1, 0, 1]), (0, [1, 1, 1, 1, 1, 1])] [(0, .pointer l), (1, .int .i64 idx), (2, .int .i64 term), (3, .string snap), (49, .bool t49)] w := by kernel_rfl
theorem rlogm_Log_Install.B2_sound {R : Int → World → Prop}  (l : Option Addr) (idx term : Int) (snap : ByteArray) (t49 : Bool) (w : World) (h : rlogm_Log_Install.B2 l idx term snap t49 w   R) :
    KW Tryz.prog 186 88 (rlogm_Log_Install.RV R) ([(0, [1, 1, 1, 1, 1, 0, 1]), (0, [1, 1, 1, 1, 1, 1])].map (toItem (Tryz.f186.body.getD .skip))) [(0, .pointer l), (1, .int .i64 idx), (2, .int .i64 term), (3, .string snap), (49, .bool t49)] w := by
  exact block_spec Tryz.func186 Tryz.mixed (stops_cons (fun σ w h => by
      obtain ⟨l_, e0, h⟩ := dP_elim h
      obtain ⟨idx_, e1, h⟩ := dI_elim h
      obtain ⟨term_, e2, h⟩ := dI_elim h
      obtain ⟨snap_, e3, h⟩ := dS_elim h
      exact (rlogm_Log_Install.L1_sound  l_ idx_ term_ snap_ w h).weaken (Sub.cons (Sub.cons (Sub.cons (Sub.cons (Sub.nil _) e3) e2) e1) e0)) stops_nil) (Eq.mp (rlogm_Log_Install.B2_eq l idx term snap t49 w   R (fun l_ idx_ term_ snap_ w => rlogm_Log_Install.L1 l_ idx_ term_ snap_ w  R)) h)
def rlogm_Log_Install.B1 (l : Option Addr) (idx term : Int) (snap : ByteArray) (t24 : Bool) (w : World)   (R : Int → World → Prop) : Prop :=
  Bm t24 (
    R (1 : Int) w) (
    Bm (decide (((snap.size : Nat) : Int) > (128 : Int))) (
      R (5 : Int) w) (
      Pn l fun a =>
      LdP a w fun x32 =>
      Pn x32 fun a_1 =>
      LdI .i64 (a_1.add 2) w fun x35 =>
      Bm (decide (idx ≤ x35)) (
        R (7 : Int) w) (
        rlogm_Log_TermAt.Call l idx w fun r40_0 r40_1 w1 =>
        Bm (r40_1 == (0 : Int)) (
          rlogm_Log_Install.B2 l idx term snap (r40_0 == term) w1  R) (
          rlogm_Log_Install.B2 l idx term snap false w1  R))))
theorem rlogm_Log_Install.B1_eq (l : Option Addr) (idx term : Int) (snap : ByteArray) (t24 : Bool) (w : World)   (R : Int → World → Prop) (sB2 : Option Addr → Int → Int → ByteArray → Bool → World → Prop) :
    (
  Bm t24 (
    R (1 : Int) w) (
    Bm (decide (((snap.size : Nat) : Int) > (128 : Int))) (
      R (5 : Int) w) (
      Pn l fun a =>
      LdP a w fun x32 =>
      Pn x32 fun a_1 =>
      LdI .i64 (a_1.add 2) w fun x35 =>
      Bm (decide (idx ≤ x35)) (
        R (7 : Int) w) (
        rlogm_Log_TermAt.Call l idx w fun r40_0 r40_1 w1 =>
        Bm (r40_1 == (0 : Int)) (
          sB2 l idx term snap (r40_0 == term) w1) (
          sB2 l idx term snap false w1))))) = kstep Tryz.prog 88 Tryz.f186.results.toList (Tryz.f186.body.getD .skip) (rlogm_Log_Install.RV R) (kvc Tryz.prog 88 Tryz.f186.results.toList (Tryz.f186.body.getD .skip) (rlogm_Log_Install.RV R) [([(0, [1, 1, 1, 1, 1, 0, 1]), (0, [1, 1, 1, 1, 1, 1])], fun σ w => dP (slotOf σ 0) fun l_ => dI .i64 (slotOf σ 1) fun idx_ => dI .i64 (slotOf σ 2) fun term_ => dS (slotOf σ 3) fun snap_ => dB (slotOf σ 49) fun t49_ => sB2 l_ idx_ term_ snap_ t49_ w)] 2000) [(0, [1, 0, 1]), (0, [1, 1])] [(0, .pointer l), (1, .int .i64 idx), (2, .int .i64 term), (3, .string snap), (24, .bool t24)] w := by kernel_rfl
theorem rlogm_Log_Install.B1_sound {R : Int → World → Prop}  (l : Option Addr) (idx term : Int) (snap : ByteArray) (t24 : Bool) (w : World) (h : rlogm_Log_Install.B1 l idx term snap t24 w   R) :
    KW Tryz.prog 186 88 (rlogm_Log_Install.RV R) ([(0, [1, 0, 1]), (0, [1, 1])].map (toItem (Tryz.f186.body.getD .skip))) [(0, .pointer l), (1, .int .i64 idx), (2, .int .i64 term), (3, .string snap), (24, .bool t24)] w := by
  exact block_spec Tryz.func186 Tryz.mixed (stops_cons (fun σ w h => by
      obtain ⟨l_, e0, h⟩ := dP_elim h
      obtain ⟨idx_, e1, h⟩ := dI_elim h
      obtain ⟨term_, e2, h⟩ := dI_elim h
      obtain ⟨snap_, e3, h⟩ := dS_elim h
      obtain ⟨t49_, e4, h⟩ := dB_elim h
      exact (rlogm_Log_Install.B2_sound  l_ idx_ term_ snap_ t49_ w h).weaken (Sub.cons (Sub.cons (Sub.cons (Sub.cons (Sub.cons (Sub.nil _) e4) e3) e2) e1) e0)) stops_nil) (Eq.mp (rlogm_Log_Install.B1_eq l idx term snap t24 w   R (fun l_ idx_ term_ snap_ t49_ w => rlogm_Log_Install.B2 l_ idx_ term_ snap_ t49_ w  R)) h)
def rlogm_Log_Install.B0 (l : Option Addr) (idx term : Int) (snap : ByteArray) (w : World)   (R : Int → World → Prop) : Prop :=
  Bm (decide (idx < (0 : Int))) (
    rlogm_Log_Install.B1 l idx term snap true w  R) (
    Bm (decide (idx > (72057594037927936 : Int))) (
      rlogm_Log_Install.B1 l idx term snap true w  R) (
      Bm (decide (term < (0 : Int))) (
        rlogm_Log_Install.B1 l idx term snap true w  R) (
        rlogm_Log_Install.B1 l idx term snap (decide (term > (72057594037927936 : Int))) w  R)))
theorem rlogm_Log_Install.B0_eq (l : Option Addr) (idx term : Int) (snap : ByteArray) (w : World)   (R : Int → World → Prop) (sB1 : Option Addr → Int → Int → ByteArray → Bool → World → Prop) :
    (
  Bm (decide (idx < (0 : Int))) (
    sB1 l idx term snap true w) (
    Bm (decide (idx > (72057594037927936 : Int))) (
      sB1 l idx term snap true w) (
      Bm (decide (term < (0 : Int))) (
        sB1 l idx term snap true w) (
        sB1 l idx term snap (decide (term > (72057594037927936 : Int))) w)))) = kstep Tryz.prog 88 Tryz.f186.results.toList (Tryz.f186.body.getD .skip) (rlogm_Log_Install.RV R) (kvc Tryz.prog 88 Tryz.f186.results.toList (Tryz.f186.body.getD .skip) (rlogm_Log_Install.RV R) [([(0, [1, 0, 1]), (0, [1, 1])], fun σ w => dP (slotOf σ 0) fun l_ => dI .i64 (slotOf σ 1) fun idx_ => dI .i64 (slotOf σ 2) fun term_ => dS (slotOf σ 3) fun snap_ => dB (slotOf σ 24) fun t24_ => sB1 l_ idx_ term_ snap_ t24_ w)] 2000) [(0, [])] [(0, .pointer l), (1, .int .i64 idx), (2, .int .i64 term), (3, .string snap)] w := by kernel_rfl
theorem rlogm_Log_Install.B0_sound {R : Int → World → Prop}  (l : Option Addr) (idx term : Int) (snap : ByteArray) (w : World) (h : rlogm_Log_Install.B0 l idx term snap w   R) :
    KW Tryz.prog 186 88 (rlogm_Log_Install.RV R) ([(0, [])].map (toItem (Tryz.f186.body.getD .skip))) [(0, .pointer l), (1, .int .i64 idx), (2, .int .i64 term), (3, .string snap)] w := by
  exact block_spec Tryz.func186 Tryz.mixed (stops_cons (fun σ w h => by
      obtain ⟨l_, e0, h⟩ := dP_elim h
      obtain ⟨idx_, e1, h⟩ := dI_elim h
      obtain ⟨term_, e2, h⟩ := dI_elim h
      obtain ⟨snap_, e3, h⟩ := dS_elim h
      obtain ⟨t24_, e4, h⟩ := dB_elim h
      exact (rlogm_Log_Install.B1_sound  l_ idx_ term_ snap_ t24_ w h).weaken (Sub.cons (Sub.cons (Sub.cons (Sub.cons (Sub.cons (Sub.nil _) e4) e3) e2) e1) e0)) stops_nil) (Eq.mp (rlogm_Log_Install.B0_eq l idx term snap w   R (fun l_ idx_ term_ snap_ t24_ w => rlogm_Log_Install.B1 l_ idx_ term_ snap_ t24_ w  R)) h)
theorem rlogm_Log_Install.sound (l : Option Addr) (idx term : Int) (snap : ByteArray) (w : World) (R : Int → World → Prop) (h : rlogm_Log_Install.B0 l idx term snap w R) : rlogm_Log_Install.Call l idx term snap w R := by
  have hc := calls_of_block (args := #[.pointer l, .int .i64 idx, .int .i64 term, .string snap]) Tryz.func186 (body := (Tryz.f186.body.getD .skip)) (by kernel_rfl) (by kernel_rfl) (args_slot _) (rlogm_Log_Install.B0_sound l idx term snap w h)
  exact hc.mono fun e w' he => by
    obtain ⟨v, rfl, hv⟩ := he
    exact rlogm_Log_Install.RV_elim hv
end Go.Proofs.Qxb6500430aGreat
