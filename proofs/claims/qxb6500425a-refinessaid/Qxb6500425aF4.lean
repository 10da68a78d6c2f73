import Derived.Test.Qxb6500425aSig
set_option maxRecDepth 100000
set_option linter.unusedVariables false
open Go.Vc
namespace Go.Proofs.Qxb6500425a
def ipm_IP_Peek.B1 (p : Option Addr) (i : Int) (t16 : Bool) (w : World)   (R : Option Addr → Nat → Nat → World → Prop) : Prop :=
  Bm t16 (
    New (.cells #[] 3) w fun b17 w1 =>
    R (some ⟨b17, 0, none⟩) 0 0 w1) (
    Make 3 (.int .i64 (0 : Int)) 1 8 (40 : Int) (40 : Int) w fun b18 w2 =>
    Pn p fun a =>
    LdL (a.add 3) w2 fun x23_b x23_l x23_c =>
    Pn x23_b fun a_1 =>
    (0 ≤ i ∧ i < ((x23_l : Nat) : Int)) ∧
    LdL ((Addr.add a_1 (i.toNat * 6)).add 5) w2 fun x27_b x27_l x27_c =>
    Copy 1 (some ⟨b18, 0, none⟩) 40 x27_b x27_l w2 fun n28 w3 =>
    R (some ⟨b18, 0, none⟩) 40 40 w3)
theorem ipm_IP_Peek.B1_eq (p : Option Addr) (i : Int) (t16 : Bool) (w : World)   (R : Option Addr → Nat → Nat → World → Prop)  :
    (
  Bm t16 (
    New (.cells #[] 3) w fun b17 w1 =>
    R (some ⟨b17, 0, none⟩) 0 0 w1) (
    Make 3 (.int .i64 (0 : Int)) 1 8 (40 : Int) (40 : Int) w fun b18 w2 =>
    Pn p fun a =>
    LdL (a.add 3) w2 fun x23_b x23_l x23_c =>
    Pn x23_b fun a_1 =>
    (0 ≤ i ∧ i < ((x23_l : Nat) : Int)) ∧
    LdL ((Addr.add a_1 (i.toNat * 6)).add 5) w2 fun x27_b x27_l x27_c =>
    Copy 1 (some ⟨b18, 0, none⟩) 40 x27_b x27_l w2 fun n28 w3 =>
    R (some ⟨b18, 0, none⟩) 40 40 w3)) = kstep Try.prog 30 Try.f37.results.toList (Try.f37.body.getD .skip) (ipm_IP_Peek.RV R) (kvc Try.prog 30 Try.f37.results.toList (Try.f37.body.getD .skip) (ipm_IP_Peek.RV R) [] 2000) [(0, [1, 0, 1]), (0, [1, 1])] [(0, .pointer p), (1, .int .i64 i), (16, .bool t16)] w := by kernel_rfl
theorem ipm_IP_Peek.B1_sound {R : Option Addr → Nat → Nat → World → Prop}  (p : Option Addr) (i : Int) (t16 : Bool) (w : World) (h : ipm_IP_Peek.B1 p i t16 w   R) :
    KW Try.prog 37 30 (ipm_IP_Peek.RV R) ([(0, [1, 0, 1]), (0, [1, 1])].map (toItem (Try.f37.body.getD .skip))) [(0, .pointer p), (1, .int .i64 i), (16, .bool t16)] w := by
  exact block_spec Try.func37 Try.mixed stops_nil (Eq.mp (ipm_IP_Peek.B1_eq p i t16 w   R ) h)
def ipm_IP_Peek.B0 (p : Option Addr) (i : Int) (w : World)   (R : Option Addr → Nat → Nat → World → Prop) : Prop :=
  Bm (decide (i < (0 : Int))) (
    ipm_IP_Peek.B1 p i true w  R) (
    Pn p fun a =>
    LdL (a.add 3) w fun x13_b x13_l x13_c =>
    ipm_IP_Peek.B1 p i (decide (i ≥ ((x13_l : Nat) : Int))) w  R)
theorem ipm_IP_Peek.B0_eq (p : Option Addr) (i : Int) (w : World)   (R : Option Addr → Nat → Nat → World → Prop) (sB1 : Option Addr → Int → Bool → World → Prop) :
    (
  Bm (decide (i < (0 : Int))) (
    sB1 p i true w) (
    Pn p fun a =>
    LdL (a.add 3) w fun x13_b x13_l x13_c =>
    sB1 p i (decide (i ≥ ((x13_l : Nat) : Int))) w)) = kstep Try.prog 30 Try.f37.results.toList (Try.f37.body.getD .skip) (ipm_IP_Peek.RV R) (kvc Try.prog 30 Try.f37.results.toList (Try.f37.body.getD .skip) (ipm_IP_Peek.RV R) [([(0, [1, 0, 1]), (0, [1, 1])], fun σ w => dP (slotOf σ 0) fun p_ => dI .i64 (slotOf σ 1) fun i_ => dB (slotOf σ 16) fun t16_ => sB1 p_ i_ t16_ w)] 2000) [(0, [])] [(0, .pointer p), (1, .int .i64 i)] w := by kernel_rfl
theorem ipm_IP_Peek.B0_sound {R : Option Addr → Nat → Nat → World → Prop}  (p : Option Addr) (i : Int) (w : World) (h : ipm_IP_Peek.B0 p i w   R) :
    KW Try.prog 37 30 (ipm_IP_Peek.RV R) ([(0, [])].map (toItem (Try.f37.body.getD .skip))) [(0, .pointer p), (1, .int .i64 i)] w := by
  exact block_spec Try.func37 Try.mixed (stops_cons (fun σ w h => by
      obtain ⟨p_, e0, h⟩ := dP_elim h
      obtain ⟨i_, e1, h⟩ := dI_elim h
      obtain ⟨t16_, e2, h⟩ := dB_elim h
      exact (ipm_IP_Peek.B1_sound  p_ i_ t16_ w h).weaken (Sub.cons (Sub.cons (Sub.cons (Sub.nil _) e2) e1) e0)) stops_nil) (Eq.mp (ipm_IP_Peek.B0_eq p i w   R (fun p_ i_ t16_ w => ipm_IP_Peek.B1 p_ i_ t16_ w  R)) h)
theorem ipm_IP_Peek.sound (p : Option Addr) (i : Int) (w : World) (R : Option Addr → Nat → Nat → World → Prop) (h : ipm_IP_Peek.B0 p i w R) : ipm_IP_Peek.Call p i w R := by
  have hc := calls_of_block (args := #[.pointer p, .int .i64 i]) Try.func37 (body := (Try.f37.body.getD .skip)) (by kernel_rfl) (by kernel_rfl) (args_slot _) (ipm_IP_Peek.B0_sound p i w h)
  exact hc.mono fun e w' he => by
    obtain ⟨v, rfl, hv⟩ := he
    exact ipm_IP_Peek.RV_elim hv
def ip_IP_checkSlot.B3 (p : Option Addr) (i : Int) (t87 : Bool) (w : World)   (R : Bool → World → Prop) : Prop :=
  Bm t87 (
    R false w) (
    Pn p fun a =>
    (0 ≤ i ∧ i < ((3 : Nat) : Int)) ∧
    LdI .u64 ((Addr.add (a.add 3) (i.toNat * 45)).add 4) w.drew fun x94 =>
    Pn p fun a_1 =>
    (0 ≤ i ∧ i < ((3 : Nat) : Int)) ∧
    LdI .i64 ((Addr.add (a_1.add 3) (i.toNat * 45)).add 3) w.drew fun x101 =>
    0 ≤ (IntKind.u64.wrap x101) ∧
    Bm ((x94.fdiv (2 ^ (min (IntKind.u64.wrap x101).toNat IntKind.u64.bits))) == (0 : Int)) (
      Pn p fun a_2 =>
      (0 ≤ i ∧ i < ((3 : Nat) : Int)) ∧
      LdI .u64 ((Addr.add (a_2.add 3) (i.toNat * 45)).add 4) w.drew fun x112 =>
      Pn p fun a_3 =>
      (0 ≤ i ∧ i < ((3 : Nat) : Int)) ∧
      LdI .i64 ((Addr.add (a_3.add 3) (i.toNat * 45)).add 3) w.drew fun x119 =>
      ip_below.Call x119 w.drew fun r120 w1 =>
      w1.cell? ((Addr.add (a_2.add 3) (i.toNat * 45)).add 4) = some (.int .u64 x112) ∧
      R (x112 != r120) w1) (
      R false w.drew))
theorem ip_IP_checkSlot.B3_eq (p : Option Addr) (i : Int) (t87 : Bool) (w : World)   (R : Bool → World → Prop)  :
    (
  Bm t87 (
    R false w) (
    Pn p fun a =>
    (0 ≤ i ∧ i < ((3 : Nat) : Int)) ∧
    LdI .u64 ((Addr.add (a.add 3) (i.toNat * 45)).add 4) w.drew fun x94 =>
    Pn p fun a_1 =>
    (0 ≤ i ∧ i < ((3 : Nat) : Int)) ∧
    LdI .i64 ((Addr.add (a_1.add 3) (i.toNat * 45)).add 3) w.drew fun x101 =>
    0 ≤ (IntKind.u64.wrap x101) ∧
    Bm ((x94.fdiv (2 ^ (min (IntKind.u64.wrap x101).toNat IntKind.u64.bits))) == (0 : Int)) (
      Pn p fun a_2 =>
      (0 ≤ i ∧ i < ((3 : Nat) : Int)) ∧
      LdI .u64 ((Addr.add (a_2.add 3) (i.toNat * 45)).add 4) w.drew fun x112 =>
      Pn p fun a_3 =>
      (0 ≤ i ∧ i < ((3 : Nat) : Int)) ∧
      LdI .i64 ((Addr.add (a_3.add 3) (i.toNat * 45)).add 3) w.drew fun x119 =>
      ip_below.Call x119 w.drew fun r120 w1 =>
      w1.cell? ((Addr.add (a_2.add 3) (i.toNat * 45)).add 4) = some (.int .u64 x112) ∧
      R (x112 != r120) w1) (
      R false w.drew))) = kstep Try.prog 123 Try.f38.results.toList (Try.f38.body.getD .skip) (ip_IP_checkSlot.RV R) (kvc Try.prog 123 Try.f38.results.toList (Try.f38.body.getD .skip) (ip_IP_checkSlot.RV R) [] 2000) [(0, [1, 1, 1, 1, 0, 1]), (0, [1, 1, 1, 1, 1])] [(0, .pointer p), (1, .int .i64 i), (87, .bool t87)] w := by kernel_rfl
theorem ip_IP_checkSlot.B3_sound {R : Bool → World → Prop}  (p : Option Addr) (i : Int) (t87 : Bool) (w : World) (h : ip_IP_checkSlot.B3 p i t87 w   R) :
    KW Try.prog 38 123 (ip_IP_checkSlot.RV R) ([(0, [1, 1, 1, 1, 0, 1]), (0, [1, 1, 1, 1, 1])].map (toItem (Try.f38.body.getD .skip))) [(0, .pointer p), (1, .int .i64 i), (87, .bool t87)] w := by
  exact block_spec Try.func38 Try.mixed stops_nil (Eq.mp (ip_IP_checkSlot.B3_eq p i t87 w   R ) h)
def ip_IP_checkSlot.B2 (p : Option Addr) (i : Int) (t61 : Bool) (w : World)   (R : Bool → World → Prop) : Prop :=
  Bm t61 (
    R false w) (
    Pn p fun a =>
    (0 ≤ i ∧ i < ((3 : Nat) : Int)) ∧
    LdI .i64 ((Addr.add (a.add 3) (i.toNat * 45)).add 3) w fun x68 =>
    Bm (x68 == (-1 : Int)) (
      R true w) (
      Pn p fun a_1 =>
      (0 ≤ i ∧ i < ((3 : Nat) : Int)) ∧
      LdI .i64 ((Addr.add (a_1.add 3) (i.toNat * 45)).add 3) w fun x76 =>
      Bm (decide (x76 < (1 : Int))) (
        ip_IP_checkSlot.B3 p i true w  R) (
        Pn p fun a_2 =>
        (0 ≤ i ∧ i < ((3 : Nat) : Int)) ∧
        LdI .i64 ((Addr.add (a_2.add 3) (i.toNat * 45)).add 3) w fun x85 =>
        ip_IP_checkSlot.B3 p i (decide (x85 > (40 : Int))) w  R)))
theorem ip_IP_checkSlot.B2_eq (p : Option Addr) (i : Int) (t61 : Bool) (w : World)   (R : Bool → World → Prop) (sB3 : Option Addr → Int → Bool → World → Prop) :
    (
  Bm t61 (
    R false w) (
    Pn p fun a =>
    (0 ≤ i ∧ i < ((3 : Nat) : Int)) ∧
    LdI .i64 ((Addr.add (a.add 3) (i.toNat * 45)).add 3) w fun x68 =>
    Bm (x68 == (-1 : Int)) (
      R true w) (
      Pn p fun a_1 =>
      (0 ≤ i ∧ i < ((3 : Nat) : Int)) ∧
      LdI .i64 ((Addr.add (a_1.add 3) (i.toNat * 45)).add 3) w fun x76 =>
      Bm (decide (x76 < (1 : Int))) (
        sB3 p i true w) (
        Pn p fun a_2 =>
        (0 ≤ i ∧ i < ((3 : Nat) : Int)) ∧
        LdI .i64 ((Addr.add (a_2.add 3) (i.toNat * 45)).add 3) w fun x85 =>
        sB3 p i (decide (x85 > (40 : Int))) w)))) = kstep Try.prog 123 Try.f38.results.toList (Try.f38.body.getD .skip) (ip_IP_checkSlot.RV R) (kvc Try.prog 123 Try.f38.results.toList (Try.f38.body.getD .skip) (ip_IP_checkSlot.RV R) [([(0, [1, 1, 1, 1, 0, 1]), (0, [1, 1, 1, 1, 1])], fun σ w => dP (slotOf σ 0) fun p_ => dI .i64 (slotOf σ 1) fun i_ => dB (slotOf σ 87) fun t87_ => sB3 p_ i_ t87_ w)] 2000) [(0, [1, 1, 0, 1]), (0, [1, 1, 1])] [(0, .pointer p), (1, .int .i64 i), (61, .bool t61)] w := by kernel_rfl
theorem ip_IP_checkSlot.B2_sound {R : Bool → World → Prop}  (p : Option Addr) (i : Int) (t61 : Bool) (w : World) (h : ip_IP_checkSlot.B2 p i t61 w   R) :
    KW Try.prog 38 123 (ip_IP_checkSlot.RV R) ([(0, [1, 1, 0, 1]), (0, [1, 1, 1])].map (toItem (Try.f38.body.getD .skip))) [(0, .pointer p), (1, .int .i64 i), (61, .bool t61)] w := by
  exact block_spec Try.func38 Try.mixed (stops_cons (fun σ w h => by
      obtain ⟨p_, e0, h⟩ := dP_elim h
      obtain ⟨i_, e1, h⟩ := dI_elim h
      obtain ⟨t87_, e2, h⟩ := dB_elim h
      exact (ip_IP_checkSlot.B3_sound  p_ i_ t87_ w h).weaken (Sub.cons (Sub.cons (Sub.cons (Sub.nil _) e2) e1) e0)) stops_nil) (Eq.mp (ip_IP_checkSlot.B2_eq p i t61 w   R (fun p_ i_ t87_ w => ip_IP_checkSlot.B3 p_ i_ t87_ w  R)) h)
def ip_IP_checkSlot.B1 (p : Option Addr) (i : Int) (t42 : Bool) (w : World)   (R : Bool → World → Prop) : Prop :=
  Bm t42 (
    R false w) (
    Pn p fun a =>
    (0 ≤ i ∧ i < ((3 : Nat) : Int)) ∧
    LdI .u64 ((Addr.add (a.add 3) (i.toNat * 45)).add 4) w fun x49 =>
    Bm (x49 == (0 : Int)) (
      ip_IP_checkSlot.B2 p i true w  R) (
      Pn p fun a_1 =>
      (0 ≤ i ∧ i < ((3 : Nat) : Int)) ∧
      LdI .u64 ((Addr.add (a_1.add 3) (i.toNat * 45)).add 4) w fun x58 =>
      0 ≤ (40 : Int) ∧
      ip_IP_checkSlot.B2 p i ((x58.fdiv (2 ^ (min (40 : Int).toNat IntKind.u64.bits))) != (0 : Int)) w  R))
theorem ip_IP_checkSlot.B1_eq (p : Option Addr) (i : Int) (t42 : Bool) (w : World)   (R : Bool → World → Prop) (sB2 : Option Addr → Int → Bool → World → Prop) :
    (
  Bm t42 (
    R false w) (
    Pn p fun a =>
    (0 ≤ i ∧ i < ((3 : Nat) : Int)) ∧
    LdI .u64 ((Addr.add (a.add 3) (i.toNat * 45)).add 4) w fun x49 =>
    Bm (x49 == (0 : Int)) (
      sB2 p i true w) (
      Pn p fun a_1 =>
      (0 ≤ i ∧ i < ((3 : Nat) : Int)) ∧
      LdI .u64 ((Addr.add (a_1.add 3) (i.toNat * 45)).add 4) w fun x58 =>
      0 ≤ (40 : Int) ∧
      sB2 p i ((x58.fdiv (2 ^ (min (40 : Int).toNat IntKind.u64.bits))) != (0 : Int)) w))) = kstep Try.prog 123 Try.f38.results.toList (Try.f38.body.getD .skip) (ip_IP_checkSlot.RV R) (kvc Try.prog 123 Try.f38.results.toList (Try.f38.body.getD .skip) (ip_IP_checkSlot.RV R) [([(0, [1, 1, 0, 1]), (0, [1, 1, 1])], fun σ w => dP (slotOf σ 0) fun p_ => dI .i64 (slotOf σ 1) fun i_ => dB (slotOf σ 61) fun t61_ => sB2 p_ i_ t61_ w)] 2000) [(0, [1, 0, 1]), (0, [1, 1])] [(0, .pointer p), (1, .int .i64 i), (42, .bool t42)] w := by kernel_rfl
theorem ip_IP_checkSlot.B1_sound {R : Bool → World → Prop}  (p : Option Addr) (i : Int) (t42 : Bool) (w : World) (h : ip_IP_checkSlot.B1 p i t42 w   R) :
    KW Try.prog 38 123 (ip_IP_checkSlot.RV R) ([(0, [1, 0, 1]), (0, [1, 1])].map (toItem (Try.f38.body.getD .skip))) [(0, .pointer p), (1, .int .i64 i), (42, .bool t42)] w := by
  exact block_spec Try.func38 Try.mixed (stops_cons (fun σ w h => by
      obtain ⟨p_, e0, h⟩ := dP_elim h
      obtain ⟨i_, e1, h⟩ := dI_elim h
      obtain ⟨t61_, e2, h⟩ := dB_elim h
      exact (ip_IP_checkSlot.B2_sound  p_ i_ t61_ w h).weaken (Sub.cons (Sub.cons (Sub.cons (Sub.nil _) e2) e1) e0)) stops_nil) (Eq.mp (ip_IP_checkSlot.B1_eq p i t42 w   R (fun p_ i_ t61_ w => ip_IP_checkSlot.B2 p_ i_ t61_ w  R)) h)
def ip_IP_checkSlot.B0 (p : Option Addr) (i : Int) (w : World)   (R : Bool → World → Prop) : Prop :=
  Pn p fun a =>
  (0 ≤ i ∧ i < ((3 : Nat) : Int)) ∧
  LdI .i64 ((Addr.add (a.add 3) (i.toNat * 45)).add 1) w fun x11 =>
  Bm (decide (x11 < (0 : Int))) (
    ip_IP_checkSlot.B1 p i true w  R) (
    Pn p fun a_1 =>
    (0 ≤ i ∧ i < ((3 : Nat) : Int)) ∧
    LdI .i64 ((Addr.add (a_1.add 3) (i.toNat * 45)).add 1) w fun x20 =>
    Bm (decide (x20 ≥ (16777216 : Int))) (
      ip_IP_checkSlot.B1 p i true w  R) (
      Pn p fun a_2 =>
      (0 ≤ i ∧ i < ((3 : Nat) : Int)) ∧
      LdI .i64 ((Addr.add (a_2.add 3) (i.toNat * 45)).add 2) w fun x30 =>
      Bm (decide (x30 < (1 : Int))) (
        ip_IP_checkSlot.B1 p i true w  R) (
        Pn p fun a_3 =>
        (0 ≤ i ∧ i < ((3 : Nat) : Int)) ∧
        LdI .i64 ((Addr.add (a_3.add 3) (i.toNat * 45)).add 2) w fun x40 =>
        ip_IP_checkSlot.B1 p i (decide (x40 > (4 : Int))) w  R)))
theorem ip_IP_checkSlot.B0_eq (p : Option Addr) (i : Int) (w : World)   (R : Bool → World → Prop) (sB1 : Option Addr → Int → Bool → World → Prop) :
    (
  Pn p fun a =>
  (0 ≤ i ∧ i < ((3 : Nat) : Int)) ∧
  LdI .i64 ((Addr.add (a.add 3) (i.toNat * 45)).add 1) w fun x11 =>
  Bm (decide (x11 < (0 : Int))) (
    sB1 p i true w) (
    Pn p fun a_1 =>
    (0 ≤ i ∧ i < ((3 : Nat) : Int)) ∧
    LdI .i64 ((Addr.add (a_1.add 3) (i.toNat * 45)).add 1) w fun x20 =>
    Bm (decide (x20 ≥ (16777216 : Int))) (
      sB1 p i true w) (
      Pn p fun a_2 =>
      (0 ≤ i ∧ i < ((3 : Nat) : Int)) ∧
      LdI .i64 ((Addr.add (a_2.add 3) (i.toNat * 45)).add 2) w fun x30 =>
      Bm (decide (x30 < (1 : Int))) (
        sB1 p i true w) (
        Pn p fun a_3 =>
        (0 ≤ i ∧ i < ((3 : Nat) : Int)) ∧
        LdI .i64 ((Addr.add (a_3.add 3) (i.toNat * 45)).add 2) w fun x40 =>
        sB1 p i (decide (x40 > (4 : Int))) w)))) = kstep Try.prog 123 Try.f38.results.toList (Try.f38.body.getD .skip) (ip_IP_checkSlot.RV R) (kvc Try.prog 123 Try.f38.results.toList (Try.f38.body.getD .skip) (ip_IP_checkSlot.RV R) [([(0, [1, 0, 1]), (0, [1, 1])], fun σ w => dP (slotOf σ 0) fun p_ => dI .i64 (slotOf σ 1) fun i_ => dB (slotOf σ 42) fun t42_ => sB1 p_ i_ t42_ w)] 2000) [(0, [])] [(0, .pointer p), (1, .int .i64 i)] w := by kernel_rfl
theorem ip_IP_checkSlot.B0_sound {R : Bool → World → Prop}  (p : Option Addr) (i : Int) (w : World) (h : ip_IP_checkSlot.B0 p i w   R) :
    KW Try.prog 38 123 (ip_IP_checkSlot.RV R) ([(0, [])].map (toItem (Try.f38.body.getD .skip))) [(0, .pointer p), (1, .int .i64 i)] w := by
  exact block_spec Try.func38 Try.mixed (stops_cons (fun σ w h => by
      obtain ⟨p_, e0, h⟩ := dP_elim h
      obtain ⟨i_, e1, h⟩ := dI_elim h
      obtain ⟨t42_, e2, h⟩ := dB_elim h
      exact (ip_IP_checkSlot.B1_sound  p_ i_ t42_ w h).weaken (Sub.cons (Sub.cons (Sub.cons (Sub.nil _) e2) e1) e0)) stops_nil) (Eq.mp (ip_IP_checkSlot.B0_eq p i w   R (fun p_ i_ t42_ w => ip_IP_checkSlot.B1 p_ i_ t42_ w  R)) h)
theorem ip_IP_checkSlot.sound (p : Option Addr) (i : Int) (w : World) (R : Bool → World → Prop) (h : ip_IP_checkSlot.B0 p i w R) : ip_IP_checkSlot.Call p i w R := by
  have hc := calls_of_block (args := #[.pointer p, .int .i64 i]) Try.func38 (body := (Try.f38.body.getD .skip)) (by kernel_rfl) (by kernel_rfl) (args_slot _) (ip_IP_checkSlot.B0_sound p i w h)
  exact hc.mono fun e w' he => by
    obtain ⟨v, rfl, hv⟩ := he
    exact ip_IP_checkSlot.RV_elim hv
def ip_IP_Output.B4 (p out_b : Option Addr) (out_l out_c : Nat) (w : World)   (R : Option Addr → Nat → Nat → Int → World → Prop) : Prop :=
  Pn p fun a =>
  LdI .i64 (a.add 2) w fun x113 =>
  Pn p fun a_1 =>
  Sts [.int .i64 (IntKind.i64.wrap (x113 - (1 : Int)))] (a_1.add 2) 0 w fun w1 =>
  R out_b out_l out_c (0 : Int) w1
theorem ip_IP_Output.B4_eq (p out_b : Option Addr) (out_l out_c : Nat) (w : World)   (R : Option Addr → Nat → Nat → Int → World → Prop)  :
    (
  Pn p fun a =>
  LdI .i64 (a.add 2) w fun x113 =>
  Pn p fun a_1 =>
  Sts [.int .i64 (IntKind.i64.wrap (x113 - (1 : Int)))] (a_1.add 2) 0 w fun w1 =>
  R out_b out_l out_c (0 : Int) w1) = kstep Try.prog 118 Try.f39.results.toList (Try.f39.body.getD .skip) (ip_IP_Output.RV R) (kvc Try.prog 118 Try.f39.results.toList (Try.f39.body.getD .skip) (ip_IP_Output.RV R) [] 2000) [(0, [1, 1, 1, 1, 1, 1, 1, 1, 1, 1, 1, 1, 1])] [(0, .pointer p), (11, .slice out_b out_l out_c)] w := by kernel_rfl
theorem ip_IP_Output.B4_sound {R : Option Addr → Nat → Nat → Int → World → Prop}  (p out_b : Option Addr) (out_l out_c : Nat) (w : World) (h : ip_IP_Output.B4 p out_b out_l out_c w   R) :
    KW Try.prog 39 118 (ip_IP_Output.RV R) ([(0, [1, 1, 1, 1, 1, 1, 1, 1, 1, 1, 1, 1, 1])].map (toItem (Try.f39.body.getD .skip))) [(0, .pointer p), (11, .slice out_b out_l out_c)] w := by
  exact block_spec Try.func39 Try.mixed stops_nil (Eq.mp (ip_IP_Output.B4_eq p out_b out_l out_c w   R ) h)
def ip_IP_Output.L1b (p : Option Addr) (dst proto : Int) (data_b : Option Addr) (data_l data_c : Nat) (count : Int) (out_b : Option Addr) (out_l out_c : Nat) (i : Int) (w : World)  (N1 : Option Addr → Int → Int → Option Addr → Nat → Nat → Int → Option Addr → Nat → Nat → Int → World → Prop) (R : Option Addr → Nat → Nat → Int → World → Prop) : Prop :=
  Bm (decide (i < (IntKind.i64.wrap (count - (1 : Int))))) (
    Pn p fun a =>
    LdI .i64 a w.drew fun x58 =>
    Pn p fun a_1 =>
    LdI .i64 (a_1.add 1) w.drew fun x63 =>
    (0 ≤ (IntKind.i64.wrap ((IntKind.i64.wrap (i * (16 : Int))) + (16 : Int))) ∧ (IntKind.i64.wrap ((IntKind.i64.wrap (i * (16 : Int))) + (16 : Int))) ≤ ((data_c : Nat) : Int)) ∧
    (0 ≤ (IntKind.i64.wrap (i * (16 : Int))) ∧ (IntKind.i64.wrap (i * (16 : Int))) ≤ (IntKind.i64.wrap ((IntKind.i64.wrap (i * (16 : Int))) + (16 : Int)))) ∧
    ip_packet.Call proto x58 dst x63 (IntKind.i64.wrap (BitVec.ofInt IntKind.i64.bits (IntKind.i64.wrap (i * (16 : Int))) ||| BitVec.ofInt IntKind.i64.bits (128 : Int)).toNat) (slBase data_b (IntKind.i64.wrap (i * (16 : Int))) ((data_c : Nat) : Int) 1) ((IntKind.i64.wrap ((IntKind.i64.wrap (i * (16 : Int))) + (16 : Int))).toNat - (IntKind.i64.wrap (i * (16 : Int))).toNat) (((data_c : Nat) : Int).toNat - (IntKind.i64.wrap (i * (16 : Int))).toNat) w.drew fun r71_b r71_l r71_c w1 =>
    Pn out_b fun a_2 =>
    (0 ≤ i ∧ i < ((out_l : Nat) : Int)) ∧
    Sts [.slice r71_b r71_l r71_c] (Addr.add a_2 (i.toNat * 1)) 0 w1 fun w2 =>
    N1 p dst proto data_b data_l data_c count out_b out_l out_c (IntKind.i64.wrap (i + (1 : Int))) w2) (
    Pn p fun a_3 =>
    LdI .i64 a_3 w.drew fun x83 =>
    Pn p fun a_4 =>
    LdI .i64 (a_4.add 1) w.drew fun x88 =>
    (0 ≤ (IntKind.i64.wrap ((IntKind.i64.wrap (count - (1 : Int))) * (16 : Int))) ∧ (IntKind.i64.wrap ((IntKind.i64.wrap (count - (1 : Int))) * (16 : Int))) ≤ ((data_l : Nat) : Int)) ∧
    ip_packet.Call proto x83 dst x88 (IntKind.i64.wrap ((IntKind.i64.wrap (count - (1 : Int))) * (16 : Int))) (slBase data_b (IntKind.i64.wrap ((IntKind.i64.wrap (count - (1 : Int))) * (16 : Int))) ((data_c : Nat) : Int) 1) (((data_l : Nat) : Int).toNat - (IntKind.i64.wrap ((IntKind.i64.wrap (count - (1 : Int))) * (16 : Int))).toNat) (((data_c : Nat) : Int).toNat - (IntKind.i64.wrap ((IntKind.i64.wrap (count - (1 : Int))) * (16 : Int))).toNat) w.drew fun r93_b r93_l r93_c w3 =>
    Pn out_b fun a_5 =>
    (0 ≤ (IntKind.i64.wrap (count - (1 : Int))) ∧ (IntKind.i64.wrap (count - (1 : Int))) < ((out_l : Nat) : Int)) ∧
    Sts [.slice r93_b r93_l r93_c] (Addr.add a_5 ((IntKind.i64.wrap (count - (1 : Int))).toNat * 1)) 0 w3 fun w4 =>
    Pn p fun a_6 =>
    LdI .i64 (a_6.add 1) w4 fun x98 =>
    Pn p fun a_7 =>
    Sts [.int .i64 (IntKind.i64.wrap (x98 + (1 : Int)))] (a_7.add 1) 0 w4 fun w5 =>
    Pn p fun a_8 =>
    LdI .i64 (a_8.add 1) w5 fun x105 =>
    Bm (x105 == (256 : Int)) (
      Pn p fun a_9 =>
      Sts [.int .i64 (0 : Int)] (a_9.add 1) 0 w5 fun w6 =>
      ip_IP_Output.B4 p out_b out_l out_c w6  R) (
      ip_IP_Output.B4 p out_b out_l out_c w5  R))
theorem ip_IP_Output.L1b_eq (p : Option Addr) (dst proto : Int) (data_b : Option Addr) (data_l data_c : Nat) (count : Int) (out_b : Option Addr) (out_l out_c : Nat) (i : Int) (w : World)  (N1 : Option Addr → Int → Int → Option Addr → Nat → Nat → Int → Option Addr → Nat → Nat → Int → World → Prop) (R : Option Addr → Nat → Nat → Int → World → Prop) (sB4 : Option Addr → Option Addr → Nat → Nat → World → Prop) :
    (
  Bm (decide (i < (IntKind.i64.wrap (count - (1 : Int))))) (
    Pn p fun a =>
    LdI .i64 a w.drew fun x58 =>
    Pn p fun a_1 =>
    LdI .i64 (a_1.add 1) w.drew fun x63 =>
    (0 ≤ (IntKind.i64.wrap ((IntKind.i64.wrap (i * (16 : Int))) + (16 : Int))) ∧ (IntKind.i64.wrap ((IntKind.i64.wrap (i * (16 : Int))) + (16 : Int))) ≤ ((data_c : Nat) : Int)) ∧
    (0 ≤ (IntKind.i64.wrap (i * (16 : Int))) ∧ (IntKind.i64.wrap (i * (16 : Int))) ≤ (IntKind.i64.wrap ((IntKind.i64.wrap (i * (16 : Int))) + (16 : Int)))) ∧
    ip_packet.Call proto x58 dst x63 (IntKind.i64.wrap (BitVec.ofInt IntKind.i64.bits (IntKind.i64.wrap (i * (16 : Int))) ||| BitVec.ofInt IntKind.i64.bits (128 : Int)).toNat) (slBase data_b (IntKind.i64.wrap (i * (16 : Int))) ((data_c : Nat) : Int) 1) ((IntKind.i64.wrap ((IntKind.i64.wrap (i * (16 : Int))) + (16 : Int))).toNat - (IntKind.i64.wrap (i * (16 : Int))).toNat) (((data_c : Nat) : Int).toNat - (IntKind.i64.wrap (i * (16 : Int))).toNat) w.drew fun r71_b r71_l r71_c w1 =>
    Pn out_b fun a_2 =>
    (0 ≤ i ∧ i < ((out_l : Nat) : Int)) ∧
    Sts [.slice r71_b r71_l r71_c] (Addr.add a_2 (i.toNat * 1)) 0 w1 fun w2 =>
    N1 p dst proto data_b data_l data_c count out_b out_l out_c (IntKind.i64.wrap (i + (1 : Int))) w2) (
    Pn p fun a_3 =>
    LdI .i64 a_3 w.drew fun x83 =>
    Pn p fun a_4 =>
    LdI .i64 (a_4.add 1) w.drew fun x88 =>
    (0 ≤ (IntKind.i64.wrap ((IntKind.i64.wrap (count - (1 : Int))) * (16 : Int))) ∧ (IntKind.i64.wrap ((IntKind.i64.wrap (count - (1 : Int))) * (16 : Int))) ≤ ((data_l : Nat) : Int)) ∧
    ip_packet.Call proto x83 dst x88 (IntKind.i64.wrap ((IntKind.i64.wrap (count - (1 : Int))) * (16 : Int))) (slBase data_b (IntKind.i64.wrap ((IntKind.i64.wrap (count - (1 : Int))) * (16 : Int))) ((data_c : Nat) : Int) 1) (((data_l : Nat) : Int).toNat - (IntKind.i64.wrap ((IntKind.i64.wrap (count - (1 : Int))) * (16 : Int))).toNat) (((data_c : Nat) : Int).toNat - (IntKind.i64.wrap ((IntKind.i64.wrap (count - (1 : Int))) * (16 : Int))).toNat) w.drew fun r93_b r93_l r93_c w3 =>
    Pn out_b fun a_5 =>
    (0 ≤ (IntKind.i64.wrap (count - (1 : Int))) ∧ (IntKind.i64.wrap (count - (1 : Int))) < ((out_l : Nat) : Int)) ∧
    Sts [.slice r93_b r93_l r93_c] (Addr.add a_5 ((IntKind.i64.wrap (count - (1 : Int))).toNat * 1)) 0 w3 fun w4 =>
    Pn p fun a_6 =>
    LdI .i64 (a_6.add 1) w4 fun x98 =>
    Pn p fun a_7 =>
    Sts [.int .i64 (IntKind.i64.wrap (x98 + (1 : Int)))] (a_7.add 1) 0 w4 fun w5 =>
    Pn p fun a_8 =>
    LdI .i64 (a_8.add 1) w5 fun x105 =>
    Bm (x105 == (256 : Int)) (
      Pn p fun a_9 =>
      Sts [.int .i64 (0 : Int)] (a_9.add 1) 0 w5 fun w6 =>
      sB4 p out_b out_l out_c w6) (
      sB4 p out_b out_l out_c w5))) = kstep Try.prog 118 Try.f39.results.toList (Try.f39.body.getD .skip) (ip_IP_Output.RV R) (kvc Try.prog 118 Try.f39.results.toList (Try.f39.body.getD .skip) (ip_IP_Output.RV R) [([(0, [1, 1, 1, 1, 1, 1, 1, 1, 0, 1, 0, 0]), (2, [1, 1, 1, 1, 1, 1, 1, 1, 0, 1, 0, 0]), (1, [0]), (0, [1, 1, 1, 1, 1, 1, 1, 1, 1])], fun σ w => dP (slotOf σ 0) fun p_ => dI .i64 (slotOf σ 1) fun dst_ => dI .i64 (slotOf σ 2) fun proto_ => dL (slotOf σ 3) fun data_b_ data_l_ data_c_ => dI .i64 (slotOf σ 10) fun count_ => dL (slotOf σ 11) fun out_b_ out_l_ out_c_ => dI .i64 (slotOf σ 12) fun i_ => N1 p_ dst_ proto_ data_b_ data_l_ data_c_ count_ out_b_ out_l_ out_c_ i_ w),
    ([(0, [1, 1, 1, 1, 1, 1, 1, 1, 1, 1, 1, 1, 1])], fun σ w => dP (slotOf σ 0) fun p_ => dL (slotOf σ 11) fun out_b_ out_l_ out_c_ => sB4 p_ out_b_ out_l_ out_c_ w)] 2000) [(0, [1, 1, 1, 1, 1, 1, 1, 1, 0, 1, 0, 0]), (2, [1, 1, 1, 1, 1, 1, 1, 1, 0, 1, 0, 0]), (1, [0]), (0, [1, 1, 1, 1, 1, 1, 1, 1, 1])] [(0, .pointer p), (1, .int .i64 dst), (2, .int .i64 proto), (3, .slice data_b data_l data_c), (10, .int .i64 count), (11, .slice out_b out_l out_c), (12, .int .i64 i)] w := by kernel_rfl
theorem ip_IP_Output.L1b_sound {R : Option Addr → Nat → Nat → Int → World → Prop} {N1 : Option Addr → Int → Int → Option Addr → Nat → Nat → Int → Option Addr → Nat → Nat → Int → World → Prop} (hN1 : ∀ p dst proto data_b data_l data_c count out_b out_l out_c i w, N1 p dst proto data_b data_l data_c count out_b out_l out_c i w → KW Try.prog 39 118 (ip_IP_Output.RV R) ([(0, [1, 1, 1, 1, 1, 1, 1, 1, 0, 1, 0, 0]), (2, [1, 1, 1, 1, 1, 1, 1, 1, 0, 1, 0, 0]), (1, [0]), (0, [1, 1, 1, 1, 1, 1, 1, 1, 1])].map (toItem (Try.f39.body.getD .skip))) [(0, .pointer p), (1, .int .i64 dst), (2, .int .i64 proto), (3, .slice data_b data_l data_c), (10, .int .i64 count), (11, .slice out_b out_l out_c), (12, .int .i64 i)] w) (p : Option Addr) (dst proto : Int) (data_b : Option Addr) (data_l data_c : Nat) (count : Int) (out_b : Option Addr) (out_l out_c : Nat) (i : Int) (w : World) (h : ip_IP_Output.L1b p dst proto data_b data_l data_c count out_b out_l out_c i w  N1 R) :
    KW Try.prog 39 118 (ip_IP_Output.RV R) ([(0, [1, 1, 1, 1, 1, 1, 1, 1, 0, 1, 0, 0]), (2, [1, 1, 1, 1, 1, 1, 1, 1, 0, 1, 0, 0]), (1, [0]), (0, [1, 1, 1, 1, 1, 1, 1, 1, 1])].map (toItem (Try.f39.body.getD .skip))) [(0, .pointer p), (1, .int .i64 dst), (2, .int .i64 proto), (3, .slice data_b data_l data_c), (10, .int .i64 count), (11, .slice out_b out_l out_c), (12, .int .i64 i)] w := by
  exact block_spec Try.func39 Try.mixed (stops_cons (fun σ w h => by
      obtain ⟨p_, e0, h⟩ := dP_elim h
      obtain ⟨dst_, e1, h⟩ := dI_elim h
      obtain ⟨proto_, e2, h⟩ := dI_elim h
      obtain ⟨data_b_, data_l_, data_c_, e3, h⟩ := dL_elim h
      obtain ⟨count_, e4, h⟩ := dI_elim h
      obtain ⟨out_b_, out_l_, out_c_, e5, h⟩ := dL_elim h
      obtain ⟨i_, e6, h⟩ := dI_elim h
      exact (hN1 p_ dst_ proto_ data_b_ data_l_ data_c_ count_ out_b_ out_l_ out_c_ i_ w h).weaken (Sub.cons (Sub.cons (Sub.cons (Sub.cons (Sub.cons (Sub.cons (Sub.cons (Sub.nil _) e6) e5) e4) e3) e2) e1) e0)) (stops_cons (fun σ w h => by
      obtain ⟨p_, e0, h⟩ := dP_elim h
      obtain ⟨out_b_, out_l_, out_c_, e1, h⟩ := dL_elim h
      exact (ip_IP_Output.B4_sound  p_ out_b_ out_l_ out_c_ w h).weaken (Sub.cons (Sub.cons (Sub.nil _) e1) e0)) stops_nil)) (Eq.mp (ip_IP_Output.L1b_eq p dst proto data_b data_l data_c count out_b out_l out_c i w  N1 R (fun p_ out_b_ out_l_ out_c_ w => ip_IP_Output.B4 p_ out_b_ out_l_ out_c_ w  R)) h)
def ip_IP_Output.L1 (p : Option Addr) (dst proto : Int) (data_b : Option Addr) (data_l data_c : Nat) (count : Int) (out_b : Option Addr) (out_l out_c : Nat) (i : Int) (w : World)  (R : Option Addr → Nat → Nat → Int → World → Prop) : Prop :=
  ∃ (I : Nat → Option Addr → Int → Int → Option Addr → Nat → Nat → Int → Option Addr → Nat → Nat → Int → World → Prop) (m : Nat), I m p dst proto data_b data_l data_c count out_b out_l out_c i w ∧ ∀ m p dst proto data_b data_l data_c count out_b out_l out_c i w, I m p dst proto data_b data_l data_c count out_b out_l out_c i w → ip_IP_Output.L1b p dst proto data_b data_l data_c count out_b out_l out_c i w  (fun p' dst' proto' data_b' data_l' data_c' count' out_b' out_l' out_c' i' w' => ∃ m', m' < m ∧ I m' p' dst' proto' data_b' data_l' data_c' count' out_b' out_l' out_c' i' w') R
theorem ip_IP_Output.L1_sound {R : Option Addr → Nat → Nat → Int → World → Prop}  (p : Option Addr) (dst proto : Int) (data_b : Option Addr) (data_l data_c : Nat) (count : Int) (out_b : Option Addr) (out_l out_c : Nat) (i : Int) (w : World) (h : ip_IP_Output.L1 p dst proto data_b data_l data_c count out_b out_l out_c i w  R) :
    KW Try.prog 39 118 (ip_IP_Output.RV R) ([(0, [1, 1, 1, 1, 1, 1, 1, 1, 0, 1, 0, 0]), (2, [1, 1, 1, 1, 1, 1, 1, 1, 0, 1, 0, 0]), (1, [0]), (0, [1, 1, 1, 1, 1, 1, 1, 1, 1])].map (toItem (Try.f39.body.getD .skip))) [(0, .pointer p), (1, .int .i64 dst), (2, .int .i64 proto), (3, .slice data_b data_l data_c), (10, .int .i64 count), (11, .slice out_b out_l out_c), (12, .int .i64 i)] w := by
  obtain ⟨I, m, h0, hr⟩ := h
  refine KW.loop (fun m σ w => ∃ (p : Option Addr) (dst proto : Int) (data_b : Option Addr) (data_l data_c : Nat) (count : Int) (out_b : Option Addr) (out_l out_c : Nat) (i : Int), σ = [(0, .pointer p), (1, .int .i64 dst), (2, .int .i64 proto), (3, .slice data_b data_l data_c), (10, .int .i64 count), (11, .slice out_b out_l out_c), (12, .int .i64 i)] ∧ I m p dst proto data_b data_l data_c count out_b out_l out_c i w) ?_ m _ w ⟨p, dst, proto, data_b, data_l, data_c, count, out_b, out_l, out_c, i, rfl, h0⟩
  rintro m ih σ w ⟨p, dst, proto, data_b, data_l, data_c, count, out_b, out_l, out_c, i, rfl, hI⟩
  exact ip_IP_Output.L1b_sound  (N1 := fun p' dst' proto' data_b' data_l' data_c' count' out_b' out_l' out_c' i' w' => ∃ m', m' < m ∧ I m' p' dst' proto' data_b' data_l' data_c' count' out_b' out_l' out_c' i' w') (fun p' dst' proto' data_b' data_l' data_c' count' out_b' out_l' out_c' i' w' hx => by obtain ⟨m', hlt, hI'⟩ := hx; exact ih m' hlt _ w' ⟨p', dst', proto', data_b', data_l', data_c', count', out_b', out_l', out_c', i', rfl, hI'⟩) p dst proto data_b data_l data_c count out_b out_l out_c i w (hr m p dst proto data_b data_l data_c count out_b out_l out_c i w hI)
def ip_IP_Output.B3 (p : Option Addr) (dst proto : Int) (data_b : Option Addr) (data_l data_c : Nat) (count : Int) (w : World)   (R : Option Addr → Nat → Nat → Int → World → Prop) : Prop :=
  Make 68 (.slice none 0 0) 1 24 count count w fun b43 w1 =>
  ip_IP_Output.L1 p dst proto data_b data_l data_c count (some ⟨b43, 0, none⟩) count.toNat count.toNat (0 : Int) w1  R
theorem ip_IP_Output.B3_eq (p : Option Addr) (dst proto : Int) (data_b : Option Addr) (data_l data_c : Nat) (count : Int) (w : World)   (R : Option Addr → Nat → Nat → Int → World → Prop) (sL1 : Option Addr → Int → Int → Option Addr → Nat → Nat → Int → Option Addr → Nat → Nat → Int → World → Prop) :
    (
  Make 68 (.slice none 0 0) 1 24 count count w fun b43 w1 =>
  sL1 p dst proto data_b data_l data_c count (some ⟨b43, 0, none⟩) count.toNat count.toNat (0 : Int) w1) = kstep Try.prog 118 Try.f39.results.toList (Try.f39.body.getD .skip) (ip_IP_Output.RV R) (kvc Try.prog 118 Try.f39.results.toList (Try.f39.body.getD .skip) (ip_IP_Output.RV R) [([(0, [1, 1, 1, 1, 1, 1, 1, 1, 0, 1, 0, 0]), (2, [1, 1, 1, 1, 1, 1, 1, 1, 0, 1, 0, 0]), (1, [0]), (0, [1, 1, 1, 1, 1, 1, 1, 1, 1])], fun σ w => dP (slotOf σ 0) fun p_ => dI .i64 (slotOf σ 1) fun dst_ => dI .i64 (slotOf σ 2) fun proto_ => dL (slotOf σ 3) fun data_b_ data_l_ data_c_ => dI .i64 (slotOf σ 10) fun count_ => dL (slotOf σ 11) fun out_b_ out_l_ out_c_ => dI .i64 (slotOf σ 12) fun i_ => sL1 p_ dst_ proto_ data_b_ data_l_ data_c_ count_ out_b_ out_l_ out_c_ i_ w)] 2000) [(0, [1, 1, 1, 1, 1, 1, 1])] [(0, .pointer p), (1, .int .i64 dst), (2, .int .i64 proto), (3, .slice data_b data_l data_c), (10, .int .i64 count)] w := by kernel_rfl
theorem ip_IP_Output.B3_sound {R : Option Addr → Nat → Nat → Int → World → Prop}  (p : Option Addr) (dst proto : Int) (data_b : Option Addr) (data_l data_c : Nat) (count : Int) (w : World) (h : ip_IP_Output.B3 p dst proto data_b data_l data_c count w   R) :
    KW Try.prog 39 118 (ip_IP_Output.RV R) ([(0, [1, 1, 1, 1, 1, 1, 1])].map (toItem (Try.f39.body.getD .skip))) [(0, .pointer p), (1, .int .i64 dst), (2, .int .i64 proto), (3, .slice data_b data_l data_c), (10, .int .i64 count)] w := by
  exact block_spec Try.func39 Try.mixed (stops_cons (fun σ w h => by
      obtain ⟨p_, e0, h⟩ := dP_elim h
      obtain ⟨dst_, e1, h⟩ := dI_elim h
      obtain ⟨proto_, e2, h⟩ := dI_elim h
      obtain ⟨data_b_, data_l_, data_c_, e3, h⟩ := dL_elim h
      obtain ⟨count_, e4, h⟩ := dI_elim h
      obtain ⟨out_b_, out_l_, out_c_, e5, h⟩ := dL_elim h
      obtain ⟨i_, e6, h⟩ := dI_elim h
      exact (ip_IP_Output.L1_sound  p_ dst_ proto_ data_b_ data_l_ data_c_ count_ out_b_ out_l_ out_c_ i_ w h).weaken (Sub.cons (Sub.cons (Sub.cons (Sub.cons (Sub.cons (Sub.cons (Sub.cons (Sub.nil _) e6) e5) e4) e3) e2) e1) e0)) stops_nil) (Eq.mp (ip_IP_Output.B3_eq p dst proto data_b data_l data_c count w   R (fun p_ dst_ proto_ data_b_ data_l_ data_c_ count_ out_b_ out_l_ out_c_ i_ w => ip_IP_Output.L1 p_ dst_ proto_ data_b_ data_l_ data_c_ count_ out_b_ out_l_ out_c_ i_ w  R)) h)
def ip_IP_Output.B2 (p : Option Addr) (dst proto : Int) (data_b : Option Addr) (data_l data_c : Nat) (t26 : Bool) (w : World)   (R : Option Addr → Nat → Nat → Int → World → Prop) : Prop :=
  Bm t26 (
    R none 0 0 (6 : Int) w) (
    Bm (decide (((data_l : Nat) : Int) > (40 : Int))) (
      R none 0 0 (2 : Int) w) (
      Pn p fun a =>
      LdI .i64 (a.add 2) w fun x33 =>
      Bm (decide (x33 ≤ (0 : Int))) (
        R none 0 0 (12 : Int) w) (
        (16 : Int) ≠ 0 ∧
        Bm ((IntKind.i64.wrap ((IntKind.i64.wrap ((IntKind.i64.wrap (((data_l : Nat) : Int) + (16 : Int))) - (1 : Int))).tdiv (16 : Int))) == (0 : Int)) (
          ip_IP_Output.B3 p dst proto data_b data_l data_c (1 : Int) w  R) (
          ip_IP_Output.B3 p dst proto data_b data_l data_c (IntKind.i64.wrap ((IntKind.i64.wrap ((IntKind.i64.wrap (((data_l : Nat) : Int) + (16 : Int))) - (1 : Int))).tdiv (16 : Int))) w  R))))
theorem ip_IP_Output.B2_eq (p : Option Addr) (dst proto : Int) (data_b : Option Addr) (data_l data_c : Nat) (t26 : Bool) (w : World)   (R : Option Addr → Nat → Nat → Int → World → Prop) (sB3 : Option Addr → Int → Int → Option Addr → Nat → Nat → Int → World → Prop) :
    (
  Bm t26 (
    R none 0 0 (6 : Int) w) (
    Bm (decide (((data_l : Nat) : Int) > (40 : Int))) (
      R none 0 0 (2 : Int) w) (
      Pn p fun a =>
      LdI .i64 (a.add 2) w fun x33 =>
      Bm (decide (x33 ≤ (0 : Int))) (
        R none 0 0 (12 : Int) w) (
        (16 : Int) ≠ 0 ∧
        Bm ((IntKind.i64.wrap ((IntKind.i64.wrap ((IntKind.i64.wrap (((data_l : Nat) : Int) + (16 : Int))) - (1 : Int))).tdiv (16 : Int))) == (0 : Int)) (
          sB3 p dst proto data_b data_l data_c (1 : Int) w) (
          sB3 p dst proto data_b data_l data_c (IntKind.i64.wrap ((IntKind.i64.wrap ((IntKind.i64.wrap (((data_l : Nat) : Int) + (16 : Int))) - (1 : Int))).tdiv (16 : Int))) w))))) = kstep Try.prog 118 Try.f39.results.toList (Try.f39.body.getD .skip) (ip_IP_Output.RV R) (kvc Try.prog 118 Try.f39.results.toList (Try.f39.body.getD .skip) (ip_IP_Output.RV R) [([(0, [1, 1, 1, 1, 1, 1, 1])], fun σ w => dP (slotOf σ 0) fun p_ => dI .i64 (slotOf σ 1) fun dst_ => dI .i64 (slotOf σ 2) fun proto_ => dL (slotOf σ 3) fun data_b_ data_l_ data_c_ => dI .i64 (slotOf σ 10) fun count_ => sB3 p_ dst_ proto_ data_b_ data_l_ data_c_ count_ w)] 2000) [(0, [1, 1, 0, 1]), (0, [1, 1, 1])] [(0, .pointer p), (1, .int .i64 dst), (2, .int .i64 proto), (3, .slice data_b data_l data_c), (26, .bool t26)] w := by kernel_rfl
theorem ip_IP_Output.B2_sound {R : Option Addr → Nat → Nat → Int → World → Prop}  (p : Option Addr) (dst proto : Int) (data_b : Option Addr) (data_l data_c : Nat) (t26 : Bool) (w : World) (h : ip_IP_Output.B2 p dst proto data_b data_l data_c t26 w   R) :
    KW Try.prog 39 118 (ip_IP_Output.RV R) ([(0, [1, 1, 0, 1]), (0, [1, 1, 1])].map (toItem (Try.f39.body.getD .skip))) [(0, .pointer p), (1, .int .i64 dst), (2, .int .i64 proto), (3, .slice data_b data_l data_c), (26, .bool t26)] w := by
  exact block_spec Try.func39 Try.mixed (stops_cons (fun σ w h => by
      obtain ⟨p_, e0, h⟩ := dP_elim h
      obtain ⟨dst_, e1, h⟩ := dI_elim h
      obtain ⟨proto_, e2, h⟩ := dI_elim h
      obtain ⟨data_b_, data_l_, data_c_, e3, h⟩ := dL_elim h
      obtain ⟨count_, e4, h⟩ := dI_elim h
      exact (ip_IP_Output.B3_sound  p_ dst_ proto_ data_b_ data_l_ data_c_ count_ w h).weaken (Sub.cons (Sub.cons (Sub.cons (Sub.cons (Sub.cons (Sub.nil _) e4) e3) e2) e1) e0)) stops_nil) (Eq.mp (ip_IP_Output.B2_eq p dst proto data_b data_l data_c t26 w   R (fun p_ dst_ proto_ data_b_ data_l_ data_c_ count_ w => ip_IP_Output.B3 p_ dst_ proto_ data_b_ data_l_ data_c_ count_ w  R)) h)
def ip_IP_Output.B1 (p : Option Addr) (dst proto : Int) (data_b : Option Addr) (data_l data_c : Nat) (t20 : Bool) (w : World)   (R : Option Addr → Nat → Nat → Int → World → Prop) : Prop :=
  Bm t20 (
    R none 0 0 (5 : Int) w) (
    Bm (decide (proto < (0 : Int))) (
      ip_IP_Output.B2 p dst proto data_b data_l data_c true w  R) (
      ip_IP_Output.B2 p dst proto data_b data_l data_c (decide (proto > (255 : Int))) w  R))
theorem ip_IP_Output.B1_eq (p : Option Addr) (dst proto : Int) (data_b : Option Addr) (data_l data_c : Nat) (t20 : Bool) (w : World)   (R : Option Addr → Nat → Nat → Int → World → Prop) (sB2 : Option Addr → Int → Int → Option Addr → Nat → Nat → Bool → World → Prop) :
    (
  Bm t20 (
    R none 0 0 (5 : Int) w) (
    Bm (decide (proto < (0 : Int))) (
      sB2 p dst proto data_b data_l data_c true w) (
      sB2 p dst proto data_b data_l data_c (decide (proto > (255 : Int))) w))) = kstep Try.prog 118 Try.f39.results.toList (Try.f39.body.getD .skip) (ip_IP_Output.RV R) (kvc Try.prog 118 Try.f39.results.toList (Try.f39.body.getD .skip) (ip_IP_Output.RV R) [([(0, [1, 1, 0, 1]), (0, [1, 1, 1])], fun σ w => dP (slotOf σ 0) fun p_ => dI .i64 (slotOf σ 1) fun dst_ => dI .i64 (slotOf σ 2) fun proto_ => dL (slotOf σ 3) fun data_b_ data_l_ data_c_ => dB (slotOf σ 26) fun t26_ => sB2 p_ dst_ proto_ data_b_ data_l_ data_c_ t26_ w)] 2000) [(0, [1, 0, 1]), (0, [1, 1])] [(0, .pointer p), (1, .int .i64 dst), (2, .int .i64 proto), (3, .slice data_b data_l data_c), (20, .bool t20)] w := by kernel_rfl
theorem ip_IP_Output.B1_sound {R : Option Addr → Nat → Nat → Int → World → Prop}  (p : Option Addr) (dst proto : Int) (data_b : Option Addr) (data_l data_c : Nat) (t20 : Bool) (w : World) (h : ip_IP_Output.B1 p dst proto data_b data_l data_c t20 w   R) :
    KW Try.prog 39 118 (ip_IP_Output.RV R) ([(0, [1, 0, 1]), (0, [1, 1])].map (toItem (Try.f39.body.getD .skip))) [(0, .pointer p), (1, .int .i64 dst), (2, .int .i64 proto), (3, .slice data_b data_l data_c), (20, .bool t20)] w := by
  exact block_spec Try.func39 Try.mixed (stops_cons (fun σ w h => by
      obtain ⟨p_, e0, h⟩ := dP_elim h
      obtain ⟨dst_, e1, h⟩ := dI_elim h
      obtain ⟨proto_, e2, h⟩ := dI_elim h
      obtain ⟨data_b_, data_l_, data_c_, e3, h⟩ := dL_elim h
      obtain ⟨t26_, e4, h⟩ := dB_elim h
      exact (ip_IP_Output.B2_sound  p_ dst_ proto_ data_b_ data_l_ data_c_ t26_ w h).weaken (Sub.cons (Sub.cons (Sub.cons (Sub.cons (Sub.cons (Sub.nil _) e4) e3) e2) e1) e0)) stops_nil) (Eq.mp (ip_IP_Output.B1_eq p dst proto data_b data_l data_c t20 w   R (fun p_ dst_ proto_ data_b_ data_l_ data_c_ t26_ w => ip_IP_Output.B2 p_ dst_ proto_ data_b_ data_l_ data_c_ t26_ w  R)) h)
def ip_IP_Output.B0 (p : Option Addr) (dst proto : Int) (data_b : Option Addr) (data_l data_c : Nat) (w : World)   (R : Option Addr → Nat → Nat → Int → World → Prop) : Prop :=
  Bm (decide (dst < (0 : Int))) (
    ip_IP_Output.B1 p dst proto data_b data_l data_c true w  R) (
    ip_IP_Output.B1 p dst proto data_b data_l data_c (decide (dst > (255 : Int))) w  R)
theorem ip_IP_Output.B0_eq (p : Option Addr) (dst proto : Int) (data_b : Option Addr) (data_l data_c : Nat) (w : World)   (R : Option Addr → Nat → Nat → Int → World → Prop) (sB1 : Option Addr → Int → Int → Option Addr → Nat → Nat → Bool → World → Prop) :
    (
  Bm (decide (dst < (0 : Int))) (
    sB1 p dst proto data_b data_l data_c true w) (
    sB1 p dst proto data_b data_l data_c (decide (dst > (255 : Int))) w)) = kstep Try.prog 118 Try.f39.results.toList (Try.f39.body.getD .skip) (ip_IP_Output.RV R) (kvc Try.prog 118 Try.f39.results.toList (Try.f39.body.getD .skip) (ip_IP_Output.RV R) [([(0, [1, 0, 1]), (0, [1, 1])], fun σ w => dP (slotOf σ 0) fun p_ => dI .i64 (slotOf σ 1) fun dst_ => dI .i64 (slotOf σ 2) fun proto_ => dL (slotOf σ 3) fun data_b_ data_l_ data_c_ => dB (slotOf σ 20) fun t20_ => sB1 p_ dst_ proto_ data_b_ data_l_ data_c_ t20_ w)] 2000) [(0, [])] [(0, .pointer p), (1, .int .i64 dst), (2, .int .i64 proto), (3, .slice data_b data_l data_c)] w := by kernel_rfl
theorem ip_IP_Output.B0_sound {R : Option Addr → Nat → Nat → Int → World → Prop}  (p : Option Addr) (dst proto : Int) (data_b : Option Addr) (data_l data_c : Nat) (w : World) (h : ip_IP_Output.B0 p dst proto data_b data_l data_c w   R) :
    KW Try.prog 39 118 (ip_IP_Output.RV R) ([(0, [])].map (toItem (Try.f39.body.getD .skip))) [(0, .pointer p), (1, .int .i64 dst), (2, .int .i64 proto), (3, .slice data_b data_l data_c)] w := by
  exact block_spec Try.func39 Try.mixed (stops_cons (fun σ w h => by
      obtain ⟨p_, e0, h⟩ := dP_elim h
      obtain ⟨dst_, e1, h⟩ := dI_elim h
      obtain ⟨proto_, e2, h⟩ := dI_elim h
      obtain ⟨data_b_, data_l_, data_c_, e3, h⟩ := dL_elim h
      obtain ⟨t20_, e4, h⟩ := dB_elim h
      exact (ip_IP_Output.B1_sound  p_ dst_ proto_ data_b_ data_l_ data_c_ t20_ w h).weaken (Sub.cons (Sub.cons (Sub.cons (Sub.cons (Sub.cons (Sub.nil _) e4) e3) e2) e1) e0)) stops_nil) (Eq.mp (ip_IP_Output.B0_eq p dst proto data_b data_l data_c w   R (fun p_ dst_ proto_ data_b_ data_l_ data_c_ t20_ w => ip_IP_Output.B1 p_ dst_ proto_ data_b_ data_l_ data_c_ t20_ w  R)) h)
theorem ip_IP_Output.sound (p : Option Addr) (dst proto : Int) (data_b : Option Addr) (data_l data_c : Nat) (w : World) (R : Option Addr → Nat → Nat → Int → World → Prop) (h : ip_IP_Output.B0 p dst proto data_b data_l data_c w R) : ip_IP_Output.Call p dst proto data_b data_l data_c w R := by
  have hc := calls_of_block (args := #[.pointer p, .int .i64 dst, .int .i64 proto, .slice data_b data_l data_c]) Try.func39 (body := (Try.f39.body.getD .skip)) (by kernel_rfl) (by kernel_rfl) (args_slot _) (ip_IP_Output.B0_sound p dst proto data_b data_l data_c w h)
  exact hc.mono fun e w' he => by
    obtain ⟨v, rfl, hv⟩ := he
    exact ip_IP_Output.RV_elim hv
def ipm_IP_Output.B3 (p : Option Addr) (dst proto : Int) (data_b : Option Addr) (data_l data_c : Nat) (id0 : Int) (out_b : Option Addr) (out_l out_c : Nat) (off n more : Int) (w : World) (N1 : Option Addr → Int → Int → Option Addr → Nat → Nat → Int → Option Addr → Nat → Nat → Int → World → Prop)  (R : Option Addr → Nat → Nat → Int → World → Prop) : Prop :=
  Pn p fun a =>
  LdI .i64 a w fun x68 =>
  New (.cells #[.int .u8 (IntKind.u8.wrap proto), .int .u8 (8 : Int), .int .u8 (IntKind.u8.wrap x68), .int .u8 (IntKind.u8.wrap dst), .int .u8 (IntKind.u8.wrap id0), .int .u8 (IntKind.u8.wrap (IntKind.i64.wrap (BitVec.ofInt IntKind.i64.bits off ||| BitVec.ofInt IntKind.i64.bits more).toNat)), .int .u8 (IntKind.u8.wrap n), .int .u8 (0 : Int)] 5) w fun b80 w1 =>
  ipm_headSum.Call (some ⟨b80, 0, none⟩) 8 8 w1 fun r83 w2 =>
  (0 ≤ (7 : Int) ∧ (7 : Int) < ((8 : Nat) : Int)) ∧
  Sts [.int .u8 (IntKind.u8.wrap r83)] ⟨b80, 7, none⟩ 0 w2 fun w3 =>
  (0 ≤ (IntKind.i64.wrap (off + n)) ∧ (IntKind.i64.wrap (off + n)) ≤ ((data_c : Nat) : Int)) ∧
  (0 ≤ off ∧ off ≤ (IntKind.i64.wrap (off + n))) ∧
  Append 5 (.int .u8 (0 : Int)) 1 1 (some ⟨b80, 0, none⟩) 8 8 (slBase data_b off ((data_c : Nat) : Int) 1) ((IntKind.i64.wrap (off + n)).toNat - off.toNat) w3 fun b94 c94 w4 =>
  New (.cells #[.slice b94 (8 + ((IntKind.i64.wrap (off + n)).toNat - off.toNat)) c94] 68) w4 fun b95 w5 =>
  Append 68 (.slice none 0 0) 1 24 out_b out_l out_c (some ⟨b95, 0, none⟩) 1 w5 fun b96 c96 w6 =>
  Bm (more == (0 : Int)) (
    R b96 (out_l + 1) c96 (0 : Int) w6) (
    N1 p dst proto data_b data_l data_c id0 b96 (out_l + 1) c96 (IntKind.i64.wrap (off + n)) w6)
theorem ipm_IP_Output.B3_eq (p : Option Addr) (dst proto : Int) (data_b : Option Addr) (data_l data_c : Nat) (id0 : Int) (out_b : Option Addr) (out_l out_c : Nat) (off n more : Int) (w : World) (N1 : Option Addr → Int → Int → Option Addr → Nat → Nat → Int → Option Addr → Nat → Nat → Int → World → Prop)  (R : Option Addr → Nat → Nat → Int → World → Prop)  :
    (
  Pn p fun a =>
  LdI .i64 a w fun x68 =>
  New (.cells #[.int .u8 (IntKind.u8.wrap proto), .int .u8 (8 : Int), .int .u8 (IntKind.u8.wrap x68), .int .u8 (IntKind.u8.wrap dst), .int .u8 (IntKind.u8.wrap id0), .int .u8 (IntKind.u8.wrap (IntKind.i64.wrap (BitVec.ofInt IntKind.i64.bits off ||| BitVec.ofInt IntKind.i64.bits more).toNat)), .int .u8 (IntKind.u8.wrap n), .int .u8 (0 : Int)] 5) w fun b80 w1 =>
  ipm_headSum.Call (some ⟨b80, 0, none⟩) 8 8 w1 fun r83 w2 =>
  (0 ≤ (7 : Int) ∧ (7 : Int) < ((8 : Nat) : Int)) ∧
  Sts [.int .u8 (IntKind.u8.wrap r83)] ⟨b80, 7, none⟩ 0 w2 fun w3 =>
  (0 ≤ (IntKind.i64.wrap (off + n)) ∧ (IntKind.i64.wrap (off + n)) ≤ ((data_c : Nat) : Int)) ∧
  (0 ≤ off ∧ off ≤ (IntKind.i64.wrap (off + n))) ∧
  Append 5 (.int .u8 (0 : Int)) 1 1 (some ⟨b80, 0, none⟩) 8 8 (slBase data_b off ((data_c : Nat) : Int) 1) ((IntKind.i64.wrap (off + n)).toNat - off.toNat) w3 fun b94 c94 w4 =>
  New (.cells #[.slice b94 (8 + ((IntKind.i64.wrap (off + n)).toNat - off.toNat)) c94] 68) w4 fun b95 w5 =>
  Append 68 (.slice none 0 0) 1 24 out_b out_l out_c (some ⟨b95, 0, none⟩) 1 w5 fun b96 c96 w6 =>
  Bm (more == (0 : Int)) (
    R b96 (out_l + 1) c96 (0 : Int) w6) (
    N1 p dst proto data_b data_l data_c id0 b96 (out_l + 1) c96 (IntKind.i64.wrap (off + n)) w6)) = kstep Try.prog 103 Try.f40.results.toList (Try.f40.body.getD .skip) (ipm_IP_Output.RV R) (kvc Try.prog 103 Try.f40.results.toList (Try.f40.body.getD .skip) (ipm_IP_Output.RV R) [([(0, [1, 1, 1, 1, 1, 1, 1, 1, 1, 1, 0, 0]), (2, [1, 1, 1, 1, 1, 1, 1, 1, 1, 1, 0, 0]), (1, [0])], fun σ w => dP (slotOf σ 0) fun p_ => dI .i64 (slotOf σ 1) fun dst_ => dI .i64 (slotOf σ 2) fun proto_ => dL (slotOf σ 3) fun data_b_ data_l_ data_c_ => dI .i64 (slotOf σ 10) fun id0_ => dL (slotOf σ 11) fun out_b_ out_l_ out_c_ => dI .i64 (slotOf σ 12) fun off_ => N1 p_ dst_ proto_ data_b_ data_l_ data_c_ id0_ out_b_ out_l_ out_c_ off_ w)] 2000) [(0, [1, 1, 1, 1, 1, 1, 1, 1, 1, 1, 0, 0, 0, 1, 1, 1]), (1, [1]), (2, [1, 1, 1, 1, 1, 1, 1, 1, 1, 1, 0, 0]), (1, [0])] [(0, .pointer p), (1, .int .i64 dst), (2, .int .i64 proto), (3, .slice data_b data_l data_c), (10, .int .i64 id0), (11, .slice out_b out_l out_c), (12, .int .i64 off), (13, .int .i64 n), (14, .int .i64 more)] w := by kernel_rfl
theorem ipm_IP_Output.B3_sound {R : Option Addr → Nat → Nat → Int → World → Prop} {N1 : Option Addr → Int → Int → Option Addr → Nat → Nat → Int → Option Addr → Nat → Nat → Int → World → Prop} (hN1 : ∀ p dst proto data_b data_l data_c id0 out_b out_l out_c off w, N1 p dst proto data_b data_l data_c id0 out_b out_l out_c off w → KW Try.prog 40 103 (ipm_IP_Output.RV R) ([(0, [1, 1, 1, 1, 1, 1, 1, 1, 1, 1, 0, 0]), (2, [1, 1, 1, 1, 1, 1, 1, 1, 1, 1, 0, 0]), (1, [0])].map (toItem (Try.f40.body.getD .skip))) [(0, .pointer p), (1, .int .i64 dst), (2, .int .i64 proto), (3, .slice data_b data_l data_c), (10, .int .i64 id0), (11, .slice out_b out_l out_c), (12, .int .i64 off)] w) (p : Option Addr) (dst proto : Int) (data_b : Option Addr) (data_l data_c : Nat) (id0 : Int) (out_b : Option Addr) (out_l out_c : Nat) (off n more : Int) (w : World) (h : ipm_IP_Output.B3 p dst proto data_b data_l data_c id0 out_b out_l out_c off n more w N1  R) :
    KW Try.prog 40 103 (ipm_IP_Output.RV R) ([(0, [1, 1, 1, 1, 1, 1, 1, 1, 1, 1, 0, 0, 0, 1, 1, 1]), (1, [1]), (2, [1, 1, 1, 1, 1, 1, 1, 1, 1, 1, 0, 0]), (1, [0])].map (toItem (Try.f40.body.getD .skip))) [(0, .pointer p), (1, .int .i64 dst), (2, .int .i64 proto), (3, .slice data_b data_l data_c), (10, .int .i64 id0), (11, .slice out_b out_l out_c), (12, .int .i64 off), (13, .int .i64 n), (14, .int .i64 more)] w := by
  exact block_spec Try.func40 Try.mixed (stops_cons (fun σ w h => by
      obtain ⟨p_, e0, h⟩ := dP_elim h
      obtain ⟨dst_, e1, h⟩ := dI_elim h
      obtain ⟨proto_, e2, h⟩ := dI_elim h
      obtain ⟨data_b_, data_l_, data_c_, e3, h⟩ := dL_elim h
      obtain ⟨id0_, e4, h⟩ := dI_elim h
      obtain ⟨out_b_, out_l_, out_c_, e5, h⟩ := dL_elim h
      obtain ⟨off_, e6, h⟩ := dI_elim h
      exact (hN1 p_ dst_ proto_ data_b_ data_l_ data_c_ id0_ out_b_ out_l_ out_c_ off_ w h).weaken (Sub.cons (Sub.cons (Sub.cons (Sub.cons (Sub.cons (Sub.cons (Sub.cons (Sub.nil _) e6) e5) e4) e3) e2) e1) e0)) stops_nil) (Eq.mp (ipm_IP_Output.B3_eq p dst proto data_b data_l data_c id0 out_b out_l out_c off n more w N1  R ) h)
def ipm_IP_Output.L1b (p : Option Addr) (dst proto : Int) (data_b : Option Addr) (data_l data_c : Nat) (id0 : Int) (out_b : Option Addr) (out_l out_c : Nat) (off : Int) (w : World)  (N1 : Option Addr → Int → Int → Option Addr → Nat → Nat → Int → Option Addr → Nat → Nat → Int → World → Prop) (R : Option Addr → Nat → Nat → Int → World → Prop) : Prop :=
  Bm (decide ((IntKind.i64.wrap (((data_l : Nat) : Int) - off)) > (16 : Int))) (
    ipm_IP_Output.B3 p dst proto data_b data_l data_c id0 out_b out_l out_c off (16 : Int) (128 : Int) w N1 R) (
    ipm_IP_Output.B3 p dst proto data_b data_l data_c id0 out_b out_l out_c off (IntKind.i64.wrap (((data_l : Nat) : Int) - off)) (0 : Int) w N1 R)
theorem ipm_IP_Output.L1b_eq (p : Option Addr) (dst proto : Int) (data_b : Option Addr) (data_l data_c : Nat) (id0 : Int) (out_b : Option Addr) (out_l out_c : Nat) (off : Int) (w : World)  (N1 : Option Addr → Int → Int → Option Addr → Nat → Nat → Int → Option Addr → Nat → Nat → Int → World → Prop) (R : Option Addr → Nat → Nat → Int → World → Prop) (sB3 : Option Addr → Int → Int → Option Addr → Nat → Nat → Int → Option Addr → Nat → Nat → Int → Int → Int → World → Prop) :
    (
  Bm (decide ((IntKind.i64.wrap (((data_l : Nat) : Int) - off)) > (16 : Int))) (
    sB3 p dst proto data_b data_l data_c id0 out_b out_l out_c off (16 : Int) (128 : Int) w) (
    sB3 p dst proto data_b data_l data_c id0 out_b out_l out_c off (IntKind.i64.wrap (((data_l : Nat) : Int) - off)) (0 : Int) w)) = kstep Try.prog 103 Try.f40.results.toList (Try.f40.body.getD .skip) (ipm_IP_Output.RV R) (kvc Try.prog 103 Try.f40.results.toList (Try.f40.body.getD .skip) (ipm_IP_Output.RV R) [([(0, [1, 1, 1, 1, 1, 1, 1, 1, 1, 1, 0, 0, 0, 1, 1, 1]), (1, [1]), (2, [1, 1, 1, 1, 1, 1, 1, 1, 1, 1, 0, 0]), (1, [0])], fun σ w => dP (slotOf σ 0) fun p_ => dI .i64 (slotOf σ 1) fun dst_ => dI .i64 (slotOf σ 2) fun proto_ => dL (slotOf σ 3) fun data_b_ data_l_ data_c_ => dI .i64 (slotOf σ 10) fun id0_ => dL (slotOf σ 11) fun out_b_ out_l_ out_c_ => dI .i64 (slotOf σ 12) fun off_ => dI .i64 (slotOf σ 13) fun n_ => dI .i64 (slotOf σ 14) fun more_ => sB3 p_ dst_ proto_ data_b_ data_l_ data_c_ id0_ out_b_ out_l_ out_c_ off_ n_ more_ w)] 2000) [(0, [1, 1, 1, 1, 1, 1, 1, 1, 1, 1, 0, 0]), (2, [1, 1, 1, 1, 1, 1, 1, 1, 1, 1, 0, 0]), (1, [0])] [(0, .pointer p), (1, .int .i64 dst), (2, .int .i64 proto), (3, .slice data_b data_l data_c), (10, .int .i64 id0), (11, .slice out_b out_l out_c), (12, .int .i64 off)] w := by kernel_rfl
theorem ipm_IP_Output.L1b_sound {R : Option Addr → Nat → Nat → Int → World → Prop} {N1 : Option Addr → Int → Int → Option Addr → Nat → Nat → Int → Option Addr → Nat → Nat → Int → World → Prop} (hN1 : ∀ p dst proto data_b data_l data_c id0 out_b out_l out_c off w, N1 p dst proto data_b data_l data_c id0 out_b out_l out_c off w → KW Try.prog 40 103 (ipm_IP_Output.RV R) ([(0, [1, 1, 1, 1, 1, 1, 1, 1, 1, 1, 0, 0]), (2, [1, 1, 1, 1, 1, 1, 1, 1, 1, 1, 0, 0]), (1, [0])].map (toItem (Try.f40.body.getD .skip))) [(0, .pointer p), (1, .int .i64 dst), (2, .int .i64 proto), (3, .slice data_b data_l data_c), (10, .int .i64 id0), (11, .slice out_b out_l out_c), (12, .int .i64 off)] w) (p : Option Addr) (dst proto : Int) (data_b : Option Addr) (data_l data_c : Nat) (id0 : Int) (out_b : Option Addr) (out_l out_c : Nat) (off : Int) (w : World) (h : ipm_IP_Output.L1b p dst proto data_b data_l data_c id0 out_b out_l out_c off w  N1 R) :
    KW Try.prog 40 103 (ipm_IP_Output.RV R) ([(0, [1, 1, 1, 1, 1, 1, 1, 1, 1, 1, 0, 0]), (2, [1, 1, 1, 1, 1, 1, 1, 1, 1, 1, 0, 0]), (1, [0])].map (toItem (Try.f40.body.getD .skip))) [(0, .pointer p), (1, .int .i64 dst), (2, .int .i64 proto), (3, .slice data_b data_l data_c), (10, .int .i64 id0), (11, .slice out_b out_l out_c), (12, .int .i64 off)] w := by
  exact block_spec Try.func40 Try.mixed (stops_cons (fun σ w h => by
      obtain ⟨p_, e0, h⟩ := dP_elim h
      obtain ⟨dst_, e1, h⟩ := dI_elim h
      obtain ⟨proto_, e2, h⟩ := dI_elim h
      obtain ⟨data_b_, data_l_, data_c_, e3, h⟩ := dL_elim h
      obtain ⟨id0_, e4, h⟩ := dI_elim h
      obtain ⟨out_b_, out_l_, out_c_, e5, h⟩ := dL_elim h
      obtain ⟨off_, e6, h⟩ := dI_elim h
      obtain ⟨n_, e7, h⟩ := dI_elim h
      obtain ⟨more_, e8, h⟩ := dI_elim h
      exact (ipm_IP_Output.B3_sound hN1 p_ dst_ proto_ data_b_ data_l_ data_c_ id0_ out_b_ out_l_ out_c_ off_ n_ more_ w h).weaken (Sub.cons (Sub.cons (Sub.cons (Sub.cons (Sub.cons (Sub.cons (Sub.cons (Sub.cons (Sub.cons (Sub.nil _) e8) e7) e6) e5) e4) e3) e2) e1) e0)) stops_nil) (Eq.mp (ipm_IP_Output.L1b_eq p dst proto data_b data_l data_c id0 out_b out_l out_c off w  N1 R (fun p_ dst_ proto_ data_b_ data_l_ data_c_ id0_ out_b_ out_l_ out_c_ off_ n_ more_ w => ipm_IP_Output.B3 p_ dst_ proto_ data_b_ data_l_ data_c_ id0_ out_b_ out_l_ out_c_ off_ n_ more_ w N1 R)) h)
def ipm_IP_Output.L1 (p : Option Addr) (dst proto : Int) (data_b : Option Addr) (data_l data_c : Nat) (id0 : Int) (out_b : Option Addr) (out_l out_c : Nat) (off : Int) (w : World)  (R : Option Addr → Nat → Nat → Int → World → Prop) : Prop :=
  ∃ (I : Nat → Option Addr → Int → Int → Option Addr → Nat → Nat → Int → Option Addr → Nat → Nat → Int → World → Prop) (m : Nat), I m p dst proto data_b data_l data_c id0 out_b out_l out_c off w ∧ ∀ m p dst proto data_b data_l data_c id0 out_b out_l out_c off w, I m p dst proto data_b data_l data_c id0 out_b out_l out_c off w → ipm_IP_Output.L1b p dst proto data_b data_l data_c id0 out_b out_l out_c off w  (fun p' dst' proto' data_b' data_l' data_c' id0' out_b' out_l' out_c' off' w' => ∃ m', m' < m ∧ I m' p' dst' proto' data_b' data_l' data_c' id0' out_b' out_l' out_c' off' w') R
theorem ipm_IP_Output.L1_sound {R : Option Addr → Nat → Nat → Int → World → Prop}  (p : Option Addr) (dst proto : Int) (data_b : Option Addr) (data_l data_c : Nat) (id0 : Int) (out_b : Option Addr) (out_l out_c : Nat) (off : Int) (w : World) (h : ipm_IP_Output.L1 p dst proto data_b data_l data_c id0 out_b out_l out_c off w  R) :
    KW Try.prog 40 103 (ipm_IP_Output.RV R) ([(0, [1, 1, 1, 1, 1, 1, 1, 1, 1, 1, 0, 0]), (2, [1, 1, 1, 1, 1, 1, 1, 1, 1, 1, 0, 0]), (1, [0])].map (toItem (Try.f40.body.getD .skip))) [(0, .pointer p), (1, .int .i64 dst), (2, .int .i64 proto), (3, .slice data_b data_l data_c), (10, .int .i64 id0), (11, .slice out_b out_l out_c), (12, .int .i64 off)] w := by
  obtain ⟨I, m, h0, hr⟩ := h
  refine KW.loop (fun m σ w => ∃ (p : Option Addr) (dst proto : Int) (data_b : Option Addr) (data_l data_c : Nat) (id0 : Int) (out_b : Option Addr) (out_l out_c : Nat) (off : Int), σ = [(0, .pointer p), (1, .int .i64 dst), (2, .int .i64 proto), (3, .slice data_b data_l data_c), (10, .int .i64 id0), (11, .slice out_b out_l out_c), (12, .int .i64 off)] ∧ I m p dst proto data_b data_l data_c id0 out_b out_l out_c off w) ?_ m _ w ⟨p, dst, proto, data_b, data_l, data_c, id0, out_b, out_l, out_c, off, rfl, h0⟩
  rintro m ih σ w ⟨p, dst, proto, data_b, data_l, data_c, id0, out_b, out_l, out_c, off, rfl, hI⟩
  exact ipm_IP_Output.L1b_sound  (N1 := fun p' dst' proto' data_b' data_l' data_c' id0' out_b' out_l' out_c' off' w' => ∃ m', m' < m ∧ I m' p' dst' proto' data_b' data_l' data_c' id0' out_b' out_l' out_c' off' w') (fun p' dst' proto' data_b' data_l' data_c' id0' out_b' out_l' out_c' off' w' hx => by obtain ⟨m', hlt, hI'⟩ := hx; exact ih m' hlt _ w' ⟨p', dst', proto', data_b', data_l', data_c', id0', out_b', out_l', out_c', off', rfl, hI'⟩) p dst proto data_b data_l data_c id0 out_b out_l out_c off w (hr m p dst proto data_b data_l data_c id0 out_b out_l out_c off w hI)
def ipm_IP_Output.B2 (p : Option Addr) (dst proto : Int) (data_b : Option Addr) (data_l data_c : Nat) (t27 : Bool) (w : World)   (R : Option Addr → Nat → Nat → Int → World → Prop) : Prop :=
  Bm t27 (
    R none 0 0 (6 : Int) w) (
    Bm (decide (((data_l : Nat) : Int) > (40 : Int))) (
      R none 0 0 (2 : Int) w) (
      Pn p fun a =>
      LdI .i64 (a.add 2) w fun x34 =>
      Bm (x34 == (0 : Int)) (
        R none 0 0 (12 : Int) w) (
        Pn p fun a_1 =>
        LdI .i64 (a_1.add 1) w fun x39 =>
        Pn p fun a_2 =>
        LdI .i64 (a_2.add 1) w fun x44 =>
        (256 : Int) ≠ 0 ∧
        Pn p fun a_3 =>
        Sts [.int .i64 ((IntKind.i64.wrap (x44 + (1 : Int))).tmod (256 : Int))] (a_3.add 1) 0 w fun w1 =>
        Pn p fun a_4 =>
        LdI .i64 (a_4.add 2) w1 fun x52 =>
        Pn p fun a_5 =>
        Sts [.int .i64 (IntKind.i64.wrap (x52 - (1 : Int)))] (a_5.add 2) 0 w1 fun w2 =>
        New (.cells #[] 68) w2 fun b56 w3 =>
        ipm_IP_Output.L1 p dst proto data_b data_l data_c x39 (some ⟨b56, 0, none⟩) 0 0 (0 : Int) w3  R)))
theorem ipm_IP_Output.B2_eq (p : Option Addr) (dst proto : Int) (data_b : Option Addr) (data_l data_c : Nat) (t27 : Bool) (w : World)   (R : Option Addr → Nat → Nat → Int → World → Prop) (sL1 : Option Addr → Int → Int → Option Addr → Nat → Nat → Int → Option Addr → Nat → Nat → Int → World → Prop) :
    (
  Bm t27 (
    R none 0 0 (6 : Int) w) (
    Bm (decide (((data_l : Nat) : Int) > (40 : Int))) (
      R none 0 0 (2 : Int) w) (
      Pn p fun a =>
      LdI .i64 (a.add 2) w fun x34 =>
      Bm (x34 == (0 : Int)) (
        R none 0 0 (12 : Int) w) (
        Pn p fun a_1 =>
        LdI .i64 (a_1.add 1) w fun x39 =>
        Pn p fun a_2 =>
        LdI .i64 (a_2.add 1) w fun x44 =>
        (256 : Int) ≠ 0 ∧
        Pn p fun a_3 =>
        Sts [.int .i64 ((IntKind.i64.wrap (x44 + (1 : Int))).tmod (256 : Int))] (a_3.add 1) 0 w fun w1 =>
        Pn p fun a_4 =>
        LdI .i64 (a_4.add 2) w1 fun x52 =>
        Pn p fun a_5 =>
        Sts [.int .i64 (IntKind.i64.wrap (x52 - (1 : Int)))] (a_5.add 2) 0 w1 fun w2 =>
        New (.cells #[] 68) w2 fun b56 w3 =>
        sL1 p dst proto data_b data_l data_c x39 (some ⟨b56, 0, none⟩) 0 0 (0 : Int) w3)))) = kstep Try.prog 103 Try.f40.results.toList (Try.f40.body.getD .skip) (ipm_IP_Output.RV R) (kvc Try.prog 103 Try.f40.results.toList (Try.f40.body.getD .skip) (ipm_IP_Output.RV R) [([(0, [1, 1, 1, 1, 1, 1, 1, 1, 1, 1, 0, 0]), (2, [1, 1, 1, 1, 1, 1, 1, 1, 1, 1, 0, 0]), (1, [0])], fun σ w => dP (slotOf σ 0) fun p_ => dI .i64 (slotOf σ 1) fun dst_ => dI .i64 (slotOf σ 2) fun proto_ => dL (slotOf σ 3) fun data_b_ data_l_ data_c_ => dI .i64 (slotOf σ 10) fun id0_ => dL (slotOf σ 11) fun out_b_ out_l_ out_c_ => dI .i64 (slotOf σ 12) fun off_ => sL1 p_ dst_ proto_ data_b_ data_l_ data_c_ id0_ out_b_ out_l_ out_c_ off_ w)] 2000) [(0, [1, 1, 0, 1]), (0, [1, 1, 1])] [(0, .pointer p), (1, .int .i64 dst), (2, .int .i64 proto), (3, .slice data_b data_l data_c), (27, .bool t27)] w := by kernel_rfl
theorem ipm_IP_Output.B2_sound {R : Option Addr → Nat → Nat → Int → World → Prop}  (p : Option Addr) (dst proto : Int) (data_b : Option Addr) (data_l data_c : Nat) (t27 : Bool) (w : World) (h : ipm_IP_Output.B2 p dst proto data_b data_l data_c t27 w   R) :
    KW Try.prog 40 103 (ipm_IP_Output.RV R) ([(0, [1, 1, 0, 1]), (0, [1, 1, 1])].map (toItem (Try.f40.body.getD .skip))) [(0, .pointer p), (1, .int .i64 dst), (2, .int .i64 proto), (3, .slice data_b data_l data_c), (27, .bool t27)] w := by
  exact block_spec Try.func40 Try.mixed (stops_cons (fun σ w h => by
      obtain ⟨p_, e0, h⟩ := dP_elim h
      obtain ⟨dst_, e1, h⟩ := dI_elim h
      obtain ⟨proto_, e2, h⟩ := dI_elim h
      obtain ⟨data_b_, data_l_, data_c_, e3, h⟩ := dL_elim h
      obtain ⟨id0_, e4, h⟩ := dI_elim h
      obtain ⟨out_b_, out_l_, out_c_, e5, h⟩ := dL_elim h
      obtain ⟨off_, e6, h⟩ := dI_elim h
      exact (ipm_IP_Output.L1_sound  p_ dst_ proto_ data_b_ data_l_ data_c_ id0_ out_b_ out_l_ out_c_ off_ w h).weaken (Sub.cons (Sub.cons (Sub.cons (Sub.cons (Sub.cons (Sub.cons (Sub.cons (Sub.nil _) e6) e5) e4) e3) e2) e1) e0)) stops_nil) (Eq.mp (ipm_IP_Output.B2_eq p dst proto data_b data_l data_c t27 w   R (fun p_ dst_ proto_ data_b_ data_l_ data_c_ id0_ out_b_ out_l_ out_c_ off_ w => ipm_IP_Output.L1 p_ dst_ proto_ data_b_ data_l_ data_c_ id0_ out_b_ out_l_ out_c_ off_ w  R)) h)
def ipm_IP_Output.B1 (p : Option Addr) (dst proto : Int) (data_b : Option Addr) (data_l data_c : Nat) (t21 : Bool) (w : World)   (R : Option Addr → Nat → Nat → Int → World → Prop) : Prop :=
  Bm t21 (
    R none 0 0 (5 : Int) w) (
    Bm (decide (proto < (0 : Int))) (
      ipm_IP_Output.B2 p dst proto data_b data_l data_c true w  R) (
      ipm_IP_Output.B2 p dst proto data_b data_l data_c (decide (proto > (255 : Int))) w  R))
theorem ipm_IP_Output.B1_eq (p : Option Addr) (dst proto : Int) (data_b : Option Addr) (data_l data_c : Nat) (t21 : Bool) (w : World)   (R : Option Addr → Nat → Nat → Int → World → Prop) (sB2 : Option Addr → Int → Int → Option Addr → Nat → Nat → Bool → World → Prop) :
    (
  Bm t21 (
    R none 0 0 (5 : Int) w) (
    Bm (decide (proto < (0 : Int))) (
      sB2 p dst proto data_b data_l data_c true w) (
      sB2 p dst proto data_b data_l data_c (decide (proto > (255 : Int))) w))) = kstep Try.prog 103 Try.f40.results.toList (Try.f40.body.getD .skip) (ipm_IP_Output.RV R) (kvc Try.prog 103 Try.f40.results.toList (Try.f40.body.getD .skip) (ipm_IP_Output.RV R) [([(0, [1, 1, 0, 1]), (0, [1, 1, 1])], fun σ w => dP (slotOf σ 0) fun p_ => dI .i64 (slotOf σ 1) fun dst_ => dI .i64 (slotOf σ 2) fun proto_ => dL (slotOf σ 3) fun data_b_ data_l_ data_c_ => dB (slotOf σ 27) fun t27_ => sB2 p_ dst_ proto_ data_b_ data_l_ data_c_ t27_ w)] 2000) [(0, [1, 0, 1]), (0, [1, 1])] [(0, .pointer p), (1, .int .i64 dst), (2, .int .i64 proto), (3, .slice data_b data_l data_c), (21, .bool t21)] w := by kernel_rfl
theorem ipm_IP_Output.B1_sound {R : Option Addr → Nat → Nat → Int → World → Prop}  (p : Option Addr) (dst proto : Int) (data_b : Option Addr) (data_l data_c : Nat) (t21 : Bool) (w : World) (h : ipm_IP_Output.B1 p dst proto data_b data_l data_c t21 w   R) :
    KW Try.prog 40 103 (ipm_IP_Output.RV R) ([(0, [1, 0, 1]), (0, [1, 1])].map (toItem (Try.f40.body.getD .skip))) [(0, .pointer p), (1, .int .i64 dst), (2, .int .i64 proto), (3, .slice data_b data_l data_c), (21, .bool t21)] w := by
  exact block_spec Try.func40 Try.mixed (stops_cons (fun σ w h => by
      obtain ⟨p_, e0, h⟩ := dP_elim h
      obtain ⟨dst_, e1, h⟩ := dI_elim h
      obtain ⟨proto_, e2, h⟩ := dI_elim h
      obtain ⟨data_b_, data_l_, data_c_, e3, h⟩ := dL_elim h
      obtain ⟨t27_, e4, h⟩ := dB_elim h
      exact (ipm_IP_Output.B2_sound  p_ dst_ proto_ data_b_ data_l_ data_c_ t27_ w h).weaken (Sub.cons (Sub.cons (Sub.cons (Sub.cons (Sub.cons (Sub.nil _) e4) e3) e2) e1) e0)) stops_nil) (Eq.mp (ipm_IP_Output.B1_eq p dst proto data_b data_l data_c t21 w   R (fun p_ dst_ proto_ data_b_ data_l_ data_c_ t27_ w => ipm_IP_Output.B2 p_ dst_ proto_ data_b_ data_l_ data_c_ t27_ w  R)) h)
def ipm_IP_Output.B0 (p : Option Addr) (dst proto : Int) (data_b : Option Addr) (data_l data_c : Nat) (w : World)   (R : Option Addr → Nat → Nat → Int → World → Prop) : Prop :=
  Bm (decide (dst < (0 : Int))) (
    ipm_IP_Output.B1 p dst proto data_b data_l data_c true w  R) (
    ipm_IP_Output.B1 p dst proto data_b data_l data_c (decide (dst > (255 : Int))) w  R)
theorem ipm_IP_Output.B0_eq (p : Option Addr) (dst proto : Int) (data_b : Option Addr) (data_l data_c : Nat) (w : World)   (R : Option Addr → Nat → Nat → Int → World → Prop) (sB1 : Option Addr → Int → Int → Option Addr → Nat → Nat → Bool → World → Prop) :
    (
  Bm (decide (dst < (0 : Int))) (
    sB1 p dst proto data_b data_l data_c true w) (
    sB1 p dst proto data_b data_l data_c (decide (dst > (255 : Int))) w)) = kstep Try.prog 103 Try.f40.results.toList (Try.f40.body.getD .skip) (ipm_IP_Output.RV R) (kvc Try.prog 103 Try.f40.results.toList (Try.f40.body.getD .skip) (ipm_IP_Output.RV R) [([(0, [1, 0, 1]), (0, [1, 1])], fun σ w => dP (slotOf σ 0) fun p_ => dI .i64 (slotOf σ 1) fun dst_ => dI .i64 (slotOf σ 2) fun proto_ => dL (slotOf σ 3) fun data_b_ data_l_ data_c_ => dB (slotOf σ 21) fun t21_ => sB1 p_ dst_ proto_ data_b_ data_l_ data_c_ t21_ w)] 2000) [(0, [])] [(0, .pointer p), (1, .int .i64 dst), (2, .int .i64 proto), (3, .slice data_b data_l data_c)] w := by kernel_rfl
theorem ipm_IP_Output.B0_sound {R : Option Addr → Nat → Nat → Int → World → Prop}  (p : Option Addr) (dst proto : Int) (data_b : Option Addr) (data_l data_c : Nat) (w : World) (h : ipm_IP_Output.B0 p dst proto data_b data_l data_c w   R) :
    KW Try.prog 40 103 (ipm_IP_Output.RV R) ([(0, [])].map (toItem (Try.f40.body.getD .skip))) [(0, .pointer p), (1, .int .i64 dst), (2, .int .i64 proto), (3, .slice data_b data_l data_c)] w := by
  exact block_spec Try.func40 Try.mixed (stops_cons (fun σ w h => by
      obtain ⟨p_, e0, h⟩ := dP_elim h
      obtain ⟨dst_, e1, h⟩ := dI_elim h
      obtain ⟨proto_, e2, h⟩ := dI_elim h
      obtain ⟨data_b_, data_l_, data_c_, e3, h⟩ := dL_elim h
      obtain ⟨t21_, e4, h⟩ := dB_elim h
      exact (ipm_IP_Output.B1_sound  p_ dst_ proto_ data_b_ data_l_ data_c_ t21_ w h).weaken (Sub.cons (Sub.cons (Sub.cons (Sub.cons (Sub.cons (Sub.nil _) e4) e3) e2) e1) e0)) stops_nil) (Eq.mp (ipm_IP_Output.B0_eq p dst proto data_b data_l data_c w   R (fun p_ dst_ proto_ data_b_ data_l_ data_c_ t21_ w => ipm_IP_Output.B1 p_ dst_ proto_ data_b_ data_l_ data_c_ t21_ w  R)) h)
theorem ipm_IP_Output.sound (p : Option Addr) (dst proto : Int) (data_b : Option Addr) (data_l data_c : Nat) (w : World) (R : Option Addr → Nat → Nat → Int → World → Prop) (h : ipm_IP_Output.B0 p dst proto data_b data_l data_c w R) : ipm_IP_Output.Call p dst proto data_b data_l data_c w R := by
  have hc := calls_of_block (args := #[.pointer p, .int .i64 dst, .int .i64 proto, .slice data_b data_l data_c]) Try.func40 (body := (Try.f40.body.getD .skip)) (by kernel_rfl) (by kernel_rfl) (args_slot _) (ipm_IP_Output.B0_sound p dst proto data_b data_l data_c w h)
  exact hc.mono fun e w' he => by
    obtain ⟨v, rfl, hv⟩ := he
    exact ipm_IP_Output.RV_elim hv
end Go.Proofs.Qxb6500425a
