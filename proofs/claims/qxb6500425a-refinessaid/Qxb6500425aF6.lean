import Derived.Test.Qxb6500425aSig
set_option maxRecDepth 100000
set_option linter.unusedVariables false
open Go.Vc
namespace Go.Proofs.Qxb6500425a
def ipm_IP_remove.B0 (p : Option Addr) (i : Int) (w : World)   (R : World → Prop) : Prop :=
  Pn p fun a =>
  LdL (a.add 3) w.drew fun x8_b x8_l x8_c =>
  (0 ≤ i ∧ i ≤ ((x8_c : Nat) : Int)) ∧
  (0 ≤ i ∧ i ≤ i) ∧
  Pn p fun a_1 =>
  LdL (a_1.add 3) w.drew fun x15_b x15_l x15_c =>
  (0 ≤ (IntKind.i64.wrap (i + (1 : Int))) ∧ (IntKind.i64.wrap (i + (1 : Int))) ≤ ((x15_l : Nat) : Int)) ∧
  Append 85 (.agg #[.int .i64 (0 : Int), .int .i64 (0 : Int), .int .i64 (0 : Int), .int .i64 (0 : Int), .int .i64 (0 : Int), .slice none 0 0]) 6 64 (slBase x8_b ((0 : Nat) : Int) i 6) (i.toNat - ((0 : Nat) : Int).toNat) (i.toNat - ((0 : Nat) : Int).toNat) (slBase x15_b (IntKind.i64.wrap (i + (1 : Int))) ((x15_c : Nat) : Int) 6) (((x15_l : Nat) : Int).toNat - (IntKind.i64.wrap (i + (1 : Int))).toNat) w.drew fun b19 c19 w1 =>
  Pn p fun a_2 =>
  Sts [.slice b19 ((i.toNat - ((0 : Nat) : Int).toNat) + (((x15_l : Nat) : Int).toNat - (IntKind.i64.wrap (i + (1 : Int))).toNat)) c19] (a_2.add 3) 0 w1 fun w2 =>
  R  w2
theorem ipm_IP_remove.B0_eq (p : Option Addr) (i : Int) (w : World)   (R : World → Prop)  :
    (
  Pn p fun a =>
  LdL (a.add 3) w.drew fun x8_b x8_l x8_c =>
  (0 ≤ i ∧ i ≤ ((x8_c : Nat) : Int)) ∧
  (0 ≤ i ∧ i ≤ i) ∧
  Pn p fun a_1 =>
  LdL (a_1.add 3) w.drew fun x15_b x15_l x15_c =>
  (0 ≤ (IntKind.i64.wrap (i + (1 : Int))) ∧ (IntKind.i64.wrap (i + (1 : Int))) ≤ ((x15_l : Nat) : Int)) ∧
  Append 85 (.agg #[.int .i64 (0 : Int), .int .i64 (0 : Int), .int .i64 (0 : Int), .int .i64 (0 : Int), .int .i64 (0 : Int), .slice none 0 0]) 6 64 (slBase x8_b ((0 : Nat) : Int) i 6) (i.toNat - ((0 : Nat) : Int).toNat) (i.toNat - ((0 : Nat) : Int).toNat) (slBase x15_b (IntKind.i64.wrap (i + (1 : Int))) ((x15_c : Nat) : Int) 6) (((x15_l : Nat) : Int).toNat - (IntKind.i64.wrap (i + (1 : Int))).toNat) w.drew fun b19 c19 w1 =>
  Pn p fun a_2 =>
  Sts [.slice b19 ((i.toNat - ((0 : Nat) : Int).toNat) + (((x15_l : Nat) : Int).toNat - (IntKind.i64.wrap (i + (1 : Int))).toNat)) c19] (a_2.add 3) 0 w1 fun w2 =>
  R  w2) = kstep Try.prog 22 Try.f45.results.toList (Try.f45.body.getD .skip) (ipm_IP_remove.RV R) (kvc Try.prog 22 Try.f45.results.toList (Try.f45.body.getD .skip) (ipm_IP_remove.RV R) [] 2000) [(0, [])] [(0, .pointer p), (1, .int .i64 i)] w := by kernel_rfl
theorem ipm_IP_remove.B0_sound {R : World → Prop}  (p : Option Addr) (i : Int) (w : World) (h : ipm_IP_remove.B0 p i w   R) :
    KW Try.prog 45 22 (ipm_IP_remove.RV R) ([(0, [])].map (toItem (Try.f45.body.getD .skip))) [(0, .pointer p), (1, .int .i64 i)] w := by
  exact block_spec Try.func45 Try.mixed stops_nil (Eq.mp (ipm_IP_remove.B0_eq p i w   R ) h)
theorem ipm_IP_remove.sound (p : Option Addr) (i : Int) (w : World) (R : World → Prop) (h : ipm_IP_remove.B0 p i w R) : ipm_IP_remove.Call p i w R := by
  have hc := calls_of_block (args := #[.pointer p, .int .i64 i]) Try.func45 (body := (Try.f45.body.getD .skip)) (by kernel_rfl) (by kernel_rfl) (args_slot _) (ipm_IP_remove.B0_sound p i w h)
  exact hc.mono fun e w' he => by
    obtain ⟨v, rfl, hv⟩ := he
    exact ipm_IP_remove.RV_elim hv
def ip_IP_sorted.B1 (p : Option Addr) (t2 r : Nat) (i j : Int) (t41 : Bool) (w : World) (N1 : Option Addr → Nat → Nat → Int → World → Prop) (N2 : Option Addr → Nat → Nat → Int → Int → World → Prop)  (R : Int → Int → Int → Int → World → Prop) : Prop :=
  Bm t41 (
    (0 ≤ (IntKind.i64.wrap (j - (1 : Int))) ∧ (IntKind.i64.wrap (j - (1 : Int))) < ((3 : Nat) : Int)) ∧
    LdI .i64 (Addr.add ⟨r, 0, none⟩ ((IntKind.i64.wrap (j - (1 : Int))).toNat * 1)) w fun x47 =>
    (0 ≤ j ∧ j < ((3 : Nat) : Int)) ∧
    Sts [.int .i64 x47] (Addr.add ⟨r, 0, none⟩ (j.toNat * 1)) 0 w fun w1 =>
    N2 p t2 r i (IntKind.i64.wrap (j - (1 : Int))) w1) (
    (0 ≤ j ∧ j < ((3 : Nat) : Int)) ∧
    Sts [.int .i64 i] (Addr.add ⟨r, 0, none⟩ (j.toNat * 1)) 0 w fun w2 =>
    LdI .i64 ⟨r, 3, none⟩ w2 fun x57 =>
    Sts [.int .i64 (IntKind.i64.wrap (x57 + (1 : Int)))] ⟨r, 3, none⟩ 0 w2 fun w3 =>
    N1 p t2 r (IntKind.i64.wrap (i + (1 : Int))) w3)
theorem ip_IP_sorted.B1_eq (p : Option Addr) (t2 r : Nat) (i j : Int) (t41 : Bool) (w : World) (N1 : Option Addr → Nat → Nat → Int → World → Prop) (N2 : Option Addr → Nat → Nat → Int → Int → World → Prop)  (R : Int → Int → Int → Int → World → Prop)  :
    (
  Bm t41 (
    (0 ≤ (IntKind.i64.wrap (j - (1 : Int))) ∧ (IntKind.i64.wrap (j - (1 : Int))) < ((3 : Nat) : Int)) ∧
    LdI .i64 (Addr.add ⟨r, 0, none⟩ ((IntKind.i64.wrap (j - (1 : Int))).toNat * 1)) w fun x47 =>
    (0 ≤ j ∧ j < ((3 : Nat) : Int)) ∧
    Sts [.int .i64 x47] (Addr.add ⟨r, 0, none⟩ (j.toNat * 1)) 0 w fun w1 =>
    N2 p t2 r i (IntKind.i64.wrap (j - (1 : Int))) w1) (
    (0 ≤ j ∧ j < ((3 : Nat) : Int)) ∧
    Sts [.int .i64 i] (Addr.add ⟨r, 0, none⟩ (j.toNat * 1)) 0 w fun w2 =>
    LdI .i64 ⟨r, 3, none⟩ w2 fun x57 =>
    Sts [.int .i64 (IntKind.i64.wrap (x57 + (1 : Int)))] ⟨r, 3, none⟩ 0 w2 fun w3 =>
    N1 p t2 r (IntKind.i64.wrap (i + (1 : Int))) w3)) = kstep Try.prog 61 Try.f46.results.toList (Try.f46.body.getD .skip) (ip_IP_sorted.RV R) (kvc Try.prog 61 Try.f46.results.toList (Try.f46.body.getD .skip) (ip_IP_sorted.RV R) [([(0, [1, 1, 0, 1, 0, 0, 1, 0, 0, 1, 0, 1, 0, 0, 0]), (2, [1, 1, 0, 1, 0, 0, 1, 0, 0, 1, 0, 1, 0, 0, 0]), (1, [2]), (0, [1, 1, 0, 1, 0, 0, 1, 0, 0, 1, 0, 1, 1]), (1, [1]), (0, [1, 1, 0, 1, 0, 0, 1, 1]), (2, [1, 1, 0, 1, 0, 0]), (1, [0]), (0, [1, 1, 1])], fun σ w => dP (slotOf σ 0) fun p_ => dK (slotOf σ 2) fun t2_ => dK (slotOf σ 3) fun r_ => dI .i64 (slotOf σ 4) fun i_ => dI .i64 (slotOf σ 5) fun j_ => N2 p_ t2_ r_ i_ j_ w),
    ([(0, [1, 1, 0, 1, 0, 0]), (2, [1, 1, 0, 1, 0, 0]), (1, [0]), (0, [1, 1, 1])], fun σ w => dP (slotOf σ 0) fun p_ => dK (slotOf σ 2) fun t2_ => dK (slotOf σ 3) fun r_ => dI .i64 (slotOf σ 4) fun i_ => N1 p_ t2_ r_ i_ w)] 2000) [(0, [1, 1, 0, 1, 0, 0, 1, 0, 0, 1, 0, 1, 0, 0, 0, 0, 1]), (0, [1, 1, 0, 1, 0, 0, 1, 0, 0, 1, 0, 1, 0, 0, 0, 1]), (2, [1, 1, 0, 1, 0, 0, 1, 0, 0, 1, 0, 1, 0, 0, 0]), (1, [2]), (0, [1, 1, 0, 1, 0, 0, 1, 0, 0, 1, 0, 1, 1]), (1, [1]), (0, [1, 1, 0, 1, 0, 0, 1, 1]), (2, [1, 1, 0, 1, 0, 0]), (1, [0]), (0, [1, 1, 1])] [(0, .pointer p), (2, .pointer (some ⟨t2, 0, none⟩)), (3, .pointer (some ⟨r, 0, none⟩)), (4, .int .i64 i), (5, .int .i64 j), (41, .bool t41)] w := by kernel_rfl
theorem ip_IP_sorted.B1_sound {R : Int → Int → Int → Int → World → Prop} {N1 : Option Addr → Nat → Nat → Int → World → Prop} (hN1 : ∀ p t2 r i w, N1 p t2 r i w → KW Try.prog 46 61 (ip_IP_sorted.RV R) ([(0, [1, 1, 0, 1, 0, 0]), (2, [1, 1, 0, 1, 0, 0]), (1, [0]), (0, [1, 1, 1])].map (toItem (Try.f46.body.getD .skip))) [(0, .pointer p), (2, .pointer (some ⟨t2, 0, none⟩)), (3, .pointer (some ⟨r, 0, none⟩)), (4, .int .i64 i)] w) {N2 : Option Addr → Nat → Nat → Int → Int → World → Prop} (hN2 : ∀ p t2 r i j w, N2 p t2 r i j w → KW Try.prog 46 61 (ip_IP_sorted.RV R) ([(0, [1, 1, 0, 1, 0, 0, 1, 0, 0, 1, 0, 1, 0, 0, 0]), (2, [1, 1, 0, 1, 0, 0, 1, 0, 0, 1, 0, 1, 0, 0, 0]), (1, [2]), (0, [1, 1, 0, 1, 0, 0, 1, 0, 0, 1, 0, 1, 1]), (1, [1]), (0, [1, 1, 0, 1, 0, 0, 1, 1]), (2, [1, 1, 0, 1, 0, 0]), (1, [0]), (0, [1, 1, 1])].map (toItem (Try.f46.body.getD .skip))) [(0, .pointer p), (2, .pointer (some ⟨t2, 0, none⟩)), (3, .pointer (some ⟨r, 0, none⟩)), (4, .int .i64 i), (5, .int .i64 j)] w) (p : Option Addr) (t2 r : Nat) (i j : Int) (t41 : Bool) (w : World) (h : ip_IP_sorted.B1 p t2 r i j t41 w N1 N2  R) :
    KW Try.prog 46 61 (ip_IP_sorted.RV R) ([(0, [1, 1, 0, 1, 0, 0, 1, 0, 0, 1, 0, 1, 0, 0, 0, 0, 1]), (0, [1, 1, 0, 1, 0, 0, 1, 0, 0, 1, 0, 1, 0, 0, 0, 1]), (2, [1, 1, 0, 1, 0, 0, 1, 0, 0, 1, 0, 1, 0, 0, 0]), (1, [2]), (0, [1, 1, 0, 1, 0, 0, 1, 0, 0, 1, 0, 1, 1]), (1, [1]), (0, [1, 1, 0, 1, 0, 0, 1, 1]), (2, [1, 1, 0, 1, 0, 0]), (1, [0]), (0, [1, 1, 1])].map (toItem (Try.f46.body.getD .skip))) [(0, .pointer p), (2, .pointer (some ⟨t2, 0, none⟩)), (3, .pointer (some ⟨r, 0, none⟩)), (4, .int .i64 i), (5, .int .i64 j), (41, .bool t41)] w := by
  exact block_spec Try.func46 Try.mixed (stops_cons (fun σ w h => by
      obtain ⟨p_, e0, h⟩ := dP_elim h
      obtain ⟨t2_, e1, h⟩ := dK_elim h
      obtain ⟨r_, e2, h⟩ := dK_elim h
      obtain ⟨i_, e3, h⟩ := dI_elim h
      obtain ⟨j_, e4, h⟩ := dI_elim h
      exact (hN2 p_ t2_ r_ i_ j_ w h).weaken (Sub.cons (Sub.cons (Sub.cons (Sub.cons (Sub.cons (Sub.nil _) e4) e3) e2) e1) e0)) (stops_cons (fun σ w h => by
      obtain ⟨p_, e0, h⟩ := dP_elim h
      obtain ⟨t2_, e1, h⟩ := dK_elim h
      obtain ⟨r_, e2, h⟩ := dK_elim h
      obtain ⟨i_, e3, h⟩ := dI_elim h
      exact (hN1 p_ t2_ r_ i_ w h).weaken (Sub.cons (Sub.cons (Sub.cons (Sub.cons (Sub.nil _) e3) e2) e1) e0)) stops_nil)) (Eq.mp (ip_IP_sorted.B1_eq p t2 r i j t41 w N1 N2  R ) h)
def ip_IP_sorted.L2b (p : Option Addr) (t2 r : Nat) (i j : Int) (w : World) (N1 : Option Addr → Nat → Nat → Int → World → Prop) (N2 : Option Addr → Nat → Nat → Int → Int → World → Prop) (R : Int → Int → Int → Int → World → Prop) : Prop :=
  Bm (decide (j > (0 : Int))) (
    (0 ≤ (IntKind.i64.wrap (j - (1 : Int))) ∧ (IntKind.i64.wrap (j - (1 : Int))) < ((3 : Nat) : Int)) ∧
    LdI .i64 (Addr.add ⟨r, 0, none⟩ ((IntKind.i64.wrap (j - (1 : Int))).toNat * 1)) w.drew fun x27 =>
    Pn p fun a =>
    (0 ≤ x27 ∧ x27 < ((3 : Nat) : Int)) ∧
    LdI .i64 ((Addr.add (a.add 3) (x27.toNat * 45)).add 1) w.drew fun x32 =>
    Pn p fun a_1 =>
    (0 ≤ i ∧ i < ((3 : Nat) : Int)) ∧
    LdI .i64 ((Addr.add (a_1.add 3) (i.toNat * 45)).add 1) w.drew fun x39 =>
    ip_IP_sorted.B1 p t2 r i j (decide (x32 > x39)) w.drew N1 N2 R) (
    ip_IP_sorted.B1 p t2 r i j false w.drew N1 N2 R)
theorem ip_IP_sorted.L2b_eq (p : Option Addr) (t2 r : Nat) (i j : Int) (w : World) (N1 : Option Addr → Nat → Nat → Int → World → Prop) (N2 : Option Addr → Nat → Nat → Int → Int → World → Prop) (R : Int → Int → Int → Int → World → Prop) (sB1 : Option Addr → Nat → Nat → Int → Int → Bool → World → Prop) :
    (
  Bm (decide (j > (0 : Int))) (
    (0 ≤ (IntKind.i64.wrap (j - (1 : Int))) ∧ (IntKind.i64.wrap (j - (1 : Int))) < ((3 : Nat) : Int)) ∧
    LdI .i64 (Addr.add ⟨r, 0, none⟩ ((IntKind.i64.wrap (j - (1 : Int))).toNat * 1)) w.drew fun x27 =>
    Pn p fun a =>
    (0 ≤ x27 ∧ x27 < ((3 : Nat) : Int)) ∧
    LdI .i64 ((Addr.add (a.add 3) (x27.toNat * 45)).add 1) w.drew fun x32 =>
    Pn p fun a_1 =>
    (0 ≤ i ∧ i < ((3 : Nat) : Int)) ∧
    LdI .i64 ((Addr.add (a_1.add 3) (i.toNat * 45)).add 1) w.drew fun x39 =>
    sB1 p t2 r i j (decide (x32 > x39)) w.drew) (
    sB1 p t2 r i j false w.drew)) = kstep Try.prog 61 Try.f46.results.toList (Try.f46.body.getD .skip) (ip_IP_sorted.RV R) (kvc Try.prog 61 Try.f46.results.toList (Try.f46.body.getD .skip) (ip_IP_sorted.RV R) [([(0, [1, 1, 0, 1, 0, 0, 1, 0, 0, 1, 0, 1, 0, 0, 0, 0, 1]), (0, [1, 1, 0, 1, 0, 0, 1, 0, 0, 1, 0, 1, 0, 0, 0, 1]), (2, [1, 1, 0, 1, 0, 0, 1, 0, 0, 1, 0, 1, 0, 0, 0]), (1, [2]), (0, [1, 1, 0, 1, 0, 0, 1, 0, 0, 1, 0, 1, 1]), (1, [1]), (0, [1, 1, 0, 1, 0, 0, 1, 1]), (2, [1, 1, 0, 1, 0, 0]), (1, [0]), (0, [1, 1, 1])], fun σ w => dP (slotOf σ 0) fun p_ => dK (slotOf σ 2) fun t2_ => dK (slotOf σ 3) fun r_ => dI .i64 (slotOf σ 4) fun i_ => dI .i64 (slotOf σ 5) fun j_ => dB (slotOf σ 41) fun t41_ => sB1 p_ t2_ r_ i_ j_ t41_ w)] 2000) [(0, [1, 1, 0, 1, 0, 0, 1, 0, 0, 1, 0, 1, 0, 0, 0]), (2, [1, 1, 0, 1, 0, 0, 1, 0, 0, 1, 0, 1, 0, 0, 0]), (1, [2]), (0, [1, 1, 0, 1, 0, 0, 1, 0, 0, 1, 0, 1, 1]), (1, [1]), (0, [1, 1, 0, 1, 0, 0, 1, 1]), (2, [1, 1, 0, 1, 0, 0]), (1, [0]), (0, [1, 1, 1])] [(0, .pointer p), (2, .pointer (some ⟨t2, 0, none⟩)), (3, .pointer (some ⟨r, 0, none⟩)), (4, .int .i64 i), (5, .int .i64 j)] w := by kernel_rfl
theorem ip_IP_sorted.L2b_sound {R : Int → Int → Int → Int → World → Prop} {N1 : Option Addr → Nat → Nat → Int → World → Prop} (hN1 : ∀ p t2 r i w, N1 p t2 r i w → KW Try.prog 46 61 (ip_IP_sorted.RV R) ([(0, [1, 1, 0, 1, 0, 0]), (2, [1, 1, 0, 1, 0, 0]), (1, [0]), (0, [1, 1, 1])].map (toItem (Try.f46.body.getD .skip))) [(0, .pointer p), (2, .pointer (some ⟨t2, 0, none⟩)), (3, .pointer (some ⟨r, 0, none⟩)), (4, .int .i64 i)] w) {N2 : Option Addr → Nat → Nat → Int → Int → World → Prop} (hN2 : ∀ p t2 r i j w, N2 p t2 r i j w → KW Try.prog 46 61 (ip_IP_sorted.RV R) ([(0, [1, 1, 0, 1, 0, 0, 1, 0, 0, 1, 0, 1, 0, 0, 0]), (2, [1, 1, 0, 1, 0, 0, 1, 0, 0, 1, 0, 1, 0, 0, 0]), (1, [2]), (0, [1, 1, 0, 1, 0, 0, 1, 0, 0, 1, 0, 1, 1]), (1, [1]), (0, [1, 1, 0, 1, 0, 0, 1, 1]), (2, [1, 1, 0, 1, 0, 0]), (1, [0]), (0, [1, 1, 1])].map (toItem (Try.f46.body.getD .skip))) [(0, .pointer p), (2, .pointer (some ⟨t2, 0, none⟩)), (3, .pointer (some ⟨r, 0, none⟩)), (4, .int .i64 i), (5, .int .i64 j)] w) (p : Option Addr) (t2 r : Nat) (i j : Int) (w : World) (h : ip_IP_sorted.L2b p t2 r i j w N1 N2 R) :
    KW Try.prog 46 61 (ip_IP_sorted.RV R) ([(0, [1, 1, 0, 1, 0, 0, 1, 0, 0, 1, 0, 1, 0, 0, 0]), (2, [1, 1, 0, 1, 0, 0, 1, 0, 0, 1, 0, 1, 0, 0, 0]), (1, [2]), (0, [1, 1, 0, 1, 0, 0, 1, 0, 0, 1, 0, 1, 1]), (1, [1]), (0, [1, 1, 0, 1, 0, 0, 1, 1]), (2, [1, 1, 0, 1, 0, 0]), (1, [0]), (0, [1, 1, 1])].map (toItem (Try.f46.body.getD .skip))) [(0, .pointer p), (2, .pointer (some ⟨t2, 0, none⟩)), (3, .pointer (some ⟨r, 0, none⟩)), (4, .int .i64 i), (5, .int .i64 j)] w := by
  exact block_spec Try.func46 Try.mixed (stops_cons (fun σ w h => by
      obtain ⟨p_, e0, h⟩ := dP_elim h
      obtain ⟨t2_, e1, h⟩ := dK_elim h
      obtain ⟨r_, e2, h⟩ := dK_elim h
      obtain ⟨i_, e3, h⟩ := dI_elim h
      obtain ⟨j_, e4, h⟩ := dI_elim h
      obtain ⟨t41_, e5, h⟩ := dB_elim h
      exact (ip_IP_sorted.B1_sound hN1 hN2 p_ t2_ r_ i_ j_ t41_ w h).weaken (Sub.cons (Sub.cons (Sub.cons (Sub.cons (Sub.cons (Sub.cons (Sub.nil _) e5) e4) e3) e2) e1) e0)) stops_nil) (Eq.mp (ip_IP_sorted.L2b_eq p t2 r i j w N1 N2 R (fun p_ t2_ r_ i_ j_ t41_ w => ip_IP_sorted.B1 p_ t2_ r_ i_ j_ t41_ w N1 N2 R)) h)
def ip_IP_sorted.L2 (p : Option Addr) (t2 r : Nat) (i j : Int) (w : World) (N1 : Option Addr → Nat → Nat → Int → World → Prop) (R : Int → Int → Int → Int → World → Prop) : Prop :=
  ∃ (I : Nat → Option Addr → Nat → Nat → Int → Int → World → Prop) (m : Nat), I m p t2 r i j w ∧ ∀ m p t2 r i j w, I m p t2 r i j w → ip_IP_sorted.L2b p t2 r i j w N1 (fun p' t2' r' i' j' w' => ∃ m', m' < m ∧ I m' p' t2' r' i' j' w') R
theorem ip_IP_sorted.L2_sound {R : Int → Int → Int → Int → World → Prop} {N1 : Option Addr → Nat → Nat → Int → World → Prop} (hN1 : ∀ p t2 r i w, N1 p t2 r i w → KW Try.prog 46 61 (ip_IP_sorted.RV R) ([(0, [1, 1, 0, 1, 0, 0]), (2, [1, 1, 0, 1, 0, 0]), (1, [0]), (0, [1, 1, 1])].map (toItem (Try.f46.body.getD .skip))) [(0, .pointer p), (2, .pointer (some ⟨t2, 0, none⟩)), (3, .pointer (some ⟨r, 0, none⟩)), (4, .int .i64 i)] w) (p : Option Addr) (t2 r : Nat) (i j : Int) (w : World) (h : ip_IP_sorted.L2 p t2 r i j w N1 R) :
    KW Try.prog 46 61 (ip_IP_sorted.RV R) ([(0, [1, 1, 0, 1, 0, 0, 1, 0, 0, 1, 0, 1, 0, 0, 0]), (2, [1, 1, 0, 1, 0, 0, 1, 0, 0, 1, 0, 1, 0, 0, 0]), (1, [2]), (0, [1, 1, 0, 1, 0, 0, 1, 0, 0, 1, 0, 1, 1]), (1, [1]), (0, [1, 1, 0, 1, 0, 0, 1, 1]), (2, [1, 1, 0, 1, 0, 0]), (1, [0]), (0, [1, 1, 1])].map (toItem (Try.f46.body.getD .skip))) [(0, .pointer p), (2, .pointer (some ⟨t2, 0, none⟩)), (3, .pointer (some ⟨r, 0, none⟩)), (4, .int .i64 i), (5, .int .i64 j)] w := by
  obtain ⟨I, m, h0, hr⟩ := h
  refine KW.loop (fun m σ w => ∃ (p : Option Addr) (t2 r : Nat) (i j : Int), σ = [(0, .pointer p), (2, .pointer (some ⟨t2, 0, none⟩)), (3, .pointer (some ⟨r, 0, none⟩)), (4, .int .i64 i), (5, .int .i64 j)] ∧ I m p t2 r i j w) ?_ m _ w ⟨p, t2, r, i, j, rfl, h0⟩
  rintro m ih σ w ⟨p, t2, r, i, j, rfl, hI⟩
  exact ip_IP_sorted.L2b_sound hN1 (N2 := fun p' t2' r' i' j' w' => ∃ m', m' < m ∧ I m' p' t2' r' i' j' w') (fun p' t2' r' i' j' w' hx => by obtain ⟨m', hlt, hI'⟩ := hx; exact ih m' hlt _ w' ⟨p', t2', r', i', j', rfl, hI'⟩) p t2 r i j w (hr m p t2 r i j w hI)
def ip_IP_sorted.L1b (p : Option Addr) (t2 r : Nat) (i : Int) (w : World)  (N1 : Option Addr → Nat → Nat → Int → World → Prop) (R : Int → Int → Int → Int → World → Prop) : Prop :=
  Bm (decide (i < (3 : Int))) (
    Pn p fun a =>
    (0 ≤ i ∧ i < ((3 : Nat) : Int)) ∧
    LdB (Addr.add (a.add 3) (i.toNat * 45)) w fun x16 =>
    Bm x16 (
      LdI .i64 ⟨r, 3, none⟩ w fun x18 =>
      ip_IP_sorted.L2 p t2 r i x18 w N1 R) (
      N1 p t2 r (IntKind.i64.wrap (i + (1 : Int))) w)) (
    LdI .i64 ⟨r, 0, none⟩ w fun x60_0 =>
    LdI .i64 ⟨r, 1, none⟩ w fun x60_1 =>
    LdI .i64 ⟨r, 2, none⟩ w fun x60_2 =>
    LdI .i64 ⟨r, 3, none⟩ w fun x60_3 =>
    Sts [.int .i64 x60_0, .int .i64 x60_1, .int .i64 x60_2, .int .i64 x60_3] ⟨t2, 0, none⟩ 0 w fun w1 =>
    LdI .i64 ⟨t2, 0, none⟩ w1 fun r_0 =>
    LdI .i64 ⟨t2, 1, none⟩ w1 fun r_1 =>
    LdI .i64 ⟨t2, 2, none⟩ w1 fun r_2 =>
    LdI .i64 ⟨t2, 3, none⟩ w1 fun r_3 =>
    R r_0 r_1 r_2 r_3 w1)
theorem ip_IP_sorted.L1b_eq (p : Option Addr) (t2 r : Nat) (i : Int) (w : World)  (N1 : Option Addr → Nat → Nat → Int → World → Prop) (R : Int → Int → Int → Int → World → Prop) (sL2 : Option Addr → Nat → Nat → Int → Int → World → Prop) :
    (
  Bm (decide (i < (3 : Int))) (
    Pn p fun a =>
    (0 ≤ i ∧ i < ((3 : Nat) : Int)) ∧
    LdB (Addr.add (a.add 3) (i.toNat * 45)) w fun x16 =>
    Bm x16 (
      LdI .i64 ⟨r, 3, none⟩ w fun x18 =>
      sL2 p t2 r i x18 w) (
      N1 p t2 r (IntKind.i64.wrap (i + (1 : Int))) w)) (
    LdI .i64 ⟨r, 0, none⟩ w fun x60_0 =>
    LdI .i64 ⟨r, 1, none⟩ w fun x60_1 =>
    LdI .i64 ⟨r, 2, none⟩ w fun x60_2 =>
    LdI .i64 ⟨r, 3, none⟩ w fun x60_3 =>
    Sts [.int .i64 x60_0, .int .i64 x60_1, .int .i64 x60_2, .int .i64 x60_3] ⟨t2, 0, none⟩ 0 w fun w1 =>
    LdI .i64 ⟨t2, 0, none⟩ w1 fun r_0 =>
    LdI .i64 ⟨t2, 1, none⟩ w1 fun r_1 =>
    LdI .i64 ⟨t2, 2, none⟩ w1 fun r_2 =>
    LdI .i64 ⟨t2, 3, none⟩ w1 fun r_3 =>
    R r_0 r_1 r_2 r_3 w1)) = kstep Try.prog 61 Try.f46.results.toList (Try.f46.body.getD .skip) (ip_IP_sorted.RV R) (kvc Try.prog 61 Try.f46.results.toList (Try.f46.body.getD .skip) (ip_IP_sorted.RV R) [([(0, [1, 1, 0, 1, 0, 0, 1, 0, 0, 1, 0, 1, 0, 0, 0]), (2, [1, 1, 0, 1, 0, 0, 1, 0, 0, 1, 0, 1, 0, 0, 0]), (1, [2]), (0, [1, 1, 0, 1, 0, 0, 1, 0, 0, 1, 0, 1, 1]), (1, [1]), (0, [1, 1, 0, 1, 0, 0, 1, 1]), (2, [1, 1, 0, 1, 0, 0]), (1, [0]), (0, [1, 1, 1])], fun σ w => dP (slotOf σ 0) fun p_ => dK (slotOf σ 2) fun t2_ => dK (slotOf σ 3) fun r_ => dI .i64 (slotOf σ 4) fun i_ => dI .i64 (slotOf σ 5) fun j_ => sL2 p_ t2_ r_ i_ j_ w),
    ([(0, [1, 1, 0, 1, 0, 0]), (2, [1, 1, 0, 1, 0, 0]), (1, [0]), (0, [1, 1, 1])], fun σ w => dP (slotOf σ 0) fun p_ => dK (slotOf σ 2) fun t2_ => dK (slotOf σ 3) fun r_ => dI .i64 (slotOf σ 4) fun i_ => N1 p_ t2_ r_ i_ w)] 2000) [(0, [1, 1, 0, 1, 0, 0]), (2, [1, 1, 0, 1, 0, 0]), (1, [0]), (0, [1, 1, 1])] [(0, .pointer p), (2, .pointer (some ⟨t2, 0, none⟩)), (3, .pointer (some ⟨r, 0, none⟩)), (4, .int .i64 i)] w := by kernel_rfl
theorem ip_IP_sorted.L1b_sound {R : Int → Int → Int → Int → World → Prop} {N1 : Option Addr → Nat → Nat → Int → World → Prop} (hN1 : ∀ p t2 r i w, N1 p t2 r i w → KW Try.prog 46 61 (ip_IP_sorted.RV R) ([(0, [1, 1, 0, 1, 0, 0]), (2, [1, 1, 0, 1, 0, 0]), (1, [0]), (0, [1, 1, 1])].map (toItem (Try.f46.body.getD .skip))) [(0, .pointer p), (2, .pointer (some ⟨t2, 0, none⟩)), (3, .pointer (some ⟨r, 0, none⟩)), (4, .int .i64 i)] w) (p : Option Addr) (t2 r : Nat) (i : Int) (w : World) (h : ip_IP_sorted.L1b p t2 r i w  N1 R) :
    KW Try.prog 46 61 (ip_IP_sorted.RV R) ([(0, [1, 1, 0, 1, 0, 0]), (2, [1, 1, 0, 1, 0, 0]), (1, [0]), (0, [1, 1, 1])].map (toItem (Try.f46.body.getD .skip))) [(0, .pointer p), (2, .pointer (some ⟨t2, 0, none⟩)), (3, .pointer (some ⟨r, 0, none⟩)), (4, .int .i64 i)] w := by
  exact block_spec Try.func46 Try.mixed (stops_cons (fun σ w h => by
      obtain ⟨p_, e0, h⟩ := dP_elim h
      obtain ⟨t2_, e1, h⟩ := dK_elim h
      obtain ⟨r_, e2, h⟩ := dK_elim h
      obtain ⟨i_, e3, h⟩ := dI_elim h
      obtain ⟨j_, e4, h⟩ := dI_elim h
      exact (ip_IP_sorted.L2_sound hN1 p_ t2_ r_ i_ j_ w h).weaken (Sub.cons (Sub.cons (Sub.cons (Sub.cons (Sub.cons (Sub.nil _) e4) e3) e2) e1) e0)) (stops_cons (fun σ w h => by
      obtain ⟨p_, e0, h⟩ := dP_elim h
      obtain ⟨t2_, e1, h⟩ := dK_elim h
      obtain ⟨r_, e2, h⟩ := dK_elim h
      obtain ⟨i_, e3, h⟩ := dI_elim h
      exact (hN1 p_ t2_ r_ i_ w h).weaken (Sub.cons (Sub.cons (Sub.cons (Sub.cons (Sub.nil _) e3) e2) e1) e0)) stops_nil)) (Eq.mp (ip_IP_sorted.L1b_eq p t2 r i w  N1 R (fun p_ t2_ r_ i_ j_ w => ip_IP_sorted.L2 p_ t2_ r_ i_ j_ w N1 R)) h)
def ip_IP_sorted.L1 (p : Option Addr) (t2 r : Nat) (i : Int) (w : World)  (R : Int → Int → Int → Int → World → Prop) : Prop :=
  ∃ (I : Nat → Option Addr → Nat → Nat → Int → World → Prop) (m : Nat), I m p t2 r i w ∧ ∀ m p t2 r i w, I m p t2 r i w → ip_IP_sorted.L1b p t2 r i w  (fun p' t2' r' i' w' => ∃ m', m' < m ∧ I m' p' t2' r' i' w') R
theorem ip_IP_sorted.L1_sound {R : Int → Int → Int → Int → World → Prop}  (p : Option Addr) (t2 r : Nat) (i : Int) (w : World) (h : ip_IP_sorted.L1 p t2 r i w  R) :
    KW Try.prog 46 61 (ip_IP_sorted.RV R) ([(0, [1, 1, 0, 1, 0, 0]), (2, [1, 1, 0, 1, 0, 0]), (1, [0]), (0, [1, 1, 1])].map (toItem (Try.f46.body.getD .skip))) [(0, .pointer p), (2, .pointer (some ⟨t2, 0, none⟩)), (3, .pointer (some ⟨r, 0, none⟩)), (4, .int .i64 i)] w := by
  obtain ⟨I, m, h0, hr⟩ := h
  refine KW.loop (fun m σ w => ∃ (p : Option Addr) (t2 r : Nat) (i : Int), σ = [(0, .pointer p), (2, .pointer (some ⟨t2, 0, none⟩)), (3, .pointer (some ⟨r, 0, none⟩)), (4, .int .i64 i)] ∧ I m p t2 r i w) ?_ m _ w ⟨p, t2, r, i, rfl, h0⟩
  rintro m ih σ w ⟨p, t2, r, i, rfl, hI⟩
  exact ip_IP_sorted.L1b_sound  (N1 := fun p' t2' r' i' w' => ∃ m', m' < m ∧ I m' p' t2' r' i' w') (fun p' t2' r' i' w' hx => by obtain ⟨m', hlt, hI'⟩ := hx; exact ih m' hlt _ w' ⟨p', t2', r', i', rfl, hI'⟩) p t2 r i w (hr m p t2 r i w hI)
def ip_IP_sorted.B0 (p : Option Addr) (w : World)   (R : Int → Int → Int → Int → World → Prop) : Prop :=
  New (.cells #[.int .i64 (0 : Int), .int .i64 (0 : Int), .int .i64 (0 : Int), .int .i64 (0 : Int)] 89) w fun b2 w1 =>
  New (.cells #[.int .i64 (0 : Int), .int .i64 (0 : Int), .int .i64 (0 : Int), .int .i64 (0 : Int)] 89) w1 fun r_ w2 =>
  ip_IP_sorted.L1 p b2 r_ (0 : Int) w2  R
theorem ip_IP_sorted.B0_eq (p : Option Addr) (w : World)   (R : Int → Int → Int → Int → World → Prop) (sL1 : Option Addr → Nat → Nat → Int → World → Prop) :
    (
  New (.cells #[.int .i64 (0 : Int), .int .i64 (0 : Int), .int .i64 (0 : Int), .int .i64 (0 : Int)] 89) w fun b2 w1 =>
  New (.cells #[.int .i64 (0 : Int), .int .i64 (0 : Int), .int .i64 (0 : Int), .int .i64 (0 : Int)] 89) w1 fun r_ w2 =>
  sL1 p b2 r_ (0 : Int) w2) = kstep Try.prog 61 Try.f46.results.toList (Try.f46.body.getD .skip) (ip_IP_sorted.RV R) (kvc Try.prog 61 Try.f46.results.toList (Try.f46.body.getD .skip) (ip_IP_sorted.RV R) [([(0, [1, 1, 0, 1, 0, 0]), (2, [1, 1, 0, 1, 0, 0]), (1, [0]), (0, [1, 1, 1])], fun σ w => dP (slotOf σ 0) fun p_ => dK (slotOf σ 2) fun t2_ => dK (slotOf σ 3) fun r_ => dI .i64 (slotOf σ 4) fun i_ => sL1 p_ t2_ r_ i_ w)] 2000) [(0, [])] [(0, .pointer p)] w := by kernel_rfl
theorem ip_IP_sorted.B0_sound {R : Int → Int → Int → Int → World → Prop}  (p : Option Addr) (w : World) (h : ip_IP_sorted.B0 p w   R) :
    KW Try.prog 46 61 (ip_IP_sorted.RV R) ([(0, [])].map (toItem (Try.f46.body.getD .skip))) [(0, .pointer p)] w := by
  exact block_spec Try.func46 Try.mixed (stops_cons (fun σ w h => by
      obtain ⟨p_, e0, h⟩ := dP_elim h
      obtain ⟨t2_, e1, h⟩ := dK_elim h
      obtain ⟨r_, e2, h⟩ := dK_elim h
      obtain ⟨i_, e3, h⟩ := dI_elim h
      exact (ip_IP_sorted.L1_sound  p_ t2_ r_ i_ w h).weaken (Sub.cons (Sub.cons (Sub.cons (Sub.cons (Sub.nil _) e3) e2) e1) e0)) stops_nil) (Eq.mp (ip_IP_sorted.B0_eq p w   R (fun p_ t2_ r_ i_ w => ip_IP_sorted.L1 p_ t2_ r_ i_ w  R)) h)
theorem ip_IP_sorted.sound (p : Option Addr) (w : World) (R : Int → Int → Int → Int → World → Prop) (h : ip_IP_sorted.B0 p w R) : ip_IP_sorted.Call p w R := by
  have hc := calls_of_block (args := #[.pointer p]) Try.func46 (body := (Try.f46.body.getD .skip)) (by kernel_rfl) (by kernel_rfl) (args_slot _) (ip_IP_sorted.B0_sound p w h)
  exact hc.mono fun e w' he => by
    obtain ⟨v, rfl, hv⟩ := he
    exact ip_IP_sorted.RV_elim hv
def ip_count.B1 (held n k : Int) (w : World) (N1 : Int → Int → Int → World → Prop)  (R : Int → World → Prop) : Prop :=
  N1 held n (IntKind.i64.wrap (k + (1 : Int))) w
theorem ip_count.B1_eq (held n k : Int) (w : World) (N1 : Int → Int → Int → World → Prop)  (R : Int → World → Prop)  :
    (
  N1 held n (IntKind.i64.wrap (k + (1 : Int))) w) = kstep Try.prog 18 Try.f47.results.toList (Try.f47.body.getD .skip) (ip_count.RV R) (kvc Try.prog 18 Try.f47.results.toList (Try.f47.body.getD .skip) (ip_count.RV R) [([(0, [1, 1, 0, 1, 0, 0]), (2, [1, 1, 0, 1, 0, 0]), (1, [0]), (0, [1, 1, 1])], fun σ w => dI .u64 (slotOf σ 0) fun held_ => dI .i64 (slotOf σ 3) fun n_ => dI .i64 (slotOf σ 4) fun k_ => N1 held_ n_ k_ w)] 2000) [(0, [1, 1, 0, 1, 0, 0, 1, 1]), (2, [1, 1, 0, 1, 0, 0]), (1, [0]), (0, [1, 1, 1])] [(0, .int .u64 held), (3, .int .i64 n), (4, .int .i64 k)] w := by kernel_rfl
theorem ip_count.B1_sound {R : Int → World → Prop} {N1 : Int → Int → Int → World → Prop} (hN1 : ∀ held n k w, N1 held n k w → KW Try.prog 47 18 (ip_count.RV R) ([(0, [1, 1, 0, 1, 0, 0]), (2, [1, 1, 0, 1, 0, 0]), (1, [0]), (0, [1, 1, 1])].map (toItem (Try.f47.body.getD .skip))) [(0, .int .u64 held), (3, .int .i64 n), (4, .int .i64 k)] w) (held n k : Int) (w : World) (h : ip_count.B1 held n k w N1  R) :
    KW Try.prog 47 18 (ip_count.RV R) ([(0, [1, 1, 0, 1, 0, 0, 1, 1]), (2, [1, 1, 0, 1, 0, 0]), (1, [0]), (0, [1, 1, 1])].map (toItem (Try.f47.body.getD .skip))) [(0, .int .u64 held), (3, .int .i64 n), (4, .int .i64 k)] w := by
  exact block_spec Try.func47 Try.mixed (stops_cons (fun σ w h => by
      obtain ⟨held_, e0, h⟩ := dI_elim h
      obtain ⟨n_, e1, h⟩ := dI_elim h
      obtain ⟨k_, e2, h⟩ := dI_elim h
      exact (hN1 held_ n_ k_ w h).weaken (Sub.cons (Sub.cons (Sub.cons (Sub.nil _) e2) e1) e0)) stops_nil) (Eq.mp (ip_count.B1_eq held n k w N1  R ) h)
def ip_count.L1b (held n k : Int) (w : World)  (N1 : Int → Int → Int → World → Prop) (R : Int → World → Prop) : Prop :=
  Bm (decide (k < (40 : Int))) (
    0 ≤ (IntKind.u64.wrap k) ∧
    Bm ((IntKind.u64.wrap (BitVec.ofInt IntKind.u64.bits (held.fdiv (2 ^ (min (IntKind.u64.wrap k).toNat IntKind.u64.bits))) &&& BitVec.ofInt IntKind.u64.bits (1 : Int)).toNat) != (0 : Int)) (
      ip_count.B1 held (IntKind.i64.wrap (n + (1 : Int))) k w N1 R) (
      ip_count.B1 held n k w N1 R)) (
    R n w)
theorem ip_count.L1b_eq (held n k : Int) (w : World)  (N1 : Int → Int → Int → World → Prop) (R : Int → World → Prop) (sB1 : Int → Int → Int → World → Prop) :
    (
  Bm (decide (k < (40 : Int))) (
    0 ≤ (IntKind.u64.wrap k) ∧
    Bm ((IntKind.u64.wrap (BitVec.ofInt IntKind.u64.bits (held.fdiv (2 ^ (min (IntKind.u64.wrap k).toNat IntKind.u64.bits))) &&& BitVec.ofInt IntKind.u64.bits (1 : Int)).toNat) != (0 : Int)) (
      sB1 held (IntKind.i64.wrap (n + (1 : Int))) k w) (
      sB1 held n k w)) (
    R n w)) = kstep Try.prog 18 Try.f47.results.toList (Try.f47.body.getD .skip) (ip_count.RV R) (kvc Try.prog 18 Try.f47.results.toList (Try.f47.body.getD .skip) (ip_count.RV R) [([(0, [1, 1, 0, 1, 0, 0, 1, 1]), (2, [1, 1, 0, 1, 0, 0]), (1, [0]), (0, [1, 1, 1])], fun σ w => dI .u64 (slotOf σ 0) fun held_ => dI .i64 (slotOf σ 3) fun n_ => dI .i64 (slotOf σ 4) fun k_ => sB1 held_ n_ k_ w)] 2000) [(0, [1, 1, 0, 1, 0, 0]), (2, [1, 1, 0, 1, 0, 0]), (1, [0]), (0, [1, 1, 1])] [(0, .int .u64 held), (3, .int .i64 n), (4, .int .i64 k)] w := by kernel_rfl
theorem ip_count.L1b_sound {R : Int → World → Prop} {N1 : Int → Int → Int → World → Prop} (hN1 : ∀ held n k w, N1 held n k w → KW Try.prog 47 18 (ip_count.RV R) ([(0, [1, 1, 0, 1, 0, 0]), (2, [1, 1, 0, 1, 0, 0]), (1, [0]), (0, [1, 1, 1])].map (toItem (Try.f47.body.getD .skip))) [(0, .int .u64 held), (3, .int .i64 n), (4, .int .i64 k)] w) (held n k : Int) (w : World) (h : ip_count.L1b held n k w  N1 R) :
    KW Try.prog 47 18 (ip_count.RV R) ([(0, [1, 1, 0, 1, 0, 0]), (2, [1, 1, 0, 1, 0, 0]), (1, [0]), (0, [1, 1, 1])].map (toItem (Try.f47.body.getD .skip))) [(0, .int .u64 held), (3, .int .i64 n), (4, .int .i64 k)] w := by
  exact block_spec Try.func47 Try.mixed (stops_cons (fun σ w h => by
      obtain ⟨held_, e0, h⟩ := dI_elim h
      obtain ⟨n_, e1, h⟩ := dI_elim h
      obtain ⟨k_, e2, h⟩ := dI_elim h
      exact (ip_count.B1_sound hN1 held_ n_ k_ w h).weaken (Sub.cons (Sub.cons (Sub.cons (Sub.nil _) e2) e1) e0)) stops_nil) (Eq.mp (ip_count.L1b_eq held n k w  N1 R (fun held_ n_ k_ w => ip_count.B1 held_ n_ k_ w N1 R)) h)
def ip_count.L1 (held n k : Int) (w : World)  (R : Int → World → Prop) : Prop :=
  ∃ (I : Nat → Int → Int → Int → World → Prop) (m : Nat), I m held n k w ∧ ∀ m held n k w, I m held n k w → ip_count.L1b held n k w  (fun held' n' k' w' => ∃ m', m' < m ∧ I m' held' n' k' w') R
theorem ip_count.L1_sound {R : Int → World → Prop}  (held n k : Int) (w : World) (h : ip_count.L1 held n k w  R) :
    KW Try.prog 47 18 (ip_count.RV R) ([(0, [1, 1, 0, 1, 0, 0]), (2, [1, 1, 0, 1, 0, 0]), (1, [0]), (0, [1, 1, 1])].map (toItem (Try.f47.body.getD .skip))) [(0, .int .u64 held), (3, .int .i64 n), (4, .int .i64 k)] w := by
  obtain ⟨I, m, h0, hr⟩ := h
  refine KW.loop (fun m σ w => ∃ (held n k : Int), σ = [(0, .int .u64 held), (3, .int .i64 n), (4, .int .i64 k)] ∧ I m held n k w) ?_ m _ w ⟨held, n, k, rfl, h0⟩
  rintro m ih σ w ⟨held, n, k, rfl, hI⟩
  exact ip_count.L1b_sound  (N1 := fun held' n' k' w' => ∃ m', m' < m ∧ I m' held' n' k' w') (fun held' n' k' w' hx => by obtain ⟨m', hlt, hI'⟩ := hx; exact ih m' hlt _ w' ⟨held', n', k', rfl, hI'⟩) held n k w (hr m held n k w hI)
def ip_count.B0 (held : Int) (w : World)   (R : Int → World → Prop) : Prop :=
  ip_count.L1 held (0 : Int) (0 : Int) w  R
theorem ip_count.B0_eq (held : Int) (w : World)   (R : Int → World → Prop) (sL1 : Int → Int → Int → World → Prop) :
    (
  sL1 held (0 : Int) (0 : Int) w) = kstep Try.prog 18 Try.f47.results.toList (Try.f47.body.getD .skip) (ip_count.RV R) (kvc Try.prog 18 Try.f47.results.toList (Try.f47.body.getD .skip) (ip_count.RV R) [([(0, [1, 1, 0, 1, 0, 0]), (2, [1, 1, 0, 1, 0, 0]), (1, [0]), (0, [1, 1, 1])], fun σ w => dI .u64 (slotOf σ 0) fun held_ => dI .i64 (slotOf σ 3) fun n_ => dI .i64 (slotOf σ 4) fun k_ => sL1 held_ n_ k_ w)] 2000) [(0, [])] [(0, .int .u64 held)] w := by kernel_rfl
theorem ip_count.B0_sound {R : Int → World → Prop}  (held : Int) (w : World) (h : ip_count.B0 held w   R) :
    KW Try.prog 47 18 (ip_count.RV R) ([(0, [])].map (toItem (Try.f47.body.getD .skip))) [(0, .int .u64 held)] w := by
  exact block_spec Try.func47 Try.mixed (stops_cons (fun σ w h => by
      obtain ⟨held_, e0, h⟩ := dI_elim h
      obtain ⟨n_, e1, h⟩ := dI_elim h
      obtain ⟨k_, e2, h⟩ := dI_elim h
      exact (ip_count.L1_sound  held_ n_ k_ w h).weaken (Sub.cons (Sub.cons (Sub.cons (Sub.nil _) e2) e1) e0)) stops_nil) (Eq.mp (ip_count.B0_eq held w   R (fun held_ n_ k_ w => ip_count.L1 held_ n_ k_ w  R)) h)
theorem ip_count.sound (held : Int) (w : World) (R : Int → World → Prop) (h : ip_count.B0 held w R) : ip_count.Call held w R := by
  have hc := calls_of_block (args := #[.int .u64 held]) Try.func47 (body := (Try.f47.body.getD .skip)) (by kernel_rfl) (by kernel_rfl) (args_slot _) (ip_count.B0_sound held w h)
  exact hc.mono fun e w' he => by
    obtain ⟨v, rfl, hv⟩ := he
    exact ip_count.RV_elim hv
def ipm_IP_have.B1 (p : Option Addr) (i n k : Int) (w : World) (N1 : Option Addr → Int → Int → Int → World → Prop)  (R : Int → World → Prop) : Prop :=
  N1 p i n (IntKind.i64.wrap (k + (1 : Int))) w
theorem ipm_IP_have.B1_eq (p : Option Addr) (i n k : Int) (w : World) (N1 : Option Addr → Int → Int → Int → World → Prop)  (R : Int → World → Prop)  :
    (
  N1 p i n (IntKind.i64.wrap (k + (1 : Int))) w) = kstep Try.prog 26 Try.f48.results.toList (Try.f48.body.getD .skip) (ipm_IP_have.RV R) (kvc Try.prog 26 Try.f48.results.toList (Try.f48.body.getD .skip) (ipm_IP_have.RV R) [([(0, [1, 1, 0, 1, 0, 0]), (2, [1, 1, 0, 1, 0, 0]), (1, [0]), (0, [1, 1, 1])], fun σ w => dP (slotOf σ 0) fun p_ => dI .i64 (slotOf σ 1) fun i_ => dI .i64 (slotOf σ 5) fun n_ => dI .i64 (slotOf σ 6) fun k_ => N1 p_ i_ n_ k_ w)] 2000) [(0, [1, 1, 0, 1, 0, 0, 1, 1]), (2, [1, 1, 0, 1, 0, 0]), (1, [0]), (0, [1, 1, 1])] [(0, .pointer p), (1, .int .i64 i), (5, .int .i64 n), (6, .int .i64 k)] w := by kernel_rfl
theorem ipm_IP_have.B1_sound {R : Int → World → Prop} {N1 : Option Addr → Int → Int → Int → World → Prop} (hN1 : ∀ p i n k w, N1 p i n k w → KW Try.prog 48 26 (ipm_IP_have.RV R) ([(0, [1, 1, 0, 1, 0, 0]), (2, [1, 1, 0, 1, 0, 0]), (1, [0]), (0, [1, 1, 1])].map (toItem (Try.f48.body.getD .skip))) [(0, .pointer p), (1, .int .i64 i), (5, .int .i64 n), (6, .int .i64 k)] w) (p : Option Addr) (i n k : Int) (w : World) (h : ipm_IP_have.B1 p i n k w N1  R) :
    KW Try.prog 48 26 (ipm_IP_have.RV R) ([(0, [1, 1, 0, 1, 0, 0, 1, 1]), (2, [1, 1, 0, 1, 0, 0]), (1, [0]), (0, [1, 1, 1])].map (toItem (Try.f48.body.getD .skip))) [(0, .pointer p), (1, .int .i64 i), (5, .int .i64 n), (6, .int .i64 k)] w := by
  exact block_spec Try.func48 Try.mixed (stops_cons (fun σ w h => by
      obtain ⟨p_, e0, h⟩ := dP_elim h
      obtain ⟨i_, e1, h⟩ := dI_elim h
      obtain ⟨n_, e2, h⟩ := dI_elim h
      obtain ⟨k_, e3, h⟩ := dI_elim h
      exact (hN1 p_ i_ n_ k_ w h).weaken (Sub.cons (Sub.cons (Sub.cons (Sub.cons (Sub.nil _) e3) e2) e1) e0)) stops_nil) (Eq.mp (ipm_IP_have.B1_eq p i n k w N1  R ) h)
def ipm_IP_have.L1b (p : Option Addr) (i n k : Int) (w : World)  (N1 : Option Addr → Int → Int → Int → World → Prop) (R : Int → World → Prop) : Prop :=
  Bm (decide (k < (40 : Int))) (
    Pn p fun a =>
    LdL (a.add 3) w fun x14_b x14_l x14_c =>
    Pn x14_b fun a_1 =>
    (0 ≤ i ∧ i < ((x14_l : Nat) : Int)) ∧
    LdL ((Addr.add a_1 (i.toNat * 6)).add 5) w fun x18_b x18_l x18_c =>
    Pn x18_b fun a_2 =>
    (0 ≤ k ∧ k < ((x18_l : Nat) : Int)) ∧
    LdI .i64 (Addr.add a_2 (k.toNat * 1)) w fun x21 =>
    Bm (decide (x21 ≥ (0 : Int))) (
      ipm_IP_have.B1 p i (IntKind.i64.wrap (n + (1 : Int))) k w N1 R) (
      ipm_IP_have.B1 p i n k w N1 R)) (
    R n w)
theorem ipm_IP_have.L1b_eq (p : Option Addr) (i n k : Int) (w : World)  (N1 : Option Addr → Int → Int → Int → World → Prop) (R : Int → World → Prop) (sB1 : Option Addr → Int → Int → Int → World → Prop) :
    (
  Bm (decide (k < (40 : Int))) (
    Pn p fun a =>
    LdL (a.add 3) w fun x14_b x14_l x14_c =>
    Pn x14_b fun a_1 =>
    (0 ≤ i ∧ i < ((x14_l : Nat) : Int)) ∧
    LdL ((Addr.add a_1 (i.toNat * 6)).add 5) w fun x18_b x18_l x18_c =>
    Pn x18_b fun a_2 =>
    (0 ≤ k ∧ k < ((x18_l : Nat) : Int)) ∧
    LdI .i64 (Addr.add a_2 (k.toNat * 1)) w fun x21 =>
    Bm (decide (x21 ≥ (0 : Int))) (
      sB1 p i (IntKind.i64.wrap (n + (1 : Int))) k w) (
      sB1 p i n k w)) (
    R n w)) = kstep Try.prog 26 Try.f48.results.toList (Try.f48.body.getD .skip) (ipm_IP_have.RV R) (kvc Try.prog 26 Try.f48.results.toList (Try.f48.body.getD .skip) (ipm_IP_have.RV R) [([(0, [1, 1, 0, 1, 0, 0, 1, 1]), (2, [1, 1, 0, 1, 0, 0]), (1, [0]), (0, [1, 1, 1])], fun σ w => dP (slotOf σ 0) fun p_ => dI .i64 (slotOf σ 1) fun i_ => dI .i64 (slotOf σ 5) fun n_ => dI .i64 (slotOf σ 6) fun k_ => sB1 p_ i_ n_ k_ w)] 2000) [(0, [1, 1, 0, 1, 0, 0]), (2, [1, 1, 0, 1, 0, 0]), (1, [0]), (0, [1, 1, 1])] [(0, .pointer p), (1, .int .i64 i), (5, .int .i64 n), (6, .int .i64 k)] w := by kernel_rfl
theorem ipm_IP_have.L1b_sound {R : Int → World → Prop} {N1 : Option Addr → Int → Int → Int → World → Prop} (hN1 : ∀ p i n k w, N1 p i n k w → KW Try.prog 48 26 (ipm_IP_have.RV R) ([(0, [1, 1, 0, 1, 0, 0]), (2, [1, 1, 0, 1, 0, 0]), (1, [0]), (0, [1, 1, 1])].map (toItem (Try.f48.body.getD .skip))) [(0, .pointer p), (1, .int .i64 i), (5, .int .i64 n), (6, .int .i64 k)] w) (p : Option Addr) (i n k : Int) (w : World) (h : ipm_IP_have.L1b p i n k w  N1 R) :
    KW Try.prog 48 26 (ipm_IP_have.RV R) ([(0, [1, 1, 0, 1, 0, 0]), (2, [1, 1, 0, 1, 0, 0]), (1, [0]), (0, [1, 1, 1])].map (toItem (Try.f48.body.getD .skip))) [(0, .pointer p), (1, .int .i64 i), (5, .int .i64 n), (6, .int .i64 k)] w := by
  exact block_spec Try.func48 Try.mixed (stops_cons (fun σ w h => by
      obtain ⟨p_, e0, h⟩ := dP_elim h
      obtain ⟨i_, e1, h⟩ := dI_elim h
      obtain ⟨n_, e2, h⟩ := dI_elim h
      obtain ⟨k_, e3, h⟩ := dI_elim h
      exact (ipm_IP_have.B1_sound hN1 p_ i_ n_ k_ w h).weaken (Sub.cons (Sub.cons (Sub.cons (Sub.cons (Sub.nil _) e3) e2) e1) e0)) stops_nil) (Eq.mp (ipm_IP_have.L1b_eq p i n k w  N1 R (fun p_ i_ n_ k_ w => ipm_IP_have.B1 p_ i_ n_ k_ w N1 R)) h)
def ipm_IP_have.L1 (p : Option Addr) (i n k : Int) (w : World)  (R : Int → World → Prop) : Prop :=
  ∃ (I : Nat → Option Addr → Int → Int → Int → World → Prop) (m : Nat), I m p i n k w ∧ ∀ m p i n k w, I m p i n k w → ipm_IP_have.L1b p i n k w  (fun p' i' n' k' w' => ∃ m', m' < m ∧ I m' p' i' n' k' w') R
theorem ipm_IP_have.L1_sound {R : Int → World → Prop}  (p : Option Addr) (i n k : Int) (w : World) (h : ipm_IP_have.L1 p i n k w  R) :
    KW Try.prog 48 26 (ipm_IP_have.RV R) ([(0, [1, 1, 0, 1, 0, 0]), (2, [1, 1, 0, 1, 0, 0]), (1, [0]), (0, [1, 1, 1])].map (toItem (Try.f48.body.getD .skip))) [(0, .pointer p), (1, .int .i64 i), (5, .int .i64 n), (6, .int .i64 k)] w := by
  obtain ⟨I, m, h0, hr⟩ := h
  refine KW.loop (fun m σ w => ∃ (p : Option Addr) (i n k : Int), σ = [(0, .pointer p), (1, .int .i64 i), (5, .int .i64 n), (6, .int .i64 k)] ∧ I m p i n k w) ?_ m _ w ⟨p, i, n, k, rfl, h0⟩
  rintro m ih σ w ⟨p, i, n, k, rfl, hI⟩
  exact ipm_IP_have.L1b_sound  (N1 := fun p' i' n' k' w' => ∃ m', m' < m ∧ I m' p' i' n' k' w') (fun p' i' n' k' w' hx => by obtain ⟨m', hlt, hI'⟩ := hx; exact ih m' hlt _ w' ⟨p', i', n', k', rfl, hI'⟩) p i n k w (hr m p i n k w hI)
def ipm_IP_have.B0 (p : Option Addr) (i : Int) (w : World)   (R : Int → World → Prop) : Prop :=
  ipm_IP_have.L1 p i (0 : Int) (0 : Int) w  R
theorem ipm_IP_have.B0_eq (p : Option Addr) (i : Int) (w : World)   (R : Int → World → Prop) (sL1 : Option Addr → Int → Int → Int → World → Prop) :
    (
  sL1 p i (0 : Int) (0 : Int) w) = kstep Try.prog 26 Try.f48.results.toList (Try.f48.body.getD .skip) (ipm_IP_have.RV R) (kvc Try.prog 26 Try.f48.results.toList (Try.f48.body.getD .skip) (ipm_IP_have.RV R) [([(0, [1, 1, 0, 1, 0, 0]), (2, [1, 1, 0, 1, 0, 0]), (1, [0]), (0, [1, 1, 1])], fun σ w => dP (slotOf σ 0) fun p_ => dI .i64 (slotOf σ 1) fun i_ => dI .i64 (slotOf σ 5) fun n_ => dI .i64 (slotOf σ 6) fun k_ => sL1 p_ i_ n_ k_ w)] 2000) [(0, [])] [(0, .pointer p), (1, .int .i64 i)] w := by kernel_rfl
theorem ipm_IP_have.B0_sound {R : Int → World → Prop}  (p : Option Addr) (i : Int) (w : World) (h : ipm_IP_have.B0 p i w   R) :
    KW Try.prog 48 26 (ipm_IP_have.RV R) ([(0, [])].map (toItem (Try.f48.body.getD .skip))) [(0, .pointer p), (1, .int .i64 i)] w := by
  exact block_spec Try.func48 Try.mixed (stops_cons (fun σ w h => by
      obtain ⟨p_, e0, h⟩ := dP_elim h
      obtain ⟨i_, e1, h⟩ := dI_elim h
      obtain ⟨n_, e2, h⟩ := dI_elim h
      obtain ⟨k_, e3, h⟩ := dI_elim h
      exact (ipm_IP_have.L1_sound  p_ i_ n_ k_ w h).weaken (Sub.cons (Sub.cons (Sub.cons (Sub.cons (Sub.nil _) e3) e2) e1) e0)) stops_nil) (Eq.mp (ipm_IP_have.B0_eq p i w   R (fun p_ i_ n_ k_ w => ipm_IP_have.L1 p_ i_ n_ k_ w  R)) h)
theorem ipm_IP_have.sound (p : Option Addr) (i : Int) (w : World) (R : Int → World → Prop) (h : ipm_IP_have.B0 p i w R) : ipm_IP_have.Call p i w R := by
  have hc := calls_of_block (args := #[.pointer p, .int .i64 i]) Try.func48 (body := (Try.f48.body.getD .skip)) (by kernel_rfl) (by kernel_rfl) (args_slot _) (ipm_IP_have.B0_sound p i w h)
  exact hc.mono fun e w' he => by
    obtain ⟨v, rfl, hv⟩ := he
    exact ipm_IP_have.RV_elim hv
def ip_below.B0 (n : Int) (w : World)   (R : Int → World → Prop) : Prop :=
  0 ≤ (IntKind.u64.wrap n) ∧
  R (IntKind.u64.wrap ((IntKind.u64.wrap ((1 : Int) * 2 ^ (min (IntKind.u64.wrap n).toNat IntKind.u64.bits))) - (1 : Int))) w
theorem ip_below.B0_eq (n : Int) (w : World)   (R : Int → World → Prop)  :
    (
  0 ≤ (IntKind.u64.wrap n) ∧
  R (IntKind.u64.wrap ((IntKind.u64.wrap ((1 : Int) * 2 ^ (min (IntKind.u64.wrap n).toNat IntKind.u64.bits))) - (1 : Int))) w) = kstep Try.prog 7 Try.f49.results.toList (Try.f49.body.getD .skip) (ip_below.RV R) (kvc Try.prog 7 Try.f49.results.toList (Try.f49.body.getD .skip) (ip_below.RV R) [] 2000) [(0, [])] [(0, .int .i64 n)] w := by kernel_rfl
theorem ip_below.B0_sound {R : Int → World → Prop}  (n : Int) (w : World) (h : ip_below.B0 n w   R) :
    KW Try.prog 49 7 (ip_below.RV R) ([(0, [])].map (toItem (Try.f49.body.getD .skip))) [(0, .int .i64 n)] w := by
  exact block_spec Try.func49 Try.mixed stops_nil (Eq.mp (ip_below.B0_eq n w   R ) h)
theorem ip_below.sound (n : Int) (w : World) (R : Int → World → Prop) (h : ip_below.B0 n w R) : ip_below.Call n w R := by
  have hc := calls_of_block (args := #[.int .i64 n]) Try.func49 (body := (Try.f49.body.getD .skip)) (by kernel_rfl) (by kernel_rfl) (args_slot _) (ip_below.B0_sound n w h)
  exact hc.mono fun e w' he => by
    obtain ⟨v, rfl, hv⟩ := he
    exact ip_below.RV_elim hv
def ip_packet.B0 (proto src dst id0 offmore : Int) (payload_b : Option Addr) (payload_l payload_c : Nat) (w : World)   (R : Option Addr → Nat → Nat → World → Prop) : Prop :=
  Make 5 (.int .u8 (0 : Int)) 1 1 (IntKind.i64.wrap ((8 : Int) + ((payload_l : Nat) : Int))) (IntKind.i64.wrap ((8 : Int) + ((payload_l : Nat) : Int))) w fun b17 w1 =>
  (0 ≤ (0 : Int) ∧ (0 : Int) < (((IntKind.i64.wrap ((8 : Int) + ((payload_l : Nat) : Int))).toNat : Nat) : Int)) ∧
  Sts [.int .u8 (IntKind.u8.wrap proto)] ⟨b17, 0, none⟩ 0 w1 fun w2 =>
  (0 ≤ (1 : Int) ∧ (1 : Int) < (((IntKind.i64.wrap ((8 : Int) + ((payload_l : Nat) : Int))).toNat : Nat) : Int)) ∧
  Sts [.int .u8 (8 : Int)] ⟨b17, 1, none⟩ 0 w2 fun w3 =>
  (0 ≤ (2 : Int) ∧ (2 : Int) < (((IntKind.i64.wrap ((8 : Int) + ((payload_l : Nat) : Int))).toNat : Nat) : Int)) ∧
  Sts [.int .u8 (IntKind.u8.wrap src)] ⟨b17, 2, none⟩ 0 w3 fun w4 =>
  (0 ≤ (3 : Int) ∧ (3 : Int) < (((IntKind.i64.wrap ((8 : Int) + ((payload_l : Nat) : Int))).toNat : Nat) : Int)) ∧
  Sts [.int .u8 (IntKind.u8.wrap dst)] ⟨b17, 3, none⟩ 0 w4 fun w5 =>
  (0 ≤ (4 : Int) ∧ (4 : Int) < (((IntKind.i64.wrap ((8 : Int) + ((payload_l : Nat) : Int))).toNat : Nat) : Int)) ∧
  Sts [.int .u8 (IntKind.u8.wrap id0)] ⟨b17, 4, none⟩ 0 w5 fun w6 =>
  (0 ≤ (5 : Int) ∧ (5 : Int) < (((IntKind.i64.wrap ((8 : Int) + ((payload_l : Nat) : Int))).toNat : Nat) : Int)) ∧
  Sts [.int .u8 (IntKind.u8.wrap offmore)] ⟨b17, 5, none⟩ 0 w6 fun w7 =>
  (0 ≤ (6 : Int) ∧ (6 : Int) < (((IntKind.i64.wrap ((8 : Int) + ((payload_l : Nat) : Int))).toNat : Nat) : Int)) ∧
  Sts [.int .u8 (IntKind.u8.wrap ((payload_l : Nat) : Int))] ⟨b17, 6, none⟩ 0 w7 fun w8 =>
  ip_sumOf.Call (some ⟨b17, 0, none⟩) ((IntKind.i64.wrap ((8 : Int) + ((payload_l : Nat) : Int))).toNat) ((IntKind.i64.wrap ((8 : Int) + ((payload_l : Nat) : Int))).toNat) w8 fun r47 w9 =>
  (0 ≤ (7 : Int) ∧ (7 : Int) < (((IntKind.i64.wrap ((8 : Int) + ((payload_l : Nat) : Int))).toNat : Nat) : Int)) ∧
  Sts [.int .u8 r47] ⟨b17, 7, none⟩ 0 w9 fun w10 =>
  (0 ≤ (8 : Int) ∧ (8 : Int) ≤ (((IntKind.i64.wrap ((8 : Int) + ((payload_l : Nat) : Int))).toNat : Nat) : Int)) ∧
  Copy 1 (slBase (some (⟨b17, 0, none⟩ : Addr)) (8 : Int) (((IntKind.i64.wrap ((8 : Int) + ((payload_l : Nat) : Int))).toNat : Nat) : Int) 1) ((((IntKind.i64.wrap ((8 : Int) + ((payload_l : Nat) : Int))).toNat : Nat) : Int).toNat - (8 : Int).toNat) payload_b payload_l w10 fun n52 w11 =>
  R (some ⟨b17, 0, none⟩) ((IntKind.i64.wrap ((8 : Int) + ((payload_l : Nat) : Int))).toNat) ((IntKind.i64.wrap ((8 : Int) + ((payload_l : Nat) : Int))).toNat) w11
theorem ip_packet.B0_eq (proto src dst id0 offmore : Int) (payload_b : Option Addr) (payload_l payload_c : Nat) (w : World)   (R : Option Addr → Nat → Nat → World → Prop)  :
    (
  Make 5 (.int .u8 (0 : Int)) 1 1 (IntKind.i64.wrap ((8 : Int) + ((payload_l : Nat) : Int))) (IntKind.i64.wrap ((8 : Int) + ((payload_l : Nat) : Int))) w fun b17 w1 =>
  (0 ≤ (0 : Int) ∧ (0 : Int) < (((IntKind.i64.wrap ((8 : Int) + ((payload_l : Nat) : Int))).toNat : Nat) : Int)) ∧
  Sts [.int .u8 (IntKind.u8.wrap proto)] ⟨b17, 0, none⟩ 0 w1 fun w2 =>
  (0 ≤ (1 : Int) ∧ (1 : Int) < (((IntKind.i64.wrap ((8 : Int) + ((payload_l : Nat) : Int))).toNat : Nat) : Int)) ∧
  Sts [.int .u8 (8 : Int)] ⟨b17, 1, none⟩ 0 w2 fun w3 =>
  (0 ≤ (2 : Int) ∧ (2 : Int) < (((IntKind.i64.wrap ((8 : Int) + ((payload_l : Nat) : Int))).toNat : Nat) : Int)) ∧
  Sts [.int .u8 (IntKind.u8.wrap src)] ⟨b17, 2, none⟩ 0 w3 fun w4 =>
  (0 ≤ (3 : Int) ∧ (3 : Int) < (((IntKind.i64.wrap ((8 : Int) + ((payload_l : Nat) : Int))).toNat : Nat) : Int)) ∧
  Sts [.int .u8 (IntKind.u8.wrap dst)] ⟨b17, 3, none⟩ 0 w4 fun w5 =>
  (0 ≤ (4 : Int) ∧ (4 : Int) < (((IntKind.i64.wrap ((8 : Int) + ((payload_l : Nat) : Int))).toNat : Nat) : Int)) ∧
  Sts [.int .u8 (IntKind.u8.wrap id0)] ⟨b17, 4, none⟩ 0 w5 fun w6 =>
  (0 ≤ (5 : Int) ∧ (5 : Int) < (((IntKind.i64.wrap ((8 : Int) + ((payload_l : Nat) : Int))).toNat : Nat) : Int)) ∧
  Sts [.int .u8 (IntKind.u8.wrap offmore)] ⟨b17, 5, none⟩ 0 w6 fun w7 =>
  (0 ≤ (6 : Int) ∧ (6 : Int) < (((IntKind.i64.wrap ((8 : Int) + ((payload_l : Nat) : Int))).toNat : Nat) : Int)) ∧
  Sts [.int .u8 (IntKind.u8.wrap ((payload_l : Nat) : Int))] ⟨b17, 6, none⟩ 0 w7 fun w8 =>
  ip_sumOf.Call (some ⟨b17, 0, none⟩) ((IntKind.i64.wrap ((8 : Int) + ((payload_l : Nat) : Int))).toNat) ((IntKind.i64.wrap ((8 : Int) + ((payload_l : Nat) : Int))).toNat) w8 fun r47 w9 =>
  (0 ≤ (7 : Int) ∧ (7 : Int) < (((IntKind.i64.wrap ((8 : Int) + ((payload_l : Nat) : Int))).toNat : Nat) : Int)) ∧
  Sts [.int .u8 r47] ⟨b17, 7, none⟩ 0 w9 fun w10 =>
  (0 ≤ (8 : Int) ∧ (8 : Int) ≤ (((IntKind.i64.wrap ((8 : Int) + ((payload_l : Nat) : Int))).toNat : Nat) : Int)) ∧
  Copy 1 (slBase (some (⟨b17, 0, none⟩ : Addr)) (8 : Int) (((IntKind.i64.wrap ((8 : Int) + ((payload_l : Nat) : Int))).toNat : Nat) : Int) 1) ((((IntKind.i64.wrap ((8 : Int) + ((payload_l : Nat) : Int))).toNat : Nat) : Int).toNat - (8 : Int).toNat) payload_b payload_l w10 fun n52 w11 =>
  R (some ⟨b17, 0, none⟩) ((IntKind.i64.wrap ((8 : Int) + ((payload_l : Nat) : Int))).toNat) ((IntKind.i64.wrap ((8 : Int) + ((payload_l : Nat) : Int))).toNat) w11) = kstep Try.prog 54 Try.f50.results.toList (Try.f50.body.getD .skip) (ip_packet.RV R) (kvc Try.prog 54 Try.f50.results.toList (Try.f50.body.getD .skip) (ip_packet.RV R) [] 2000) [(0, [])] [(0, .int .i64 proto), (1, .int .i64 src), (2, .int .i64 dst), (3, .int .i64 id0), (4, .int .i64 offmore), (5, .slice payload_b payload_l payload_c)] w := by kernel_rfl
theorem ip_packet.B0_sound {R : Option Addr → Nat → Nat → World → Prop}  (proto src dst id0 offmore : Int) (payload_b : Option Addr) (payload_l payload_c : Nat) (w : World) (h : ip_packet.B0 proto src dst id0 offmore payload_b payload_l payload_c w   R) :
    KW Try.prog 50 54 (ip_packet.RV R) ([(0, [])].map (toItem (Try.f50.body.getD .skip))) [(0, .int .i64 proto), (1, .int .i64 src), (2, .int .i64 dst), (3, .int .i64 id0), (4, .int .i64 offmore), (5, .slice payload_b payload_l payload_c)] w := by
  exact block_spec Try.func50 Try.mixed stops_nil (Eq.mp (ip_packet.B0_eq proto src dst id0 offmore payload_b payload_l payload_c w   R ) h)
theorem ip_packet.sound (proto src dst id0 offmore : Int) (payload_b : Option Addr) (payload_l payload_c : Nat) (w : World) (R : Option Addr → Nat → Nat → World → Prop) (h : ip_packet.B0 proto src dst id0 offmore payload_b payload_l payload_c w R) : ip_packet.Call proto src dst id0 offmore payload_b payload_l payload_c w R := by
  have hc := calls_of_block (args := #[.int .i64 proto, .int .i64 src, .int .i64 dst, .int .i64 id0, .int .i64 offmore, .slice payload_b payload_l payload_c]) Try.func50 (body := (Try.f50.body.getD .skip)) (by kernel_rfl) (by kernel_rfl) (args_slot _) (ip_packet.B0_sound proto src dst id0 offmore payload_b payload_l payload_c w h)
  exact hc.mono fun e w' he => by
    obtain ⟨v, rfl, hv⟩ := he
    exact ip_packet.RV_elim hv
def ipm_headSum.L1b (h0_b : Option Addr) (h0_l h0_c : Nat) (s i : Int) (w : World)  (N1 : Option Addr → Nat → Nat → Int → Int → World → Prop) (R : Int → World → Prop) : Prop :=
  Bm (decide (i < (7 : Int))) (
    Pn h0_b fun a =>
    (0 ≤ i ∧ i < ((h0_l : Nat) : Int)) ∧
    LdI .u8 (Addr.add a (i.toNat * 1)) w fun x13 =>
    (256 : Int) ≠ 0 ∧
    N1 h0_b h0_l h0_c ((IntKind.i64.wrap (s + (IntKind.i64.wrap x13))).tmod (256 : Int)) (IntKind.i64.wrap (i + (1 : Int))) w) (
    R (IntKind.i64.wrap ((255 : Int) - s)) w)
theorem ipm_headSum.L1b_eq (h0_b : Option Addr) (h0_l h0_c : Nat) (s i : Int) (w : World)  (N1 : Option Addr → Nat → Nat → Int → Int → World → Prop) (R : Int → World → Prop)  :
    (
  Bm (decide (i < (7 : Int))) (
    Pn h0_b fun a =>
    (0 ≤ i ∧ i < ((h0_l : Nat) : Int)) ∧
    LdI .u8 (Addr.add a (i.toNat * 1)) w fun x13 =>
    (256 : Int) ≠ 0 ∧
    N1 h0_b h0_l h0_c ((IntKind.i64.wrap (s + (IntKind.i64.wrap x13))).tmod (256 : Int)) (IntKind.i64.wrap (i + (1 : Int))) w) (
    R (IntKind.i64.wrap ((255 : Int) - s)) w)) = kstep Try.prog 19 Try.f51.results.toList (Try.f51.body.getD .skip) (ipm_headSum.RV R) (kvc Try.prog 19 Try.f51.results.toList (Try.f51.body.getD .skip) (ipm_headSum.RV R) [([(0, [1, 1, 0, 1, 0, 0]), (2, [1, 1, 0, 1, 0, 0]), (1, [0]), (0, [1, 1, 1])], fun σ w => dL (slotOf σ 0) fun h0_b_ h0_l_ h0_c_ => dI .i64 (slotOf σ 3) fun s_ => dI .i64 (slotOf σ 4) fun i_ => N1 h0_b_ h0_l_ h0_c_ s_ i_ w)] 2000) [(0, [1, 1, 0, 1, 0, 0]), (2, [1, 1, 0, 1, 0, 0]), (1, [0]), (0, [1, 1, 1])] [(0, .slice h0_b h0_l h0_c), (3, .int .i64 s), (4, .int .i64 i)] w := by kernel_rfl
theorem ipm_headSum.L1b_sound {R : Int → World → Prop} {N1 : Option Addr → Nat → Nat → Int → Int → World → Prop} (hN1 : ∀ h0_b h0_l h0_c s i w, N1 h0_b h0_l h0_c s i w → KW Try.prog 51 19 (ipm_headSum.RV R) ([(0, [1, 1, 0, 1, 0, 0]), (2, [1, 1, 0, 1, 0, 0]), (1, [0]), (0, [1, 1, 1])].map (toItem (Try.f51.body.getD .skip))) [(0, .slice h0_b h0_l h0_c), (3, .int .i64 s), (4, .int .i64 i)] w) (h0_b : Option Addr) (h0_l h0_c : Nat) (s i : Int) (w : World) (h : ipm_headSum.L1b h0_b h0_l h0_c s i w  N1 R) :
    KW Try.prog 51 19 (ipm_headSum.RV R) ([(0, [1, 1, 0, 1, 0, 0]), (2, [1, 1, 0, 1, 0, 0]), (1, [0]), (0, [1, 1, 1])].map (toItem (Try.f51.body.getD .skip))) [(0, .slice h0_b h0_l h0_c), (3, .int .i64 s), (4, .int .i64 i)] w := by
  exact block_spec Try.func51 Try.mixed (stops_cons (fun σ w h => by
      obtain ⟨h0_b_, h0_l_, h0_c_, e0, h⟩ := dL_elim h
      obtain ⟨s_, e1, h⟩ := dI_elim h
      obtain ⟨i_, e2, h⟩ := dI_elim h
      exact (hN1 h0_b_ h0_l_ h0_c_ s_ i_ w h).weaken (Sub.cons (Sub.cons (Sub.cons (Sub.nil _) e2) e1) e0)) stops_nil) (Eq.mp (ipm_headSum.L1b_eq h0_b h0_l h0_c s i w  N1 R ) h)
def ipm_headSum.L1 (h0_b : Option Addr) (h0_l h0_c : Nat) (s i : Int) (w : World)  (R : Int → World → Prop) : Prop :=
  ∃ (I : Nat → Option Addr → Nat → Nat → Int → Int → World → Prop) (m : Nat), I m h0_b h0_l h0_c s i w ∧ ∀ m h0_b h0_l h0_c s i w, I m h0_b h0_l h0_c s i w → ipm_headSum.L1b h0_b h0_l h0_c s i w  (fun h0_b' h0_l' h0_c' s' i' w' => ∃ m', m' < m ∧ I m' h0_b' h0_l' h0_c' s' i' w') R
theorem ipm_headSum.L1_sound {R : Int → World → Prop}  (h0_b : Option Addr) (h0_l h0_c : Nat) (s i : Int) (w : World) (h : ipm_headSum.L1 h0_b h0_l h0_c s i w  R) :
    KW Try.prog 51 19 (ipm_headSum.RV R) ([(0, [1, 1, 0, 1, 0, 0]), (2, [1, 1, 0, 1, 0, 0]), (1, [0]), (0, [1, 1, 1])].map (toItem (Try.f51.body.getD .skip))) [(0, .slice h0_b h0_l h0_c), (3, .int .i64 s), (4, .int .i64 i)] w := by
  obtain ⟨I, m, h0, hr⟩ := h
  refine KW.loop (fun m σ w => ∃ (h0_b : Option Addr) (h0_l h0_c : Nat) (s i : Int), σ = [(0, .slice h0_b h0_l h0_c), (3, .int .i64 s), (4, .int .i64 i)] ∧ I m h0_b h0_l h0_c s i w) ?_ m _ w ⟨h0_b, h0_l, h0_c, s, i, rfl, h0⟩
  rintro m ih σ w ⟨h0_b, h0_l, h0_c, s, i, rfl, hI⟩
  exact ipm_headSum.L1b_sound  (N1 := fun h0_b' h0_l' h0_c' s' i' w' => ∃ m', m' < m ∧ I m' h0_b' h0_l' h0_c' s' i' w') (fun h0_b' h0_l' h0_c' s' i' w' hx => by obtain ⟨m', hlt, hI'⟩ := hx; exact ih m' hlt _ w' ⟨h0_b', h0_l', h0_c', s', i', rfl, hI'⟩) h0_b h0_l h0_c s i w (hr m h0_b h0_l h0_c s i w hI)
def ipm_headSum.B0 (h0_b : Option Addr) (h0_l h0_c : Nat) (w : World)   (R : Int → World → Prop) : Prop :=
  ipm_headSum.L1 h0_b h0_l h0_c (0 : Int) (0 : Int) w  R
theorem ipm_headSum.B0_eq (h0_b : Option Addr) (h0_l h0_c : Nat) (w : World)   (R : Int → World → Prop) (sL1 : Option Addr → Nat → Nat → Int → Int → World → Prop) :
    (
  sL1 h0_b h0_l h0_c (0 : Int) (0 : Int) w) = kstep Try.prog 19 Try.f51.results.toList (Try.f51.body.getD .skip) (ipm_headSum.RV R) (kvc Try.prog 19 Try.f51.results.toList (Try.f51.body.getD .skip) (ipm_headSum.RV R) [([(0, [1, 1, 0, 1, 0, 0]), (2, [1, 1, 0, 1, 0, 0]), (1, [0]), (0, [1, 1, 1])], fun σ w => dL (slotOf σ 0) fun h0_b_ h0_l_ h0_c_ => dI .i64 (slotOf σ 3) fun s_ => dI .i64 (slotOf σ 4) fun i_ => sL1 h0_b_ h0_l_ h0_c_ s_ i_ w)] 2000) [(0, [])] [(0, .slice h0_b h0_l h0_c)] w := by kernel_rfl
theorem ipm_headSum.B0_sound {R : Int → World → Prop}  (h0_b : Option Addr) (h0_l h0_c : Nat) (w : World) (h : ipm_headSum.B0 h0_b h0_l h0_c w   R) :
    KW Try.prog 51 19 (ipm_headSum.RV R) ([(0, [])].map (toItem (Try.f51.body.getD .skip))) [(0, .slice h0_b h0_l h0_c)] w := by
  exact block_spec Try.func51 Try.mixed (stops_cons (fun σ w h => by
      obtain ⟨h0_b_, h0_l_, h0_c_, e0, h⟩ := dL_elim h
      obtain ⟨s_, e1, h⟩ := dI_elim h
      obtain ⟨i_, e2, h⟩ := dI_elim h
      exact (ipm_headSum.L1_sound  h0_b_ h0_l_ h0_c_ s_ i_ w h).weaken (Sub.cons (Sub.cons (Sub.cons (Sub.nil _) e2) e1) e0)) stops_nil) (Eq.mp (ipm_headSum.B0_eq h0_b h0_l h0_c w   R (fun h0_b_ h0_l_ h0_c_ s_ i_ w => ipm_headSum.L1 h0_b_ h0_l_ h0_c_ s_ i_ w  R)) h)
theorem ipm_headSum.sound (h0_b : Option Addr) (h0_l h0_c : Nat) (w : World) (R : Int → World → Prop) (h : ipm_headSum.B0 h0_b h0_l h0_c w R) : ipm_headSum.Call h0_b h0_l h0_c w R := by
  have hc := calls_of_block (args := #[.slice h0_b h0_l h0_c]) Try.func51 (body := (Try.f51.body.getD .skip)) (by kernel_rfl) (by kernel_rfl) (args_slot _) (ipm_headSum.B0_sound h0_b h0_l h0_c w h)
  exact hc.mono fun e w' he => by
    obtain ⟨v, rfl, hv⟩ := he
    exact ipm_headSum.RV_elim hv
def ip_sumOf.L1b (b_b : Option Addr) (b_l b_c : Nat) (s i : Int) (w : World)  (N1 : Option Addr → Nat → Nat → Int → Int → World → Prop) (R : Int → World → Prop) : Prop :=
  Bm (decide (i < (7 : Int))) (
    Pn b_b fun a =>
    (0 ≤ i ∧ i < ((b_l : Nat) : Int)) ∧
    LdI .u8 (Addr.add a (i.toNat * 1)) w fun x13 =>
    N1 b_b b_l b_c (IntKind.u8.wrap (s + x13)) (IntKind.i64.wrap (i + (1 : Int))) w) (
    R (IntKind.u8.wrap ((255 : Int) - s)) w)
theorem ip_sumOf.L1b_eq (b_b : Option Addr) (b_l b_c : Nat) (s i : Int) (w : World)  (N1 : Option Addr → Nat → Nat → Int → Int → World → Prop) (R : Int → World → Prop)  :
    (
  Bm (decide (i < (7 : Int))) (
    Pn b_b fun a =>
    (0 ≤ i ∧ i < ((b_l : Nat) : Int)) ∧
    LdI .u8 (Addr.add a (i.toNat * 1)) w fun x13 =>
    N1 b_b b_l b_c (IntKind.u8.wrap (s + x13)) (IntKind.i64.wrap (i + (1 : Int))) w) (
    R (IntKind.u8.wrap ((255 : Int) - s)) w)) = kstep Try.prog 17 Try.f52.results.toList (Try.f52.body.getD .skip) (ip_sumOf.RV R) (kvc Try.prog 17 Try.f52.results.toList (Try.f52.body.getD .skip) (ip_sumOf.RV R) [([(0, [1, 1, 0, 1, 0, 0]), (2, [1, 1, 0, 1, 0, 0]), (1, [0]), (0, [1, 1, 1])], fun σ w => dL (slotOf σ 0) fun b_b_ b_l_ b_c_ => dI .u8 (slotOf σ 3) fun s_ => dI .i64 (slotOf σ 4) fun i_ => N1 b_b_ b_l_ b_c_ s_ i_ w)] 2000) [(0, [1, 1, 0, 1, 0, 0]), (2, [1, 1, 0, 1, 0, 0]), (1, [0]), (0, [1, 1, 1])] [(0, .slice b_b b_l b_c), (3, .int .u8 s), (4, .int .i64 i)] w := by kernel_rfl
theorem ip_sumOf.L1b_sound {R : Int → World → Prop} {N1 : Option Addr → Nat → Nat → Int → Int → World → Prop} (hN1 : ∀ b_b b_l b_c s i w, N1 b_b b_l b_c s i w → KW Try.prog 52 17 (ip_sumOf.RV R) ([(0, [1, 1, 0, 1, 0, 0]), (2, [1, 1, 0, 1, 0, 0]), (1, [0]), (0, [1, 1, 1])].map (toItem (Try.f52.body.getD .skip))) [(0, .slice b_b b_l b_c), (3, .int .u8 s), (4, .int .i64 i)] w) (b_b : Option Addr) (b_l b_c : Nat) (s i : Int) (w : World) (h : ip_sumOf.L1b b_b b_l b_c s i w  N1 R) :
    KW Try.prog 52 17 (ip_sumOf.RV R) ([(0, [1, 1, 0, 1, 0, 0]), (2, [1, 1, 0, 1, 0, 0]), (1, [0]), (0, [1, 1, 1])].map (toItem (Try.f52.body.getD .skip))) [(0, .slice b_b b_l b_c), (3, .int .u8 s), (4, .int .i64 i)] w := by
  exact block_spec Try.func52 Try.mixed (stops_cons (fun σ w h => by
      obtain ⟨b_b_, b_l_, b_c_, e0, h⟩ := dL_elim h
      obtain ⟨s_, e1, h⟩ := dI_elim h
      obtain ⟨i_, e2, h⟩ := dI_elim h
      exact (hN1 b_b_ b_l_ b_c_ s_ i_ w h).weaken (Sub.cons (Sub.cons (Sub.cons (Sub.nil _) e2) e1) e0)) stops_nil) (Eq.mp (ip_sumOf.L1b_eq b_b b_l b_c s i w  N1 R ) h)
def ip_sumOf.L1 (b_b : Option Addr) (b_l b_c : Nat) (s i : Int) (w : World)  (R : Int → World → Prop) : Prop :=
  ∃ (I : Nat → Option Addr → Nat → Nat → Int → Int → World → Prop) (m : Nat), I m b_b b_l b_c s i w ∧ ∀ m b_b b_l b_c s i w, I m b_b b_l b_c s i w → ip_sumOf.L1b b_b b_l b_c s i w  (fun b_b' b_l' b_c' s' i' w' => ∃ m', m' < m ∧ I m' b_b' b_l' b_c' s' i' w') R
theorem ip_sumOf.L1_sound {R : Int → World → Prop}  (b_b : Option Addr) (b_l b_c : Nat) (s i : Int) (w : World) (h : ip_sumOf.L1 b_b b_l b_c s i w  R) :
    KW Try.prog 52 17 (ip_sumOf.RV R) ([(0, [1, 1, 0, 1, 0, 0]), (2, [1, 1, 0, 1, 0, 0]), (1, [0]), (0, [1, 1, 1])].map (toItem (Try.f52.body.getD .skip))) [(0, .slice b_b b_l b_c), (3, .int .u8 s), (4, .int .i64 i)] w := by
  obtain ⟨I, m, h0, hr⟩ := h
  refine KW.loop (fun m σ w => ∃ (b_b : Option Addr) (b_l b_c : Nat) (s i : Int), σ = [(0, .slice b_b b_l b_c), (3, .int .u8 s), (4, .int .i64 i)] ∧ I m b_b b_l b_c s i w) ?_ m _ w ⟨b_b, b_l, b_c, s, i, rfl, h0⟩
  rintro m ih σ w ⟨b_b, b_l, b_c, s, i, rfl, hI⟩
  exact ip_sumOf.L1b_sound  (N1 := fun b_b' b_l' b_c' s' i' w' => ∃ m', m' < m ∧ I m' b_b' b_l' b_c' s' i' w') (fun b_b' b_l' b_c' s' i' w' hx => by obtain ⟨m', hlt, hI'⟩ := hx; exact ih m' hlt _ w' ⟨b_b', b_l', b_c', s', i', rfl, hI'⟩) b_b b_l b_c s i w (hr m b_b b_l b_c s i w hI)
def ip_sumOf.B0 (b_b : Option Addr) (b_l b_c : Nat) (w : World)   (R : Int → World → Prop) : Prop :=
  ip_sumOf.L1 b_b b_l b_c (0 : Int) (0 : Int) w  R
theorem ip_sumOf.B0_eq (b_b : Option Addr) (b_l b_c : Nat) (w : World)   (R : Int → World → Prop) (sL1 : Option Addr → Nat → Nat → Int → Int → World → Prop) :
    (
  sL1 b_b b_l b_c (0 : Int) (0 : Int) w) = kstep Try.prog 17 Try.f52.results.toList (Try.f52.body.getD .skip) (ip_sumOf.RV R) (kvc Try.prog 17 Try.f52.results.toList (Try.f52.body.getD .skip) (ip_sumOf.RV R) [([(0, [1, 1, 0, 1, 0, 0]), (2, [1, 1, 0, 1, 0, 0]), (1, [0]), (0, [1, 1, 1])], fun σ w => dL (slotOf σ 0) fun b_b_ b_l_ b_c_ => dI .u8 (slotOf σ 3) fun s_ => dI .i64 (slotOf σ 4) fun i_ => sL1 b_b_ b_l_ b_c_ s_ i_ w)] 2000) [(0, [])] [(0, .slice b_b b_l b_c)] w := by kernel_rfl
theorem ip_sumOf.B0_sound {R : Int → World → Prop}  (b_b : Option Addr) (b_l b_c : Nat) (w : World) (h : ip_sumOf.B0 b_b b_l b_c w   R) :
    KW Try.prog 52 17 (ip_sumOf.RV R) ([(0, [])].map (toItem (Try.f52.body.getD .skip))) [(0, .slice b_b b_l b_c)] w := by
  exact block_spec Try.func52 Try.mixed (stops_cons (fun σ w h => by
      obtain ⟨b_b_, b_l_, b_c_, e0, h⟩ := dL_elim h
      obtain ⟨s_, e1, h⟩ := dI_elim h
      obtain ⟨i_, e2, h⟩ := dI_elim h
      exact (ip_sumOf.L1_sound  b_b_ b_l_ b_c_ s_ i_ w h).weaken (Sub.cons (Sub.cons (Sub.cons (Sub.nil _) e2) e1) e0)) stops_nil) (Eq.mp (ip_sumOf.B0_eq b_b b_l b_c w   R (fun b_b_ b_l_ b_c_ s_ i_ w => ip_sumOf.L1 b_b_ b_l_ b_c_ s_ i_ w  R)) h)
theorem ip_sumOf.sound (b_b : Option Addr) (b_l b_c : Nat) (w : World) (R : Int → World → Prop) (h : ip_sumOf.B0 b_b b_l b_c w R) : ip_sumOf.Call b_b b_l b_c w R := by
  have hc := calls_of_block (args := #[.slice b_b b_l b_c]) Try.func52 (body := (Try.f52.body.getD .skip)) (by kernel_rfl) (by kernel_rfl) (args_slot _) (ip_sumOf.B0_sound b_b b_l b_c w h)
  exact hc.mono fun e w' he => by
    obtain ⟨v, rfl, hv⟩ := he
    exact ip_sumOf.RV_elim hv
def api_CopyBytes.B0 (b_b : Option Addr) (b_l b_c : Nat) (w : World)   (R : Option Addr → Nat → Nat → World → Prop) : Prop :=
  Make 5 (.int .u8 (0 : Int)) 1 1 ((b_l : Nat) : Int) ((b_l : Nat) : Int) w fun b6 w1 =>
  Copy 1 (some ⟨b6, 0, none⟩) (((b_l : Nat) : Int).toNat) b_b b_l w1 fun n9 w2 =>
  R (some ⟨b6, 0, none⟩) (((b_l : Nat) : Int).toNat) (((b_l : Nat) : Int).toNat) w2
theorem api_CopyBytes.B0_eq (b_b : Option Addr) (b_l b_c : Nat) (w : World)   (R : Option Addr → Nat → Nat → World → Prop)  :
    (
  Make 5 (.int .u8 (0 : Int)) 1 1 ((b_l : Nat) : Int) ((b_l : Nat) : Int) w fun b6 w1 =>
  Copy 1 (some ⟨b6, 0, none⟩) (((b_l : Nat) : Int).toNat) b_b b_l w1 fun n9 w2 =>
  R (some ⟨b6, 0, none⟩) (((b_l : Nat) : Int).toNat) (((b_l : Nat) : Int).toNat) w2) = kstep Try.prog 11 Try.f53.results.toList (Try.f53.body.getD .skip) (api_CopyBytes.RV R) (kvc Try.prog 11 Try.f53.results.toList (Try.f53.body.getD .skip) (api_CopyBytes.RV R) [] 2000) [(0, [])] [(0, .slice b_b b_l b_c)] w := by kernel_rfl
theorem api_CopyBytes.B0_sound {R : Option Addr → Nat → Nat → World → Prop}  (b_b : Option Addr) (b_l b_c : Nat) (w : World) (h : api_CopyBytes.B0 b_b b_l b_c w   R) :
    KW Try.prog 53 11 (api_CopyBytes.RV R) ([(0, [])].map (toItem (Try.f53.body.getD .skip))) [(0, .slice b_b b_l b_c)] w := by
  exact block_spec Try.func53 Try.mixed stops_nil (Eq.mp (api_CopyBytes.B0_eq b_b b_l b_c w   R ) h)
theorem api_CopyBytes.sound (b_b : Option Addr) (b_l b_c : Nat) (w : World) (R : Option Addr → Nat → Nat → World → Prop) (h : api_CopyBytes.B0 b_b b_l b_c w R) : api_CopyBytes.Call b_b b_l b_c w R := by
  have hc := calls_of_block (args := #[.slice b_b b_l b_c]) Try.func53 (body := (Try.f53.body.getD .skip)) (by kernel_rfl) (by kernel_rfl) (args_slot _) (api_CopyBytes.B0_sound b_b b_l b_c w h)
  exact hc.mono fun e w' he => by
    obtain ⟨v, rfl, hv⟩ := he
    exact api_CopyBytes.RV_elim hv
end Go.Proofs.Qxb6500425a
