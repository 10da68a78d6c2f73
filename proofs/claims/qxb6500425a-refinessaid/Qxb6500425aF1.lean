import Derived.Test.Qxb6500425aSig
set_option maxRecDepth 100000
set_option linter.unusedVariables false
open Go.Vc
namespace Go.Proofs.Qxb6500425a
def iplaw_World_Untouched.L2b (w0 : Option Addr) (j i : Int) (w : World) (N1 : Option Addr → Int → World → Prop) (N2 : Option Addr → Int → Int → World → Prop) (R : Bool → World → Prop) : Prop :=
  Pn w0 fun a =>
  LdL (a.add 8) w fun x25_b x25_l x25_c =>
  Pn x25_b fun a_1 =>
  (0 ≤ j ∧ j < ((x25_l : Nat) : Int)) ∧
  LdL (Addr.add a_1 (j.toNat * 1)) w fun x28_b x28_l x28_c =>
  Bm (decide (i < ((x28_l : Nat) : Int))) (
    Pn w0 fun a_2 =>
    LdL (a_2.add 8) w fun x36_b x36_l x36_c =>
    Pn x36_b fun a_3 =>
    (0 ≤ j ∧ j < ((x36_l : Nat) : Int)) ∧
    LdL (Addr.add a_3 (j.toNat * 1)) w fun x39_b x39_l x39_c =>
    Pn x39_b fun a_4 =>
    (0 ≤ i ∧ i < ((x39_l : Nat) : Int)) ∧
    LdL (Addr.add a_4 (i.toNat * 1)) w fun x42_b x42_l x42_c =>
    Bm (!x42_b.isNone) (
      R false w) (
      N2 w0 j (IntKind.i64.wrap (i + (1 : Int))) w)) (
    N1 w0 (IntKind.i64.wrap (j + (1 : Int))) w)
theorem iplaw_World_Untouched.L2b_eq (w0 : Option Addr) (j i : Int) (w : World) (N1 : Option Addr → Int → World → Prop) (N2 : Option Addr → Int → Int → World → Prop) (R : Bool → World → Prop)  :
    (
  Pn w0 fun a =>
  LdL (a.add 8) w fun x25_b x25_l x25_c =>
  Pn x25_b fun a_1 =>
  (0 ≤ j ∧ j < ((x25_l : Nat) : Int)) ∧
  LdL (Addr.add a_1 (j.toNat * 1)) w fun x28_b x28_l x28_c =>
  Bm (decide (i < ((x28_l : Nat) : Int))) (
    Pn w0 fun a_2 =>
    LdL (a_2.add 8) w fun x36_b x36_l x36_c =>
    Pn x36_b fun a_3 =>
    (0 ≤ j ∧ j < ((x36_l : Nat) : Int)) ∧
    LdL (Addr.add a_3 (j.toNat * 1)) w fun x39_b x39_l x39_c =>
    Pn x39_b fun a_4 =>
    (0 ≤ i ∧ i < ((x39_l : Nat) : Int)) ∧
    LdL (Addr.add a_4 (i.toNat * 1)) w fun x42_b x42_l x42_c =>
    Bm (!x42_b.isNone) (
      R false w) (
      N2 w0 j (IntKind.i64.wrap (i + (1 : Int))) w)) (
    N1 w0 (IntKind.i64.wrap (j + (1 : Int))) w)) = kstep Try.prog 167 Try.f15.results.toList (Try.f15.body.getD .skip) (iplaw_World_Untouched.RV R) (kvc Try.prog 167 Try.f15.results.toList (Try.f15.body.getD .skip) (iplaw_World_Untouched.RV R) [([(0, [1, 0, 1, 0, 0, 1, 0, 0, 1, 0, 0]), (2, [1, 0, 1, 0, 0, 1, 0, 0, 1, 0, 0]), (1, [2]), (1, [1]), (0, [1, 0, 1, 0, 0, 1, 1]), (2, [1, 0, 1, 0, 0]), (1, [0]), (0, [1, 1])], fun σ w => dP (slotOf σ 0) fun w0_ => dI .i64 (slotOf σ 3) fun j_ => dI .i64 (slotOf σ 4) fun i_ => N2 w0_ j_ i_ w),
    ([(0, [1, 0, 1, 0, 0]), (2, [1, 0, 1, 0, 0]), (1, [0]), (0, [1, 1])], fun σ w => dP (slotOf σ 0) fun w0_ => dI .i64 (slotOf σ 3) fun j_ => N1 w0_ j_ w)] 2000) [(0, [1, 0, 1, 0, 0, 1, 0, 0, 1, 0, 0]), (2, [1, 0, 1, 0, 0, 1, 0, 0, 1, 0, 0]), (1, [2]), (1, [1]), (0, [1, 0, 1, 0, 0, 1, 1]), (2, [1, 0, 1, 0, 0]), (1, [0]), (0, [1, 1])] [(0, .pointer w0), (3, .int .i64 j), (4, .int .i64 i)] w := by kernel_rfl
theorem iplaw_World_Untouched.L2b_sound {R : Bool → World → Prop} {N1 : Option Addr → Int → World → Prop} (hN1 : ∀ w0 j w, N1 w0 j w → KW Try.prog 15 167 (iplaw_World_Untouched.RV R) ([(0, [1, 0, 1, 0, 0]), (2, [1, 0, 1, 0, 0]), (1, [0]), (0, [1, 1])].map (toItem (Try.f15.body.getD .skip))) [(0, .pointer w0), (3, .int .i64 j)] w) {N2 : Option Addr → Int → Int → World → Prop} (hN2 : ∀ w0 j i w, N2 w0 j i w → KW Try.prog 15 167 (iplaw_World_Untouched.RV R) ([(0, [1, 0, 1, 0, 0, 1, 0, 0, 1, 0, 0]), (2, [1, 0, 1, 0, 0, 1, 0, 0, 1, 0, 0]), (1, [2]), (1, [1]), (0, [1, 0, 1, 0, 0, 1, 1]), (2, [1, 0, 1, 0, 0]), (1, [0]), (0, [1, 1])].map (toItem (Try.f15.body.getD .skip))) [(0, .pointer w0), (3, .int .i64 j), (4, .int .i64 i)] w) (w0 : Option Addr) (j i : Int) (w : World) (h : iplaw_World_Untouched.L2b w0 j i w N1 N2 R) :
    KW Try.prog 15 167 (iplaw_World_Untouched.RV R) ([(0, [1, 0, 1, 0, 0, 1, 0, 0, 1, 0, 0]), (2, [1, 0, 1, 0, 0, 1, 0, 0, 1, 0, 0]), (1, [2]), (1, [1]), (0, [1, 0, 1, 0, 0, 1, 1]), (2, [1, 0, 1, 0, 0]), (1, [0]), (0, [1, 1])].map (toItem (Try.f15.body.getD .skip))) [(0, .pointer w0), (3, .int .i64 j), (4, .int .i64 i)] w := by
  exact block_spec Try.func15 Try.mixed (stops_cons (fun σ w h => by
      obtain ⟨w0_, e0, h⟩ := dP_elim h
      obtain ⟨j_, e1, h⟩ := dI_elim h
      obtain ⟨i_, e2, h⟩ := dI_elim h
      exact (hN2 w0_ j_ i_ w h).weaken (Sub.cons (Sub.cons (Sub.cons (Sub.nil _) e2) e1) e0)) (stops_cons (fun σ w h => by
      obtain ⟨w0_, e0, h⟩ := dP_elim h
      obtain ⟨j_, e1, h⟩ := dI_elim h
      exact (hN1 w0_ j_ w h).weaken (Sub.cons (Sub.cons (Sub.nil _) e1) e0)) stops_nil)) (Eq.mp (iplaw_World_Untouched.L2b_eq w0 j i w N1 N2 R ) h)
def iplaw_World_Untouched.L2 (w0 : Option Addr) (j i : Int) (w : World) (N1 : Option Addr → Int → World → Prop) (R : Bool → World → Prop) : Prop :=
  ∃ (I : Nat → Option Addr → Int → Int → World → Prop) (m : Nat), I m w0 j i w ∧ ∀ m w0 j i w, I m w0 j i w → iplaw_World_Untouched.L2b w0 j i w N1 (fun w0' j' i' w' => ∃ m', m' < m ∧ I m' w0' j' i' w') R
theorem iplaw_World_Untouched.L2_sound {R : Bool → World → Prop} {N1 : Option Addr → Int → World → Prop} (hN1 : ∀ w0 j w, N1 w0 j w → KW Try.prog 15 167 (iplaw_World_Untouched.RV R) ([(0, [1, 0, 1, 0, 0]), (2, [1, 0, 1, 0, 0]), (1, [0]), (0, [1, 1])].map (toItem (Try.f15.body.getD .skip))) [(0, .pointer w0), (3, .int .i64 j)] w) (w0 : Option Addr) (j i : Int) (w : World) (h : iplaw_World_Untouched.L2 w0 j i w N1 R) :
    KW Try.prog 15 167 (iplaw_World_Untouched.RV R) ([(0, [1, 0, 1, 0, 0, 1, 0, 0, 1, 0, 0]), (2, [1, 0, 1, 0, 0, 1, 0, 0, 1, 0, 0]), (1, [2]), (1, [1]), (0, [1, 0, 1, 0, 0, 1, 1]), (2, [1, 0, 1, 0, 0]), (1, [0]), (0, [1, 1])].map (toItem (Try.f15.body.getD .skip))) [(0, .pointer w0), (3, .int .i64 j), (4, .int .i64 i)] w := by
  obtain ⟨I, m, h0, hr⟩ := h
  refine KW.loop (fun m σ w => ∃ (w0 : Option Addr) (j i : Int), σ = [(0, .pointer w0), (3, .int .i64 j), (4, .int .i64 i)] ∧ I m w0 j i w) ?_ m _ w ⟨w0, j, i, rfl, h0⟩
  rintro m ih σ w ⟨w0, j, i, rfl, hI⟩
  exact iplaw_World_Untouched.L2b_sound hN1 (N2 := fun w0' j' i' w' => ∃ m', m' < m ∧ I m' w0' j' i' w') (fun w0' j' i' w' hx => by obtain ⟨m', hlt, hI'⟩ := hx; exact ih m' hlt _ w' ⟨w0', j', i', rfl, hI'⟩) w0 j i w (hr m w0 j i w hI)
def iplaw_World_Untouched.B1 (w0 : Option Addr) (j i : Int) (t102 : Bool) (w : World) (N3 : Option Addr → Int → World → Prop) (N4 : Option Addr → Int → Int → World → Prop)  (R : Bool → World → Prop) : Prop :=
  Bm t102 (
    R false w) (
    N4 w0 j (IntKind.i64.wrap (i + (1 : Int))) w)
theorem iplaw_World_Untouched.B1_eq (w0 : Option Addr) (j i : Int) (t102 : Bool) (w : World) (N3 : Option Addr → Int → World → Prop) (N4 : Option Addr → Int → Int → World → Prop)  (R : Bool → World → Prop)  :
    (
  Bm t102 (
    R false w) (
    N4 w0 j (IntKind.i64.wrap (i + (1 : Int))) w)) = kstep Try.prog 167 Try.f15.results.toList (Try.f15.body.getD .skip) (iplaw_World_Untouched.RV R) (kvc Try.prog 167 Try.f15.results.toList (Try.f15.body.getD .skip) (iplaw_World_Untouched.RV R) [([(0, [1, 1, 0, 1, 0, 0, 1, 0, 0, 1, 0, 0]), (2, [1, 1, 0, 1, 0, 0, 1, 0, 0, 1, 0, 0]), (1, [6]), (1, [5]), (0, [1, 1, 0, 1, 0, 0, 1, 1]), (2, [1, 1, 0, 1, 0, 0]), (1, [4]), (0, [1, 1, 1])], fun σ w => dP (slotOf σ 0) fun w0_ => dI .i64 (slotOf σ 5) fun j_ => dI .i64 (slotOf σ 6) fun i_ => N4 w0_ j_ i_ w)] 2000) [(0, [1, 1, 0, 1, 0, 0, 1, 0, 0, 1, 0, 0, 1, 0, 0, 1, 1]), (1, [7]), (0, [1, 1, 0, 1, 0, 0, 1, 0, 0, 1, 0, 0, 1, 1]), (2, [1, 1, 0, 1, 0, 0, 1, 0, 0, 1, 0, 0]), (1, [6]), (1, [5]), (0, [1, 1, 0, 1, 0, 0, 1, 1]), (2, [1, 1, 0, 1, 0, 0]), (1, [4]), (0, [1, 1, 1])] [(0, .pointer w0), (5, .int .i64 j), (6, .int .i64 i), (102, .bool t102)] w := by kernel_rfl
theorem iplaw_World_Untouched.B1_sound {R : Bool → World → Prop} {N3 : Option Addr → Int → World → Prop} (hN3 : ∀ w0 j w, N3 w0 j w → KW Try.prog 15 167 (iplaw_World_Untouched.RV R) ([(0, [1, 1, 0, 1, 0, 0]), (2, [1, 1, 0, 1, 0, 0]), (1, [4]), (0, [1, 1, 1])].map (toItem (Try.f15.body.getD .skip))) [(0, .pointer w0), (5, .int .i64 j)] w) {N4 : Option Addr → Int → Int → World → Prop} (hN4 : ∀ w0 j i w, N4 w0 j i w → KW Try.prog 15 167 (iplaw_World_Untouched.RV R) ([(0, [1, 1, 0, 1, 0, 0, 1, 0, 0, 1, 0, 0]), (2, [1, 1, 0, 1, 0, 0, 1, 0, 0, 1, 0, 0]), (1, [6]), (1, [5]), (0, [1, 1, 0, 1, 0, 0, 1, 1]), (2, [1, 1, 0, 1, 0, 0]), (1, [4]), (0, [1, 1, 1])].map (toItem (Try.f15.body.getD .skip))) [(0, .pointer w0), (5, .int .i64 j), (6, .int .i64 i)] w) (w0 : Option Addr) (j i : Int) (t102 : Bool) (w : World) (h : iplaw_World_Untouched.B1 w0 j i t102 w N3 N4  R) :
    KW Try.prog 15 167 (iplaw_World_Untouched.RV R) ([(0, [1, 1, 0, 1, 0, 0, 1, 0, 0, 1, 0, 0, 1, 0, 0, 1, 1]), (1, [7]), (0, [1, 1, 0, 1, 0, 0, 1, 0, 0, 1, 0, 0, 1, 1]), (2, [1, 1, 0, 1, 0, 0, 1, 0, 0, 1, 0, 0]), (1, [6]), (1, [5]), (0, [1, 1, 0, 1, 0, 0, 1, 1]), (2, [1, 1, 0, 1, 0, 0]), (1, [4]), (0, [1, 1, 1])].map (toItem (Try.f15.body.getD .skip))) [(0, .pointer w0), (5, .int .i64 j), (6, .int .i64 i), (102, .bool t102)] w := by
  exact block_spec Try.func15 Try.mixed (stops_cons (fun σ w h => by
      obtain ⟨w0_, e0, h⟩ := dP_elim h
      obtain ⟨j_, e1, h⟩ := dI_elim h
      obtain ⟨i_, e2, h⟩ := dI_elim h
      exact (hN4 w0_ j_ i_ w h).weaken (Sub.cons (Sub.cons (Sub.cons (Sub.nil _) e2) e1) e0)) stops_nil) (Eq.mp (iplaw_World_Untouched.B1_eq w0 j i t102 w N3 N4  R ) h)
def iplaw_World_Untouched.L4b (w0 : Option Addr) (j i : Int) (w : World) (N3 : Option Addr → Int → World → Prop) (N4 : Option Addr → Int → Int → World → Prop) (R : Bool → World → Prop) : Prop :=
  Pn w0 fun a =>
  LdL (a.add 6) w fun x57_b x57_l x57_c =>
  Pn x57_b fun a_1 =>
  (0 ≤ j ∧ j < ((x57_l : Nat) : Int)) ∧
  LdL (Addr.add a_1 (j.toNat * 1)) w fun x60_b x60_l x60_c =>
  Bm (decide (i < ((x60_l : Nat) : Int))) (
    Pn w0 fun a_2 =>
    LdL (a_2.add 6) w fun x68_b x68_l x68_c =>
    Pn x68_b fun a_3 =>
    (0 ≤ j ∧ j < ((x68_l : Nat) : Int)) ∧
    LdL (Addr.add a_3 (j.toNat * 1)) w fun x71_b x71_l x71_c =>
    Pn x71_b fun a_4 =>
    (0 ≤ i ∧ i < ((x71_l : Nat) : Int)) ∧
    LdI .i64 (Addr.add a_4 (i.toNat * 6)) w fun x74_0 =>
    LdI .i64 ((Addr.add a_4 (i.toNat * 6)).add 1) w fun x74_1 =>
    LdI .i64 ((Addr.add a_4 (i.toNat * 6)).add 2) w fun x74_2 =>
    LdI .i64 ((Addr.add a_4 (i.toNat * 6)).add 3) w fun x74_3 =>
    LdI .i64 ((Addr.add a_4 (i.toNat * 6)).add 4) w fun x74_4 =>
    LdI .i64 ((Addr.add a_4 (i.toNat * 6)).add 5) w fun x74_5 =>
    New (.cells #[.int .i64 (0 : Int), .int .i64 (0 : Int), .int .i64 (0 : Int), .int .i64 (0 : Int), .int .i64 (0 : Int), .int .i64 (0 : Int)] 70) w fun r_ w1 =>
    Sts [.int .i64 x74_0, .int .i64 x74_1, .int .i64 x74_2, .int .i64 x74_3, .int .i64 x74_4, .int .i64 x74_5] ⟨r_, 0, none⟩ 0 w1 fun w2 =>
    LdI .i64 ⟨r_, 0, none⟩ w2 fun x76 =>
    Bm (x76 != (165 : Int)) (
      iplaw_World_Untouched.B1 w0 j i true w2 N3 N4 R) (
      LdI .i64 ⟨r_, 1, none⟩ w2 fun x80 =>
      Bm (x80 != (165 : Int)) (
        iplaw_World_Untouched.B1 w0 j i true w2 N3 N4 R) (
        LdI .i64 ⟨r_, 2, none⟩ w2 fun x85 =>
        Bm (x85 != (165 : Int)) (
          iplaw_World_Untouched.B1 w0 j i true w2 N3 N4 R) (
          LdI .i64 ⟨r_, 3, none⟩ w2 fun x90 =>
          Bm (x90 != (165 : Int)) (
            iplaw_World_Untouched.B1 w0 j i true w2 N3 N4 R) (
            LdI .i64 ⟨r_, 4, none⟩ w2 fun x95 =>
            Bm (x95 != (165 : Int)) (
              iplaw_World_Untouched.B1 w0 j i true w2 N3 N4 R) (
              LdI .i64 ⟨r_, 5, none⟩ w2 fun x100 =>
              iplaw_World_Untouched.B1 w0 j i (x100 != (165 : Int)) w2 N3 N4 R)))))) (
    N3 w0 (IntKind.i64.wrap (j + (1 : Int))) w)
theorem iplaw_World_Untouched.L4b_eq (w0 : Option Addr) (j i : Int) (w : World) (N3 : Option Addr → Int → World → Prop) (N4 : Option Addr → Int → Int → World → Prop) (R : Bool → World → Prop) (sB1 : Option Addr → Int → Int → Bool → World → Prop) :
    (
  Pn w0 fun a =>
  LdL (a.add 6) w fun x57_b x57_l x57_c =>
  Pn x57_b fun a_1 =>
  (0 ≤ j ∧ j < ((x57_l : Nat) : Int)) ∧
  LdL (Addr.add a_1 (j.toNat * 1)) w fun x60_b x60_l x60_c =>
  Bm (decide (i < ((x60_l : Nat) : Int))) (
    Pn w0 fun a_2 =>
    LdL (a_2.add 6) w fun x68_b x68_l x68_c =>
    Pn x68_b fun a_3 =>
    (0 ≤ j ∧ j < ((x68_l : Nat) : Int)) ∧
    LdL (Addr.add a_3 (j.toNat * 1)) w fun x71_b x71_l x71_c =>
    Pn x71_b fun a_4 =>
    (0 ≤ i ∧ i < ((x71_l : Nat) : Int)) ∧
    LdI .i64 (Addr.add a_4 (i.toNat * 6)) w fun x74_0 =>
    LdI .i64 ((Addr.add a_4 (i.toNat * 6)).add 1) w fun x74_1 =>
    LdI .i64 ((Addr.add a_4 (i.toNat * 6)).add 2) w fun x74_2 =>
    LdI .i64 ((Addr.add a_4 (i.toNat * 6)).add 3) w fun x74_3 =>
    LdI .i64 ((Addr.add a_4 (i.toNat * 6)).add 4) w fun x74_4 =>
    LdI .i64 ((Addr.add a_4 (i.toNat * 6)).add 5) w fun x74_5 =>
    New (.cells #[.int .i64 (0 : Int), .int .i64 (0 : Int), .int .i64 (0 : Int), .int .i64 (0 : Int), .int .i64 (0 : Int), .int .i64 (0 : Int)] 70) w fun r_ w1 =>
    Sts [.int .i64 x74_0, .int .i64 x74_1, .int .i64 x74_2, .int .i64 x74_3, .int .i64 x74_4, .int .i64 x74_5] ⟨r_, 0, none⟩ 0 w1 fun w2 =>
    LdI .i64 ⟨r_, 0, none⟩ w2 fun x76 =>
    Bm (x76 != (165 : Int)) (
      sB1 w0 j i true w2) (
      LdI .i64 ⟨r_, 1, none⟩ w2 fun x80 =>
      Bm (x80 != (165 : Int)) (
        sB1 w0 j i true w2) (
        LdI .i64 ⟨r_, 2, none⟩ w2 fun x85 =>
        Bm (x85 != (165 : Int)) (
          sB1 w0 j i true w2) (
          LdI .i64 ⟨r_, 3, none⟩ w2 fun x90 =>
          Bm (x90 != (165 : Int)) (
            sB1 w0 j i true w2) (
            LdI .i64 ⟨r_, 4, none⟩ w2 fun x95 =>
            Bm (x95 != (165 : Int)) (
              sB1 w0 j i true w2) (
              LdI .i64 ⟨r_, 5, none⟩ w2 fun x100 =>
              sB1 w0 j i (x100 != (165 : Int)) w2)))))) (
    N3 w0 (IntKind.i64.wrap (j + (1 : Int))) w)) = kstep Try.prog 167 Try.f15.results.toList (Try.f15.body.getD .skip) (iplaw_World_Untouched.RV R) (kvc Try.prog 167 Try.f15.results.toList (Try.f15.body.getD .skip) (iplaw_World_Untouched.RV R) [([(0, [1, 1, 0, 1, 0, 0, 1, 0, 0, 1, 0, 0, 1, 0, 0, 1, 1]), (1, [7]), (0, [1, 1, 0, 1, 0, 0, 1, 0, 0, 1, 0, 0, 1, 1]), (2, [1, 1, 0, 1, 0, 0, 1, 0, 0, 1, 0, 0]), (1, [6]), (1, [5]), (0, [1, 1, 0, 1, 0, 0, 1, 1]), (2, [1, 1, 0, 1, 0, 0]), (1, [4]), (0, [1, 1, 1])], fun σ w => dP (slotOf σ 0) fun w0_ => dI .i64 (slotOf σ 5) fun j_ => dI .i64 (slotOf σ 6) fun i_ => dB (slotOf σ 102) fun t102_ => sB1 w0_ j_ i_ t102_ w),
    ([(0, [1, 1, 0, 1, 0, 0]), (2, [1, 1, 0, 1, 0, 0]), (1, [4]), (0, [1, 1, 1])], fun σ w => dP (slotOf σ 0) fun w0_ => dI .i64 (slotOf σ 5) fun j_ => N3 w0_ j_ w)] 2000) [(0, [1, 1, 0, 1, 0, 0, 1, 0, 0, 1, 0, 0]), (2, [1, 1, 0, 1, 0, 0, 1, 0, 0, 1, 0, 0]), (1, [6]), (1, [5]), (0, [1, 1, 0, 1, 0, 0, 1, 1]), (2, [1, 1, 0, 1, 0, 0]), (1, [4]), (0, [1, 1, 1])] [(0, .pointer w0), (5, .int .i64 j), (6, .int .i64 i)] w := by kernel_rfl
theorem iplaw_World_Untouched.L4b_sound {R : Bool → World → Prop} {N3 : Option Addr → Int → World → Prop} (hN3 : ∀ w0 j w, N3 w0 j w → KW Try.prog 15 167 (iplaw_World_Untouched.RV R) ([(0, [1, 1, 0, 1, 0, 0]), (2, [1, 1, 0, 1, 0, 0]), (1, [4]), (0, [1, 1, 1])].map (toItem (Try.f15.body.getD .skip))) [(0, .pointer w0), (5, .int .i64 j)] w) {N4 : Option Addr → Int → Int → World → Prop} (hN4 : ∀ w0 j i w, N4 w0 j i w → KW Try.prog 15 167 (iplaw_World_Untouched.RV R) ([(0, [1, 1, 0, 1, 0, 0, 1, 0, 0, 1, 0, 0]), (2, [1, 1, 0, 1, 0, 0, 1, 0, 0, 1, 0, 0]), (1, [6]), (1, [5]), (0, [1, 1, 0, 1, 0, 0, 1, 1]), (2, [1, 1, 0, 1, 0, 0]), (1, [4]), (0, [1, 1, 1])].map (toItem (Try.f15.body.getD .skip))) [(0, .pointer w0), (5, .int .i64 j), (6, .int .i64 i)] w) (w0 : Option Addr) (j i : Int) (w : World) (h : iplaw_World_Untouched.L4b w0 j i w N3 N4 R) :
    KW Try.prog 15 167 (iplaw_World_Untouched.RV R) ([(0, [1, 1, 0, 1, 0, 0, 1, 0, 0, 1, 0, 0]), (2, [1, 1, 0, 1, 0, 0, 1, 0, 0, 1, 0, 0]), (1, [6]), (1, [5]), (0, [1, 1, 0, 1, 0, 0, 1, 1]), (2, [1, 1, 0, 1, 0, 0]), (1, [4]), (0, [1, 1, 1])].map (toItem (Try.f15.body.getD .skip))) [(0, .pointer w0), (5, .int .i64 j), (6, .int .i64 i)] w := by
  exact block_spec Try.func15 Try.mixed (stops_cons (fun σ w h => by
      obtain ⟨w0_, e0, h⟩ := dP_elim h
      obtain ⟨j_, e1, h⟩ := dI_elim h
      obtain ⟨i_, e2, h⟩ := dI_elim h
      obtain ⟨t102_, e3, h⟩ := dB_elim h
      exact (iplaw_World_Untouched.B1_sound hN3 hN4 w0_ j_ i_ t102_ w h).weaken (Sub.cons (Sub.cons (Sub.cons (Sub.cons (Sub.nil _) e3) e2) e1) e0)) (stops_cons (fun σ w h => by
      obtain ⟨w0_, e0, h⟩ := dP_elim h
      obtain ⟨j_, e1, h⟩ := dI_elim h
      exact (hN3 w0_ j_ w h).weaken (Sub.cons (Sub.cons (Sub.nil _) e1) e0)) stops_nil)) (Eq.mp (iplaw_World_Untouched.L4b_eq w0 j i w N3 N4 R (fun w0_ j_ i_ t102_ w => iplaw_World_Untouched.B1 w0_ j_ i_ t102_ w N3 N4 R)) h)
def iplaw_World_Untouched.L4 (w0 : Option Addr) (j i : Int) (w : World) (N3 : Option Addr → Int → World → Prop) (R : Bool → World → Prop) : Prop :=
  ∃ (I : Nat → Option Addr → Int → Int → World → Prop) (m : Nat), I m w0 j i w ∧ ∀ m w0 j i w, I m w0 j i w → iplaw_World_Untouched.L4b w0 j i w N3 (fun w0' j' i' w' => ∃ m', m' < m ∧ I m' w0' j' i' w') R
theorem iplaw_World_Untouched.L4_sound {R : Bool → World → Prop} {N3 : Option Addr → Int → World → Prop} (hN3 : ∀ w0 j w, N3 w0 j w → KW Try.prog 15 167 (iplaw_World_Untouched.RV R) ([(0, [1, 1, 0, 1, 0, 0]), (2, [1, 1, 0, 1, 0, 0]), (1, [4]), (0, [1, 1, 1])].map (toItem (Try.f15.body.getD .skip))) [(0, .pointer w0), (5, .int .i64 j)] w) (w0 : Option Addr) (j i : Int) (w : World) (h : iplaw_World_Untouched.L4 w0 j i w N3 R) :
    KW Try.prog 15 167 (iplaw_World_Untouched.RV R) ([(0, [1, 1, 0, 1, 0, 0, 1, 0, 0, 1, 0, 0]), (2, [1, 1, 0, 1, 0, 0, 1, 0, 0, 1, 0, 0]), (1, [6]), (1, [5]), (0, [1, 1, 0, 1, 0, 0, 1, 1]), (2, [1, 1, 0, 1, 0, 0]), (1, [4]), (0, [1, 1, 1])].map (toItem (Try.f15.body.getD .skip))) [(0, .pointer w0), (5, .int .i64 j), (6, .int .i64 i)] w := by
  obtain ⟨I, m, h0, hr⟩ := h
  refine KW.loop (fun m σ w => ∃ (w0 : Option Addr) (j i : Int), σ = [(0, .pointer w0), (5, .int .i64 j), (6, .int .i64 i)] ∧ I m w0 j i w) ?_ m _ w ⟨w0, j, i, rfl, h0⟩
  rintro m ih σ w ⟨w0, j, i, rfl, hI⟩
  exact iplaw_World_Untouched.L4b_sound hN3 (N4 := fun w0' j' i' w' => ∃ m', m' < m ∧ I m' w0' j' i' w') (fun w0' j' i' w' hx => by obtain ⟨m', hlt, hI'⟩ := hx; exact ih m' hlt _ w' ⟨w0', j', i', rfl, hI'⟩) w0 j i w (hr m w0 j i w hI)
def iplaw_World_Untouched.L6b (w0 : Option Addr) (j i : Int) (w : World) (N5 : Option Addr → Int → World → Prop) (N6 : Option Addr → Int → Int → World → Prop) (R : Bool → World → Prop) : Prop :=
  Pn w0 fun a =>
  LdL (a.add 7) w fun x116_b x116_l x116_c =>
  Pn x116_b fun a_1 =>
  (0 ≤ j ∧ j < ((x116_l : Nat) : Int)) ∧
  LdL (Addr.add a_1 (j.toNat * 1)) w fun x119_b x119_l x119_c =>
  Bm (decide (i < ((x119_l : Nat) : Int))) (
    Pn w0 fun a_2 =>
    LdL (a_2.add 7) w fun x127_b x127_l x127_c =>
    Pn x127_b fun a_3 =>
    (0 ≤ j ∧ j < ((x127_l : Nat) : Int)) ∧
    LdL (Addr.add a_3 (j.toNat * 1)) w fun x130_b x130_l x130_c =>
    Pn x130_b fun a_4 =>
    (0 ≤ i ∧ i < ((x130_l : Nat) : Int)) ∧
    LdI .i64 (Addr.add a_4 (i.toNat * 1)) w fun x133 =>
    Bm (x133 != (165 : Int)) (
      R false w) (
      N6 w0 j (IntKind.i64.wrap (i + (1 : Int))) w)) (
    N5 w0 (IntKind.i64.wrap (j + (1 : Int))) w)
theorem iplaw_World_Untouched.L6b_eq (w0 : Option Addr) (j i : Int) (w : World) (N5 : Option Addr → Int → World → Prop) (N6 : Option Addr → Int → Int → World → Prop) (R : Bool → World → Prop)  :
    (
  Pn w0 fun a =>
  LdL (a.add 7) w fun x116_b x116_l x116_c =>
  Pn x116_b fun a_1 =>
  (0 ≤ j ∧ j < ((x116_l : Nat) : Int)) ∧
  LdL (Addr.add a_1 (j.toNat * 1)) w fun x119_b x119_l x119_c =>
  Bm (decide (i < ((x119_l : Nat) : Int))) (
    Pn w0 fun a_2 =>
    LdL (a_2.add 7) w fun x127_b x127_l x127_c =>
    Pn x127_b fun a_3 =>
    (0 ≤ j ∧ j < ((x127_l : Nat) : Int)) ∧
    LdL (Addr.add a_3 (j.toNat * 1)) w fun x130_b x130_l x130_c =>
    Pn x130_b fun a_4 =>
    (0 ≤ i ∧ i < ((x130_l : Nat) : Int)) ∧
    LdI .i64 (Addr.add a_4 (i.toNat * 1)) w fun x133 =>
    Bm (x133 != (165 : Int)) (
      R false w) (
      N6 w0 j (IntKind.i64.wrap (i + (1 : Int))) w)) (
    N5 w0 (IntKind.i64.wrap (j + (1 : Int))) w)) = kstep Try.prog 167 Try.f15.results.toList (Try.f15.body.getD .skip) (iplaw_World_Untouched.RV R) (kvc Try.prog 167 Try.f15.results.toList (Try.f15.body.getD .skip) (iplaw_World_Untouched.RV R) [([(0, [1, 1, 1, 0, 1, 0, 0, 1, 0, 0, 1, 0, 0]), (2, [1, 1, 1, 0, 1, 0, 0, 1, 0, 0, 1, 0, 0]), (1, [10]), (1, [9]), (0, [1, 1, 1, 0, 1, 0, 0, 1, 1]), (2, [1, 1, 1, 0, 1, 0, 0]), (1, [8]), (0, [1, 1, 1, 1])], fun σ w => dP (slotOf σ 0) fun w0_ => dI .i64 (slotOf σ 8) fun j_ => dI .i64 (slotOf σ 9) fun i_ => N6 w0_ j_ i_ w),
    ([(0, [1, 1, 1, 0, 1, 0, 0]), (2, [1, 1, 1, 0, 1, 0, 0]), (1, [8]), (0, [1, 1, 1, 1])], fun σ w => dP (slotOf σ 0) fun w0_ => dI .i64 (slotOf σ 8) fun j_ => N5 w0_ j_ w)] 2000) [(0, [1, 1, 1, 0, 1, 0, 0, 1, 0, 0, 1, 0, 0]), (2, [1, 1, 1, 0, 1, 0, 0, 1, 0, 0, 1, 0, 0]), (1, [10]), (1, [9]), (0, [1, 1, 1, 0, 1, 0, 0, 1, 1]), (2, [1, 1, 1, 0, 1, 0, 0]), (1, [8]), (0, [1, 1, 1, 1])] [(0, .pointer w0), (8, .int .i64 j), (9, .int .i64 i)] w := by kernel_rfl
theorem iplaw_World_Untouched.L6b_sound {R : Bool → World → Prop} {N5 : Option Addr → Int → World → Prop} (hN5 : ∀ w0 j w, N5 w0 j w → KW Try.prog 15 167 (iplaw_World_Untouched.RV R) ([(0, [1, 1, 1, 0, 1, 0, 0]), (2, [1, 1, 1, 0, 1, 0, 0]), (1, [8]), (0, [1, 1, 1, 1])].map (toItem (Try.f15.body.getD .skip))) [(0, .pointer w0), (8, .int .i64 j)] w) {N6 : Option Addr → Int → Int → World → Prop} (hN6 : ∀ w0 j i w, N6 w0 j i w → KW Try.prog 15 167 (iplaw_World_Untouched.RV R) ([(0, [1, 1, 1, 0, 1, 0, 0, 1, 0, 0, 1, 0, 0]), (2, [1, 1, 1, 0, 1, 0, 0, 1, 0, 0, 1, 0, 0]), (1, [10]), (1, [9]), (0, [1, 1, 1, 0, 1, 0, 0, 1, 1]), (2, [1, 1, 1, 0, 1, 0, 0]), (1, [8]), (0, [1, 1, 1, 1])].map (toItem (Try.f15.body.getD .skip))) [(0, .pointer w0), (8, .int .i64 j), (9, .int .i64 i)] w) (w0 : Option Addr) (j i : Int) (w : World) (h : iplaw_World_Untouched.L6b w0 j i w N5 N6 R) :
    KW Try.prog 15 167 (iplaw_World_Untouched.RV R) ([(0, [1, 1, 1, 0, 1, 0, 0, 1, 0, 0, 1, 0, 0]), (2, [1, 1, 1, 0, 1, 0, 0, 1, 0, 0, 1, 0, 0]), (1, [10]), (1, [9]), (0, [1, 1, 1, 0, 1, 0, 0, 1, 1]), (2, [1, 1, 1, 0, 1, 0, 0]), (1, [8]), (0, [1, 1, 1, 1])].map (toItem (Try.f15.body.getD .skip))) [(0, .pointer w0), (8, .int .i64 j), (9, .int .i64 i)] w := by
  exact block_spec Try.func15 Try.mixed (stops_cons (fun σ w h => by
      obtain ⟨w0_, e0, h⟩ := dP_elim h
      obtain ⟨j_, e1, h⟩ := dI_elim h
      obtain ⟨i_, e2, h⟩ := dI_elim h
      exact (hN6 w0_ j_ i_ w h).weaken (Sub.cons (Sub.cons (Sub.cons (Sub.nil _) e2) e1) e0)) (stops_cons (fun σ w h => by
      obtain ⟨w0_, e0, h⟩ := dP_elim h
      obtain ⟨j_, e1, h⟩ := dI_elim h
      exact (hN5 w0_ j_ w h).weaken (Sub.cons (Sub.cons (Sub.nil _) e1) e0)) stops_nil)) (Eq.mp (iplaw_World_Untouched.L6b_eq w0 j i w N5 N6 R ) h)
def iplaw_World_Untouched.L6 (w0 : Option Addr) (j i : Int) (w : World) (N5 : Option Addr → Int → World → Prop) (R : Bool → World → Prop) : Prop :=
  ∃ (I : Nat → Option Addr → Int → Int → World → Prop) (m : Nat), I m w0 j i w ∧ ∀ m w0 j i w, I m w0 j i w → iplaw_World_Untouched.L6b w0 j i w N5 (fun w0' j' i' w' => ∃ m', m' < m ∧ I m' w0' j' i' w') R
theorem iplaw_World_Untouched.L6_sound {R : Bool → World → Prop} {N5 : Option Addr → Int → World → Prop} (hN5 : ∀ w0 j w, N5 w0 j w → KW Try.prog 15 167 (iplaw_World_Untouched.RV R) ([(0, [1, 1, 1, 0, 1, 0, 0]), (2, [1, 1, 1, 0, 1, 0, 0]), (1, [8]), (0, [1, 1, 1, 1])].map (toItem (Try.f15.body.getD .skip))) [(0, .pointer w0), (8, .int .i64 j)] w) (w0 : Option Addr) (j i : Int) (w : World) (h : iplaw_World_Untouched.L6 w0 j i w N5 R) :
    KW Try.prog 15 167 (iplaw_World_Untouched.RV R) ([(0, [1, 1, 1, 0, 1, 0, 0, 1, 0, 0, 1, 0, 0]), (2, [1, 1, 1, 0, 1, 0, 0, 1, 0, 0, 1, 0, 0]), (1, [10]), (1, [9]), (0, [1, 1, 1, 0, 1, 0, 0, 1, 1]), (2, [1, 1, 1, 0, 1, 0, 0]), (1, [8]), (0, [1, 1, 1, 1])].map (toItem (Try.f15.body.getD .skip))) [(0, .pointer w0), (8, .int .i64 j), (9, .int .i64 i)] w := by
  obtain ⟨I, m, h0, hr⟩ := h
  refine KW.loop (fun m σ w => ∃ (w0 : Option Addr) (j i : Int), σ = [(0, .pointer w0), (8, .int .i64 j), (9, .int .i64 i)] ∧ I m w0 j i w) ?_ m _ w ⟨w0, j, i, rfl, h0⟩
  rintro m ih σ w ⟨w0, j, i, rfl, hI⟩
  exact iplaw_World_Untouched.L6b_sound hN5 (N6 := fun w0' j' i' w' => ∃ m', m' < m ∧ I m' w0' j' i' w') (fun w0' j' i' w' hx => by obtain ⟨m', hlt, hI'⟩ := hx; exact ih m' hlt _ w' ⟨w0', j', i', rfl, hI'⟩) w0 j i w (hr m w0 j i w hI)
def iplaw_World_Untouched.L8b (w0 : Option Addr) (j i : Int) (w : World) (N7 : Option Addr → Int → World → Prop) (N8 : Option Addr → Int → Int → World → Prop) (R : Bool → World → Prop) : Prop :=
  Pn w0 fun a =>
  LdL (a.add 5) w fun x148_b x148_l x148_c =>
  Pn x148_b fun a_1 =>
  (0 ≤ j ∧ j < ((x148_l : Nat) : Int)) ∧
  LdL (Addr.add a_1 (j.toNat * 1)) w fun x151_b x151_l x151_c =>
  Bm (decide (i < ((x151_l : Nat) : Int))) (
    Pn w0 fun a_2 =>
    LdL (a_2.add 5) w fun x159_b x159_l x159_c =>
    Pn x159_b fun a_3 =>
    (0 ≤ j ∧ j < ((x159_l : Nat) : Int)) ∧
    LdL (Addr.add a_3 (j.toNat * 1)) w fun x162_b x162_l x162_c =>
    Pn x162_b fun a_4 =>
    (0 ≤ i ∧ i < ((x162_l : Nat) : Int)) ∧
    LdI .u8 (Addr.add a_4 (i.toNat * 1)) w fun x165 =>
    Bm (x165 != (165 : Int)) (
      R false w) (
      N8 w0 j (IntKind.i64.wrap (i + (1 : Int))) w)) (
    N7 w0 (IntKind.i64.wrap (j + (1 : Int))) w)
theorem iplaw_World_Untouched.L8b_eq (w0 : Option Addr) (j i : Int) (w : World) (N7 : Option Addr → Int → World → Prop) (N8 : Option Addr → Int → Int → World → Prop) (R : Bool → World → Prop)  :
    (
  Pn w0 fun a =>
  LdL (a.add 5) w fun x148_b x148_l x148_c =>
  Pn x148_b fun a_1 =>
  (0 ≤ j ∧ j < ((x148_l : Nat) : Int)) ∧
  LdL (Addr.add a_1 (j.toNat * 1)) w fun x151_b x151_l x151_c =>
  Bm (decide (i < ((x151_l : Nat) : Int))) (
    Pn w0 fun a_2 =>
    LdL (a_2.add 5) w fun x159_b x159_l x159_c =>
    Pn x159_b fun a_3 =>
    (0 ≤ j ∧ j < ((x159_l : Nat) : Int)) ∧
    LdL (Addr.add a_3 (j.toNat * 1)) w fun x162_b x162_l x162_c =>
    Pn x162_b fun a_4 =>
    (0 ≤ i ∧ i < ((x162_l : Nat) : Int)) ∧
    LdI .u8 (Addr.add a_4 (i.toNat * 1)) w fun x165 =>
    Bm (x165 != (165 : Int)) (
      R false w) (
      N8 w0 j (IntKind.i64.wrap (i + (1 : Int))) w)) (
    N7 w0 (IntKind.i64.wrap (j + (1 : Int))) w)) = kstep Try.prog 167 Try.f15.results.toList (Try.f15.body.getD .skip) (iplaw_World_Untouched.RV R) (kvc Try.prog 167 Try.f15.results.toList (Try.f15.body.getD .skip) (iplaw_World_Untouched.RV R) [([(0, [1, 1, 1, 1, 0, 1, 0, 0, 1, 0, 0, 1, 0, 0]), (2, [1, 1, 1, 1, 0, 1, 0, 0, 1, 0, 0, 1, 0, 0]), (1, [14]), (1, [13]), (0, [1, 1, 1, 1, 0, 1, 0, 0, 1, 1]), (2, [1, 1, 1, 1, 0, 1, 0, 0]), (1, [12]), (0, [1, 1, 1, 1, 1])], fun σ w => dP (slotOf σ 0) fun w0_ => dI .i64 (slotOf σ 10) fun j_ => dI .i64 (slotOf σ 11) fun i_ => N8 w0_ j_ i_ w),
    ([(0, [1, 1, 1, 1, 0, 1, 0, 0]), (2, [1, 1, 1, 1, 0, 1, 0, 0]), (1, [12]), (0, [1, 1, 1, 1, 1])], fun σ w => dP (slotOf σ 0) fun w0_ => dI .i64 (slotOf σ 10) fun j_ => N7 w0_ j_ w)] 2000) [(0, [1, 1, 1, 1, 0, 1, 0, 0, 1, 0, 0, 1, 0, 0]), (2, [1, 1, 1, 1, 0, 1, 0, 0, 1, 0, 0, 1, 0, 0]), (1, [14]), (1, [13]), (0, [1, 1, 1, 1, 0, 1, 0, 0, 1, 1]), (2, [1, 1, 1, 1, 0, 1, 0, 0]), (1, [12]), (0, [1, 1, 1, 1, 1])] [(0, .pointer w0), (10, .int .i64 j), (11, .int .i64 i)] w := by kernel_rfl
theorem iplaw_World_Untouched.L8b_sound {R : Bool → World → Prop} {N7 : Option Addr → Int → World → Prop} (hN7 : ∀ w0 j w, N7 w0 j w → KW Try.prog 15 167 (iplaw_World_Untouched.RV R) ([(0, [1, 1, 1, 1, 0, 1, 0, 0]), (2, [1, 1, 1, 1, 0, 1, 0, 0]), (1, [12]), (0, [1, 1, 1, 1, 1])].map (toItem (Try.f15.body.getD .skip))) [(0, .pointer w0), (10, .int .i64 j)] w) {N8 : Option Addr → Int → Int → World → Prop} (hN8 : ∀ w0 j i w, N8 w0 j i w → KW Try.prog 15 167 (iplaw_World_Untouched.RV R) ([(0, [1, 1, 1, 1, 0, 1, 0, 0, 1, 0, 0, 1, 0, 0]), (2, [1, 1, 1, 1, 0, 1, 0, 0, 1, 0, 0, 1, 0, 0]), (1, [14]), (1, [13]), (0, [1, 1, 1, 1, 0, 1, 0, 0, 1, 1]), (2, [1, 1, 1, 1, 0, 1, 0, 0]), (1, [12]), (0, [1, 1, 1, 1, 1])].map (toItem (Try.f15.body.getD .skip))) [(0, .pointer w0), (10, .int .i64 j), (11, .int .i64 i)] w) (w0 : Option Addr) (j i : Int) (w : World) (h : iplaw_World_Untouched.L8b w0 j i w N7 N8 R) :
    KW Try.prog 15 167 (iplaw_World_Untouched.RV R) ([(0, [1, 1, 1, 1, 0, 1, 0, 0, 1, 0, 0, 1, 0, 0]), (2, [1, 1, 1, 1, 0, 1, 0, 0, 1, 0, 0, 1, 0, 0]), (1, [14]), (1, [13]), (0, [1, 1, 1, 1, 0, 1, 0, 0, 1, 1]), (2, [1, 1, 1, 1, 0, 1, 0, 0]), (1, [12]), (0, [1, 1, 1, 1, 1])].map (toItem (Try.f15.body.getD .skip))) [(0, .pointer w0), (10, .int .i64 j), (11, .int .i64 i)] w := by
  exact block_spec Try.func15 Try.mixed (stops_cons (fun σ w h => by
      obtain ⟨w0_, e0, h⟩ := dP_elim h
      obtain ⟨j_, e1, h⟩ := dI_elim h
      obtain ⟨i_, e2, h⟩ := dI_elim h
      exact (hN8 w0_ j_ i_ w h).weaken (Sub.cons (Sub.cons (Sub.cons (Sub.nil _) e2) e1) e0)) (stops_cons (fun σ w h => by
      obtain ⟨w0_, e0, h⟩ := dP_elim h
      obtain ⟨j_, e1, h⟩ := dI_elim h
      exact (hN7 w0_ j_ w h).weaken (Sub.cons (Sub.cons (Sub.nil _) e1) e0)) stops_nil)) (Eq.mp (iplaw_World_Untouched.L8b_eq w0 j i w N7 N8 R ) h)
def iplaw_World_Untouched.L8 (w0 : Option Addr) (j i : Int) (w : World) (N7 : Option Addr → Int → World → Prop) (R : Bool → World → Prop) : Prop :=
  ∃ (I : Nat → Option Addr → Int → Int → World → Prop) (m : Nat), I m w0 j i w ∧ ∀ m w0 j i w, I m w0 j i w → iplaw_World_Untouched.L8b w0 j i w N7 (fun w0' j' i' w' => ∃ m', m' < m ∧ I m' w0' j' i' w') R
theorem iplaw_World_Untouched.L8_sound {R : Bool → World → Prop} {N7 : Option Addr → Int → World → Prop} (hN7 : ∀ w0 j w, N7 w0 j w → KW Try.prog 15 167 (iplaw_World_Untouched.RV R) ([(0, [1, 1, 1, 1, 0, 1, 0, 0]), (2, [1, 1, 1, 1, 0, 1, 0, 0]), (1, [12]), (0, [1, 1, 1, 1, 1])].map (toItem (Try.f15.body.getD .skip))) [(0, .pointer w0), (10, .int .i64 j)] w) (w0 : Option Addr) (j i : Int) (w : World) (h : iplaw_World_Untouched.L8 w0 j i w N7 R) :
    KW Try.prog 15 167 (iplaw_World_Untouched.RV R) ([(0, [1, 1, 1, 1, 0, 1, 0, 0, 1, 0, 0, 1, 0, 0]), (2, [1, 1, 1, 1, 0, 1, 0, 0, 1, 0, 0, 1, 0, 0]), (1, [14]), (1, [13]), (0, [1, 1, 1, 1, 0, 1, 0, 0, 1, 1]), (2, [1, 1, 1, 1, 0, 1, 0, 0]), (1, [12]), (0, [1, 1, 1, 1, 1])].map (toItem (Try.f15.body.getD .skip))) [(0, .pointer w0), (10, .int .i64 j), (11, .int .i64 i)] w := by
  obtain ⟨I, m, h0, hr⟩ := h
  refine KW.loop (fun m σ w => ∃ (w0 : Option Addr) (j i : Int), σ = [(0, .pointer w0), (10, .int .i64 j), (11, .int .i64 i)] ∧ I m w0 j i w) ?_ m _ w ⟨w0, j, i, rfl, h0⟩
  rintro m ih σ w ⟨w0, j, i, rfl, hI⟩
  exact iplaw_World_Untouched.L8b_sound hN7 (N8 := fun w0' j' i' w' => ∃ m', m' < m ∧ I m' w0' j' i' w') (fun w0' j' i' w' hx => by obtain ⟨m', hlt, hI'⟩ := hx; exact ih m' hlt _ w' ⟨w0', j', i', rfl, hI'⟩) w0 j i w (hr m w0 j i w hI)
def iplaw_World_Untouched.L7b (w0 : Option Addr) (j : Int) (w : World)  (N7 : Option Addr → Int → World → Prop) (R : Bool → World → Prop) : Prop :=
  Pn w0 fun a =>
  LdL (a.add 5) w fun x139_b x139_l x139_c =>
  Bm (decide (j < ((x139_l : Nat) : Int))) (
    iplaw_World_Untouched.L8 w0 j (0 : Int) w N7 R) (
    R true w)
theorem iplaw_World_Untouched.L7b_eq (w0 : Option Addr) (j : Int) (w : World)  (N7 : Option Addr → Int → World → Prop) (R : Bool → World → Prop) (sL8 : Option Addr → Int → Int → World → Prop) :
    (
  Pn w0 fun a =>
  LdL (a.add 5) w fun x139_b x139_l x139_c =>
  Bm (decide (j < ((x139_l : Nat) : Int))) (
    sL8 w0 j (0 : Int) w) (
    R true w)) = kstep Try.prog 167 Try.f15.results.toList (Try.f15.body.getD .skip) (iplaw_World_Untouched.RV R) (kvc Try.prog 167 Try.f15.results.toList (Try.f15.body.getD .skip) (iplaw_World_Untouched.RV R) [([(0, [1, 1, 1, 1, 0, 1, 0, 0, 1, 0, 0, 1, 0, 0]), (2, [1, 1, 1, 1, 0, 1, 0, 0, 1, 0, 0, 1, 0, 0]), (1, [14]), (1, [13]), (0, [1, 1, 1, 1, 0, 1, 0, 0, 1, 1]), (2, [1, 1, 1, 1, 0, 1, 0, 0]), (1, [12]), (0, [1, 1, 1, 1, 1])], fun σ w => dP (slotOf σ 0) fun w0_ => dI .i64 (slotOf σ 10) fun j_ => dI .i64 (slotOf σ 11) fun i_ => sL8 w0_ j_ i_ w)] 2000) [(0, [1, 1, 1, 1, 0, 1, 0, 0]), (2, [1, 1, 1, 1, 0, 1, 0, 0]), (1, [12]), (0, [1, 1, 1, 1, 1])] [(0, .pointer w0), (10, .int .i64 j)] w := by kernel_rfl
theorem iplaw_World_Untouched.L7b_sound {R : Bool → World → Prop} {N7 : Option Addr → Int → World → Prop} (hN7 : ∀ w0 j w, N7 w0 j w → KW Try.prog 15 167 (iplaw_World_Untouched.RV R) ([(0, [1, 1, 1, 1, 0, 1, 0, 0]), (2, [1, 1, 1, 1, 0, 1, 0, 0]), (1, [12]), (0, [1, 1, 1, 1, 1])].map (toItem (Try.f15.body.getD .skip))) [(0, .pointer w0), (10, .int .i64 j)] w) (w0 : Option Addr) (j : Int) (w : World) (h : iplaw_World_Untouched.L7b w0 j w  N7 R) :
    KW Try.prog 15 167 (iplaw_World_Untouched.RV R) ([(0, [1, 1, 1, 1, 0, 1, 0, 0]), (2, [1, 1, 1, 1, 0, 1, 0, 0]), (1, [12]), (0, [1, 1, 1, 1, 1])].map (toItem (Try.f15.body.getD .skip))) [(0, .pointer w0), (10, .int .i64 j)] w := by
  exact block_spec Try.func15 Try.mixed (stops_cons (fun σ w h => by
      obtain ⟨w0_, e0, h⟩ := dP_elim h
      obtain ⟨j_, e1, h⟩ := dI_elim h
      obtain ⟨i_, e2, h⟩ := dI_elim h
      exact (iplaw_World_Untouched.L8_sound hN7 w0_ j_ i_ w h).weaken (Sub.cons (Sub.cons (Sub.cons (Sub.nil _) e2) e1) e0)) stops_nil) (Eq.mp (iplaw_World_Untouched.L7b_eq w0 j w  N7 R (fun w0_ j_ i_ w => iplaw_World_Untouched.L8 w0_ j_ i_ w N7 R)) h)
def iplaw_World_Untouched.L7 (w0 : Option Addr) (j : Int) (w : World)  (R : Bool → World → Prop) : Prop :=
  ∃ (I : Nat → Option Addr → Int → World → Prop) (m : Nat), I m w0 j w ∧ ∀ m w0 j w, I m w0 j w → iplaw_World_Untouched.L7b w0 j w  (fun w0' j' w' => ∃ m', m' < m ∧ I m' w0' j' w') R
theorem iplaw_World_Untouched.L7_sound {R : Bool → World → Prop}  (w0 : Option Addr) (j : Int) (w : World) (h : iplaw_World_Untouched.L7 w0 j w  R) :
    KW Try.prog 15 167 (iplaw_World_Untouched.RV R) ([(0, [1, 1, 1, 1, 0, 1, 0, 0]), (2, [1, 1, 1, 1, 0, 1, 0, 0]), (1, [12]), (0, [1, 1, 1, 1, 1])].map (toItem (Try.f15.body.getD .skip))) [(0, .pointer w0), (10, .int .i64 j)] w := by
  obtain ⟨I, m, h0, hr⟩ := h
  refine KW.loop (fun m σ w => ∃ (w0 : Option Addr) (j : Int), σ = [(0, .pointer w0), (10, .int .i64 j)] ∧ I m w0 j w) ?_ m _ w ⟨w0, j, rfl, h0⟩
  rintro m ih σ w ⟨w0, j, rfl, hI⟩
  exact iplaw_World_Untouched.L7b_sound  (N7 := fun w0' j' w' => ∃ m', m' < m ∧ I m' w0' j' w') (fun w0' j' w' hx => by obtain ⟨m', hlt, hI'⟩ := hx; exact ih m' hlt _ w' ⟨w0', j', rfl, hI'⟩) w0 j w (hr m w0 j w hI)
def iplaw_World_Untouched.L5b (w0 : Option Addr) (j : Int) (w : World)  (N5 : Option Addr → Int → World → Prop) (R : Bool → World → Prop) : Prop :=
  Pn w0 fun a =>
  LdL (a.add 7) w fun x107_b x107_l x107_c =>
  Bm (decide (j < ((x107_l : Nat) : Int))) (
    iplaw_World_Untouched.L6 w0 j (0 : Int) w N5 R) (
    iplaw_World_Untouched.L7 w0 (0 : Int) w  R)
theorem iplaw_World_Untouched.L5b_eq (w0 : Option Addr) (j : Int) (w : World)  (N5 : Option Addr → Int → World → Prop) (R : Bool → World → Prop) (sL6 : Option Addr → Int → Int → World → Prop) (sL7 : Option Addr → Int → World → Prop) :
    (
  Pn w0 fun a =>
  LdL (a.add 7) w fun x107_b x107_l x107_c =>
  Bm (decide (j < ((x107_l : Nat) : Int))) (
    sL6 w0 j (0 : Int) w) (
    sL7 w0 (0 : Int) w)) = kstep Try.prog 167 Try.f15.results.toList (Try.f15.body.getD .skip) (iplaw_World_Untouched.RV R) (kvc Try.prog 167 Try.f15.results.toList (Try.f15.body.getD .skip) (iplaw_World_Untouched.RV R) [([(0, [1, 1, 1, 0, 1, 0, 0, 1, 0, 0, 1, 0, 0]), (2, [1, 1, 1, 0, 1, 0, 0, 1, 0, 0, 1, 0, 0]), (1, [10]), (1, [9]), (0, [1, 1, 1, 0, 1, 0, 0, 1, 1]), (2, [1, 1, 1, 0, 1, 0, 0]), (1, [8]), (0, [1, 1, 1, 1])], fun σ w => dP (slotOf σ 0) fun w0_ => dI .i64 (slotOf σ 8) fun j_ => dI .i64 (slotOf σ 9) fun i_ => sL6 w0_ j_ i_ w),
    ([(0, [1, 1, 1, 1, 0, 1, 0, 0]), (2, [1, 1, 1, 1, 0, 1, 0, 0]), (1, [12]), (0, [1, 1, 1, 1, 1])], fun σ w => dP (slotOf σ 0) fun w0_ => dI .i64 (slotOf σ 10) fun j_ => sL7 w0_ j_ w)] 2000) [(0, [1, 1, 1, 0, 1, 0, 0]), (2, [1, 1, 1, 0, 1, 0, 0]), (1, [8]), (0, [1, 1, 1, 1])] [(0, .pointer w0), (8, .int .i64 j)] w := by kernel_rfl
theorem iplaw_World_Untouched.L5b_sound {R : Bool → World → Prop} {N5 : Option Addr → Int → World → Prop} (hN5 : ∀ w0 j w, N5 w0 j w → KW Try.prog 15 167 (iplaw_World_Untouched.RV R) ([(0, [1, 1, 1, 0, 1, 0, 0]), (2, [1, 1, 1, 0, 1, 0, 0]), (1, [8]), (0, [1, 1, 1, 1])].map (toItem (Try.f15.body.getD .skip))) [(0, .pointer w0), (8, .int .i64 j)] w) (w0 : Option Addr) (j : Int) (w : World) (h : iplaw_World_Untouched.L5b w0 j w  N5 R) :
    KW Try.prog 15 167 (iplaw_World_Untouched.RV R) ([(0, [1, 1, 1, 0, 1, 0, 0]), (2, [1, 1, 1, 0, 1, 0, 0]), (1, [8]), (0, [1, 1, 1, 1])].map (toItem (Try.f15.body.getD .skip))) [(0, .pointer w0), (8, .int .i64 j)] w := by
  exact block_spec Try.func15 Try.mixed (stops_cons (fun σ w h => by
      obtain ⟨w0_, e0, h⟩ := dP_elim h
      obtain ⟨j_, e1, h⟩ := dI_elim h
      obtain ⟨i_, e2, h⟩ := dI_elim h
      exact (iplaw_World_Untouched.L6_sound hN5 w0_ j_ i_ w h).weaken (Sub.cons (Sub.cons (Sub.cons (Sub.nil _) e2) e1) e0)) (stops_cons (fun σ w h => by
      obtain ⟨w0_, e0, h⟩ := dP_elim h
      obtain ⟨j_, e1, h⟩ := dI_elim h
      exact (iplaw_World_Untouched.L7_sound  w0_ j_ w h).weaken (Sub.cons (Sub.cons (Sub.nil _) e1) e0)) stops_nil)) (Eq.mp (iplaw_World_Untouched.L5b_eq w0 j w  N5 R (fun w0_ j_ i_ w => iplaw_World_Untouched.L6 w0_ j_ i_ w N5 R) (fun w0_ j_ w => iplaw_World_Untouched.L7 w0_ j_ w  R)) h)
def iplaw_World_Untouched.L5 (w0 : Option Addr) (j : Int) (w : World)  (R : Bool → World → Prop) : Prop :=
  ∃ (I : Nat → Option Addr → Int → World → Prop) (m : Nat), I m w0 j w ∧ ∀ m w0 j w, I m w0 j w → iplaw_World_Untouched.L5b w0 j w  (fun w0' j' w' => ∃ m', m' < m ∧ I m' w0' j' w') R
theorem iplaw_World_Untouched.L5_sound {R : Bool → World → Prop}  (w0 : Option Addr) (j : Int) (w : World) (h : iplaw_World_Untouched.L5 w0 j w  R) :
    KW Try.prog 15 167 (iplaw_World_Untouched.RV R) ([(0, [1, 1, 1, 0, 1, 0, 0]), (2, [1, 1, 1, 0, 1, 0, 0]), (1, [8]), (0, [1, 1, 1, 1])].map (toItem (Try.f15.body.getD .skip))) [(0, .pointer w0), (8, .int .i64 j)] w := by
  obtain ⟨I, m, h0, hr⟩ := h
  refine KW.loop (fun m σ w => ∃ (w0 : Option Addr) (j : Int), σ = [(0, .pointer w0), (8, .int .i64 j)] ∧ I m w0 j w) ?_ m _ w ⟨w0, j, rfl, h0⟩
  rintro m ih σ w ⟨w0, j, rfl, hI⟩
  exact iplaw_World_Untouched.L5b_sound  (N5 := fun w0' j' w' => ∃ m', m' < m ∧ I m' w0' j' w') (fun w0' j' w' hx => by obtain ⟨m', hlt, hI'⟩ := hx; exact ih m' hlt _ w' ⟨w0', j', rfl, hI'⟩) w0 j w (hr m w0 j w hI)
def iplaw_World_Untouched.L3b (w0 : Option Addr) (j : Int) (w : World)  (N3 : Option Addr → Int → World → Prop) (R : Bool → World → Prop) : Prop :=
  Pn w0 fun a =>
  LdL (a.add 6) w fun x48_b x48_l x48_c =>
  Bm (decide (j < ((x48_l : Nat) : Int))) (
    iplaw_World_Untouched.L4 w0 j (0 : Int) w N3 R) (
    iplaw_World_Untouched.L5 w0 (0 : Int) w  R)
theorem iplaw_World_Untouched.L3b_eq (w0 : Option Addr) (j : Int) (w : World)  (N3 : Option Addr → Int → World → Prop) (R : Bool → World → Prop) (sL4 : Option Addr → Int → Int → World → Prop) (sL5 : Option Addr → Int → World → Prop) :
    (
  Pn w0 fun a =>
  LdL (a.add 6) w fun x48_b x48_l x48_c =>
  Bm (decide (j < ((x48_l : Nat) : Int))) (
    sL4 w0 j (0 : Int) w) (
    sL5 w0 (0 : Int) w)) = kstep Try.prog 167 Try.f15.results.toList (Try.f15.body.getD .skip) (iplaw_World_Untouched.RV R) (kvc Try.prog 167 Try.f15.results.toList (Try.f15.body.getD .skip) (iplaw_World_Untouched.RV R) [([(0, [1, 1, 0, 1, 0, 0, 1, 0, 0, 1, 0, 0]), (2, [1, 1, 0, 1, 0, 0, 1, 0, 0, 1, 0, 0]), (1, [6]), (1, [5]), (0, [1, 1, 0, 1, 0, 0, 1, 1]), (2, [1, 1, 0, 1, 0, 0]), (1, [4]), (0, [1, 1, 1])], fun σ w => dP (slotOf σ 0) fun w0_ => dI .i64 (slotOf σ 5) fun j_ => dI .i64 (slotOf σ 6) fun i_ => sL4 w0_ j_ i_ w),
    ([(0, [1, 1, 1, 0, 1, 0, 0]), (2, [1, 1, 1, 0, 1, 0, 0]), (1, [8]), (0, [1, 1, 1, 1])], fun σ w => dP (slotOf σ 0) fun w0_ => dI .i64 (slotOf σ 8) fun j_ => sL5 w0_ j_ w)] 2000) [(0, [1, 1, 0, 1, 0, 0]), (2, [1, 1, 0, 1, 0, 0]), (1, [4]), (0, [1, 1, 1])] [(0, .pointer w0), (5, .int .i64 j)] w := by kernel_rfl
theorem iplaw_World_Untouched.L3b_sound {R : Bool → World → Prop} {N3 : Option Addr → Int → World → Prop} (hN3 : ∀ w0 j w, N3 w0 j w → KW Try.prog 15 167 (iplaw_World_Untouched.RV R) ([(0, [1, 1, 0, 1, 0, 0]), (2, [1, 1, 0, 1, 0, 0]), (1, [4]), (0, [1, 1, 1])].map (toItem (Try.f15.body.getD .skip))) [(0, .pointer w0), (5, .int .i64 j)] w) (w0 : Option Addr) (j : Int) (w : World) (h : iplaw_World_Untouched.L3b w0 j w  N3 R) :
    KW Try.prog 15 167 (iplaw_World_Untouched.RV R) ([(0, [1, 1, 0, 1, 0, 0]), (2, [1, 1, 0, 1, 0, 0]), (1, [4]), (0, [1, 1, 1])].map (toItem (Try.f15.body.getD .skip))) [(0, .pointer w0), (5, .int .i64 j)] w := by
  exact block_spec Try.func15 Try.mixed (stops_cons (fun σ w h => by
      obtain ⟨w0_, e0, h⟩ := dP_elim h
      obtain ⟨j_, e1, h⟩ := dI_elim h
      obtain ⟨i_, e2, h⟩ := dI_elim h
      exact (iplaw_World_Untouched.L4_sound hN3 w0_ j_ i_ w h).weaken (Sub.cons (Sub.cons (Sub.cons (Sub.nil _) e2) e1) e0)) (stops_cons (fun σ w h => by
      obtain ⟨w0_, e0, h⟩ := dP_elim h
      obtain ⟨j_, e1, h⟩ := dI_elim h
      exact (iplaw_World_Untouched.L5_sound  w0_ j_ w h).weaken (Sub.cons (Sub.cons (Sub.nil _) e1) e0)) stops_nil)) (Eq.mp (iplaw_World_Untouched.L3b_eq w0 j w  N3 R (fun w0_ j_ i_ w => iplaw_World_Untouched.L4 w0_ j_ i_ w N3 R) (fun w0_ j_ w => iplaw_World_Untouched.L5 w0_ j_ w  R)) h)
def iplaw_World_Untouched.L3 (w0 : Option Addr) (j : Int) (w : World)  (R : Bool → World → Prop) : Prop :=
  ∃ (I : Nat → Option Addr → Int → World → Prop) (m : Nat), I m w0 j w ∧ ∀ m w0 j w, I m w0 j w → iplaw_World_Untouched.L3b w0 j w  (fun w0' j' w' => ∃ m', m' < m ∧ I m' w0' j' w') R
theorem iplaw_World_Untouched.L3_sound {R : Bool → World → Prop}  (w0 : Option Addr) (j : Int) (w : World) (h : iplaw_World_Untouched.L3 w0 j w  R) :
    KW Try.prog 15 167 (iplaw_World_Untouched.RV R) ([(0, [1, 1, 0, 1, 0, 0]), (2, [1, 1, 0, 1, 0, 0]), (1, [4]), (0, [1, 1, 1])].map (toItem (Try.f15.body.getD .skip))) [(0, .pointer w0), (5, .int .i64 j)] w := by
  obtain ⟨I, m, h0, hr⟩ := h
  refine KW.loop (fun m σ w => ∃ (w0 : Option Addr) (j : Int), σ = [(0, .pointer w0), (5, .int .i64 j)] ∧ I m w0 j w) ?_ m _ w ⟨w0, j, rfl, h0⟩
  rintro m ih σ w ⟨w0, j, rfl, hI⟩
  exact iplaw_World_Untouched.L3b_sound  (N3 := fun w0' j' w' => ∃ m', m' < m ∧ I m' w0' j' w') (fun w0' j' w' hx => by obtain ⟨m', hlt, hI'⟩ := hx; exact ih m' hlt _ w' ⟨w0', j', rfl, hI'⟩) w0 j w (hr m w0 j w hI)
def iplaw_World_Untouched.L1b (w0 : Option Addr) (j : Int) (w : World)  (N1 : Option Addr → Int → World → Prop) (R : Bool → World → Prop) : Prop :=
  Pn w0 fun a =>
  LdL (a.add 8) w fun x16_b x16_l x16_c =>
  Bm (decide (j < ((x16_l : Nat) : Int))) (
    iplaw_World_Untouched.L2 w0 j (0 : Int) w N1 R) (
    iplaw_World_Untouched.L3 w0 (0 : Int) w  R)
theorem iplaw_World_Untouched.L1b_eq (w0 : Option Addr) (j : Int) (w : World)  (N1 : Option Addr → Int → World → Prop) (R : Bool → World → Prop) (sL2 : Option Addr → Int → Int → World → Prop) (sL3 : Option Addr → Int → World → Prop) :
    (
  Pn w0 fun a =>
  LdL (a.add 8) w fun x16_b x16_l x16_c =>
  Bm (decide (j < ((x16_l : Nat) : Int))) (
    sL2 w0 j (0 : Int) w) (
    sL3 w0 (0 : Int) w)) = kstep Try.prog 167 Try.f15.results.toList (Try.f15.body.getD .skip) (iplaw_World_Untouched.RV R) (kvc Try.prog 167 Try.f15.results.toList (Try.f15.body.getD .skip) (iplaw_World_Untouched.RV R) [([(0, [1, 0, 1, 0, 0, 1, 0, 0, 1, 0, 0]), (2, [1, 0, 1, 0, 0, 1, 0, 0, 1, 0, 0]), (1, [2]), (1, [1]), (0, [1, 0, 1, 0, 0, 1, 1]), (2, [1, 0, 1, 0, 0]), (1, [0]), (0, [1, 1])], fun σ w => dP (slotOf σ 0) fun w0_ => dI .i64 (slotOf σ 3) fun j_ => dI .i64 (slotOf σ 4) fun i_ => sL2 w0_ j_ i_ w),
    ([(0, [1, 1, 0, 1, 0, 0]), (2, [1, 1, 0, 1, 0, 0]), (1, [4]), (0, [1, 1, 1])], fun σ w => dP (slotOf σ 0) fun w0_ => dI .i64 (slotOf σ 5) fun j_ => sL3 w0_ j_ w)] 2000) [(0, [1, 0, 1, 0, 0]), (2, [1, 0, 1, 0, 0]), (1, [0]), (0, [1, 1])] [(0, .pointer w0), (3, .int .i64 j)] w := by kernel_rfl
theorem iplaw_World_Untouched.L1b_sound {R : Bool → World → Prop} {N1 : Option Addr → Int → World → Prop} (hN1 : ∀ w0 j w, N1 w0 j w → KW Try.prog 15 167 (iplaw_World_Untouched.RV R) ([(0, [1, 0, 1, 0, 0]), (2, [1, 0, 1, 0, 0]), (1, [0]), (0, [1, 1])].map (toItem (Try.f15.body.getD .skip))) [(0, .pointer w0), (3, .int .i64 j)] w) (w0 : Option Addr) (j : Int) (w : World) (h : iplaw_World_Untouched.L1b w0 j w  N1 R) :
    KW Try.prog 15 167 (iplaw_World_Untouched.RV R) ([(0, [1, 0, 1, 0, 0]), (2, [1, 0, 1, 0, 0]), (1, [0]), (0, [1, 1])].map (toItem (Try.f15.body.getD .skip))) [(0, .pointer w0), (3, .int .i64 j)] w := by
  exact block_spec Try.func15 Try.mixed (stops_cons (fun σ w h => by
      obtain ⟨w0_, e0, h⟩ := dP_elim h
      obtain ⟨j_, e1, h⟩ := dI_elim h
      obtain ⟨i_, e2, h⟩ := dI_elim h
      exact (iplaw_World_Untouched.L2_sound hN1 w0_ j_ i_ w h).weaken (Sub.cons (Sub.cons (Sub.cons (Sub.nil _) e2) e1) e0)) (stops_cons (fun σ w h => by
      obtain ⟨w0_, e0, h⟩ := dP_elim h
      obtain ⟨j_, e1, h⟩ := dI_elim h
      exact (iplaw_World_Untouched.L3_sound  w0_ j_ w h).weaken (Sub.cons (Sub.cons (Sub.nil _) e1) e0)) stops_nil)) (Eq.mp (iplaw_World_Untouched.L1b_eq w0 j w  N1 R (fun w0_ j_ i_ w => iplaw_World_Untouched.L2 w0_ j_ i_ w N1 R) (fun w0_ j_ w => iplaw_World_Untouched.L3 w0_ j_ w  R)) h)
def iplaw_World_Untouched.L1 (w0 : Option Addr) (j : Int) (w : World)  (R : Bool → World → Prop) : Prop :=
  ∃ (I : Nat → Option Addr → Int → World → Prop) (m : Nat), I m w0 j w ∧ ∀ m w0 j w, I m w0 j w → iplaw_World_Untouched.L1b w0 j w  (fun w0' j' w' => ∃ m', m' < m ∧ I m' w0' j' w') R
theorem iplaw_World_Untouched.L1_sound {R : Bool → World → Prop}  (w0 : Option Addr) (j : Int) (w : World) (h : iplaw_World_Untouched.L1 w0 j w  R) :
    KW Try.prog 15 167 (iplaw_World_Untouched.RV R) ([(0, [1, 0, 1, 0, 0]), (2, [1, 0, 1, 0, 0]), (1, [0]), (0, [1, 1])].map (toItem (Try.f15.body.getD .skip))) [(0, .pointer w0), (3, .int .i64 j)] w := by
  obtain ⟨I, m, h0, hr⟩ := h
  refine KW.loop (fun m σ w => ∃ (w0 : Option Addr) (j : Int), σ = [(0, .pointer w0), (3, .int .i64 j)] ∧ I m w0 j w) ?_ m _ w ⟨w0, j, rfl, h0⟩
  rintro m ih σ w ⟨w0, j, rfl, hI⟩
  exact iplaw_World_Untouched.L1b_sound  (N1 := fun w0' j' w' => ∃ m', m' < m ∧ I m' w0' j' w') (fun w0' j' w' hx => by obtain ⟨m', hlt, hI'⟩ := hx; exact ih m' hlt _ w' ⟨w0', j', rfl, hI'⟩) w0 j w (hr m w0 j w hI)
def iplaw_World_Untouched.B0 (w0 : Option Addr) (w : World)   (R : Bool → World → Prop) : Prop :=
  iplaw_World_Untouched.L1 w0 (0 : Int) w  R
theorem iplaw_World_Untouched.B0_eq (w0 : Option Addr) (w : World)   (R : Bool → World → Prop) (sL1 : Option Addr → Int → World → Prop) :
    (
  sL1 w0 (0 : Int) w) = kstep Try.prog 167 Try.f15.results.toList (Try.f15.body.getD .skip) (iplaw_World_Untouched.RV R) (kvc Try.prog 167 Try.f15.results.toList (Try.f15.body.getD .skip) (iplaw_World_Untouched.RV R) [([(0, [1, 0, 1, 0, 0]), (2, [1, 0, 1, 0, 0]), (1, [0]), (0, [1, 1])], fun σ w => dP (slotOf σ 0) fun w0_ => dI .i64 (slotOf σ 3) fun j_ => sL1 w0_ j_ w)] 2000) [(0, [])] [(0, .pointer w0)] w := by kernel_rfl
theorem iplaw_World_Untouched.B0_sound {R : Bool → World → Prop}  (w0 : Option Addr) (w : World) (h : iplaw_World_Untouched.B0 w0 w   R) :
    KW Try.prog 15 167 (iplaw_World_Untouched.RV R) ([(0, [])].map (toItem (Try.f15.body.getD .skip))) [(0, .pointer w0)] w := by
  exact block_spec Try.func15 Try.mixed (stops_cons (fun σ w h => by
      obtain ⟨w0_, e0, h⟩ := dP_elim h
      obtain ⟨j_, e1, h⟩ := dI_elim h
      exact (iplaw_World_Untouched.L1_sound  w0_ j_ w h).weaken (Sub.cons (Sub.cons (Sub.nil _) e1) e0)) stops_nil) (Eq.mp (iplaw_World_Untouched.B0_eq w0 w   R (fun w0_ j_ w => iplaw_World_Untouched.L1 w0_ j_ w  R)) h)
theorem iplaw_World_Untouched.sound (w0 : Option Addr) (w : World) (R : Bool → World → Prop) (h : iplaw_World_Untouched.B0 w0 w R) : iplaw_World_Untouched.Call w0 w R := by
  have hc := calls_of_block (args := #[.pointer w0]) Try.func15 (body := (Try.f15.body.getD .skip)) (by kernel_rfl) (by kernel_rfl) (args_slot _) (iplaw_World_Untouched.B0_sound w0 w h)
  exact hc.mono fun e w' he => by
    obtain ⟨v, rfl, hv⟩ := he
    exact iplaw_World_Untouched.RV_elim hv
def iplaw_SameAddr.B0 (x m0 : Option Addr) (w : World)   (R : Bool → World → Prop) : Prop :=
  ip_IP_Addr.Call x w fun r8 w1 =>
  ipm_IP_Addr.Call m0 w1 fun r10 w2 =>
  R (r8 == r10) w2
theorem iplaw_SameAddr.B0_eq (x m0 : Option Addr) (w : World)   (R : Bool → World → Prop)  :
    (
  ip_IP_Addr.Call x w fun r8 w1 =>
  ipm_IP_Addr.Call m0 w1 fun r10 w2 =>
  R (r8 == r10) w2) = kstep Try.prog 14 Try.f16.results.toList (Try.f16.body.getD .skip) (iplaw_SameAddr.RV R) (kvc Try.prog 14 Try.f16.results.toList (Try.f16.body.getD .skip) (iplaw_SameAddr.RV R) [] 2000) [(0, [])] [(0, .pointer x), (1, .pointer m0)] w := by kernel_rfl
theorem iplaw_SameAddr.B0_sound {R : Bool → World → Prop}  (x m0 : Option Addr) (w : World) (h : iplaw_SameAddr.B0 x m0 w   R) :
    KW Try.prog 16 14 (iplaw_SameAddr.RV R) ([(0, [])].map (toItem (Try.f16.body.getD .skip))) [(0, .pointer x), (1, .pointer m0)] w := by
  exact block_spec Try.func16 Try.mixed stops_nil (Eq.mp (iplaw_SameAddr.B0_eq x m0 w   R ) h)
theorem iplaw_SameAddr.sound (x m0 : Option Addr) (w : World) (R : Bool → World → Prop) (h : iplaw_SameAddr.B0 x m0 w R) : iplaw_SameAddr.Call x m0 w R := by
  have hc := calls_of_block (args := #[.pointer x, .pointer m0]) Try.func16 (body := (Try.f16.body.getD .skip)) (by kernel_rfl) (by kernel_rfl) (args_slot _) (iplaw_SameAddr.B0_sound x m0 w h)
  exact hc.mono fun e w' he => by
    obtain ⟨v, rfl, hv⟩ := he
    exact iplaw_SameAddr.RV_elim hv
def iplaw_SameNextId.B0 (x m0 : Option Addr) (w : World)   (R : Bool → World → Prop) : Prop :=
  ip_IP_NextId.Call x w fun r8 w1 =>
  ipm_IP_NextId.Call m0 w1 fun r10 w2 =>
  R (r8 == r10) w2
theorem iplaw_SameNextId.B0_eq (x m0 : Option Addr) (w : World)   (R : Bool → World → Prop)  :
    (
  ip_IP_NextId.Call x w fun r8 w1 =>
  ipm_IP_NextId.Call m0 w1 fun r10 w2 =>
  R (r8 == r10) w2) = kstep Try.prog 14 Try.f17.results.toList (Try.f17.body.getD .skip) (iplaw_SameNextId.RV R) (kvc Try.prog 14 Try.f17.results.toList (Try.f17.body.getD .skip) (iplaw_SameNextId.RV R) [] 2000) [(0, [])] [(0, .pointer x), (1, .pointer m0)] w := by kernel_rfl
theorem iplaw_SameNextId.B0_sound {R : Bool → World → Prop}  (x m0 : Option Addr) (w : World) (h : iplaw_SameNextId.B0 x m0 w   R) :
    KW Try.prog 17 14 (iplaw_SameNextId.RV R) ([(0, [])].map (toItem (Try.f17.body.getD .skip))) [(0, .pointer x), (1, .pointer m0)] w := by
  exact block_spec Try.func17 Try.mixed stops_nil (Eq.mp (iplaw_SameNextId.B0_eq x m0 w   R ) h)
theorem iplaw_SameNextId.sound (x m0 : Option Addr) (w : World) (R : Bool → World → Prop) (h : iplaw_SameNextId.B0 x m0 w R) : iplaw_SameNextId.Call x m0 w R := by
  have hc := calls_of_block (args := #[.pointer x, .pointer m0]) Try.func17 (body := (Try.f17.body.getD .skip)) (by kernel_rfl) (by kernel_rfl) (args_slot _) (iplaw_SameNextId.B0_sound x m0 w h)
  exact hc.mono fun e w' he => by
    obtain ⟨v, rfl, hv⟩ := he
    exact iplaw_SameNextId.RV_elim hv
def iplaw_SameCredit.B0 (x m0 : Option Addr) (w : World)   (R : Bool → World → Prop) : Prop :=
  ip_IP_Credit.Call x w fun r8 w1 =>
  ipm_IP_Credit.Call m0 w1 fun r10 w2 =>
  R (r8 == r10) w2
theorem iplaw_SameCredit.B0_eq (x m0 : Option Addr) (w : World)   (R : Bool → World → Prop)  :
    (
  ip_IP_Credit.Call x w fun r8 w1 =>
  ipm_IP_Credit.Call m0 w1 fun r10 w2 =>
  R (r8 == r10) w2) = kstep Try.prog 14 Try.f18.results.toList (Try.f18.body.getD .skip) (iplaw_SameCredit.RV R) (kvc Try.prog 14 Try.f18.results.toList (Try.f18.body.getD .skip) (iplaw_SameCredit.RV R) [] 2000) [(0, [])] [(0, .pointer x), (1, .pointer m0)] w := by kernel_rfl
theorem iplaw_SameCredit.B0_sound {R : Bool → World → Prop}  (x m0 : Option Addr) (w : World) (h : iplaw_SameCredit.B0 x m0 w   R) :
    KW Try.prog 18 14 (iplaw_SameCredit.RV R) ([(0, [])].map (toItem (Try.f18.body.getD .skip))) [(0, .pointer x), (1, .pointer m0)] w := by
  exact block_spec Try.func18 Try.mixed stops_nil (Eq.mp (iplaw_SameCredit.B0_eq x m0 w   R ) h)
theorem iplaw_SameCredit.sound (x m0 : Option Addr) (w : World) (R : Bool → World → Prop) (h : iplaw_SameCredit.B0 x m0 w R) : iplaw_SameCredit.Call x m0 w R := by
  have hc := calls_of_block (args := #[.pointer x, .pointer m0]) Try.func18 (body := (Try.f18.body.getD .skip)) (by kernel_rfl) (by kernel_rfl) (args_slot _) (iplaw_SameCredit.B0_sound x m0 w h)
  exact hc.mono fun e w' he => by
    obtain ⟨v, rfl, hv⟩ := he
    exact iplaw_SameCredit.RV_elim hv
def iplaw_SamePending.B1 (a_b : Option Addr) (a_l a_c : Nat) (b_b : Option Addr) (b_l b_c : Nat) (i : Int) (t100 : Bool) (w : World) (N1 : Option Addr → Nat → Nat → Option Addr → Nat → Nat → Int → World → Prop)  (R : Option Addr → Nat → Nat → Bool → World → Prop) : Prop :=
  Bm t100 (
    R a_b a_l a_c false w) (
    N1 a_b a_l a_c b_b b_l b_c (IntKind.i64.wrap (i + (1 : Int))) w)
theorem iplaw_SamePending.B1_eq (a_b : Option Addr) (a_l a_c : Nat) (b_b : Option Addr) (b_l b_c : Nat) (i : Int) (t100 : Bool) (w : World) (N1 : Option Addr → Nat → Nat → Option Addr → Nat → Nat → Int → World → Prop)  (R : Option Addr → Nat → Nat → Bool → World → Prop)  :
    (
  Bm t100 (
    R a_b a_l a_c false w) (
    N1 a_b a_l a_c b_b b_l b_c (IntKind.i64.wrap (i + (1 : Int))) w)) = kstep Try.prog 103 Try.f19.results.toList (Try.f19.body.getD .skip) (iplaw_SamePending.RV R) (kvc Try.prog 103 Try.f19.results.toList (Try.f19.body.getD .skip) (iplaw_SamePending.RV R) [([(0, [1, 1, 1, 1, 0, 1, 0, 0]), (2, [1, 1, 1, 1, 0, 1, 0, 0]), (1, [0]), (0, [1, 1, 1, 1, 1])], fun σ w => dL (slotOf σ 6) fun a_b_ a_l_ a_c_ => dL (slotOf σ 7) fun b_b_ b_l_ b_c_ => dI .i64 (slotOf σ 8) fun i_ => N1 a_b_ a_l_ a_c_ b_b_ b_l_ b_c_ i_ w)] 2000) [(0, [1, 1, 1, 1, 0, 1, 0, 0, 1, 0, 0, 1]), (1, [1]), (0, [1, 1, 1, 1, 0, 1, 0, 0, 1, 1]), (2, [1, 1, 1, 1, 0, 1, 0, 0]), (1, [0]), (0, [1, 1, 1, 1, 1])] [(6, .slice a_b a_l a_c), (7, .slice b_b b_l b_c), (8, .int .i64 i), (100, .bool t100)] w := by kernel_rfl
theorem iplaw_SamePending.B1_sound {R : Option Addr → Nat → Nat → Bool → World → Prop} {N1 : Option Addr → Nat → Nat → Option Addr → Nat → Nat → Int → World → Prop} (hN1 : ∀ a_b a_l a_c b_b b_l b_c i w, N1 a_b a_l a_c b_b b_l b_c i w → KW Try.prog 19 103 (iplaw_SamePending.RV R) ([(0, [1, 1, 1, 1, 0, 1, 0, 0]), (2, [1, 1, 1, 1, 0, 1, 0, 0]), (1, [0]), (0, [1, 1, 1, 1, 1])].map (toItem (Try.f19.body.getD .skip))) [(6, .slice a_b a_l a_c), (7, .slice b_b b_l b_c), (8, .int .i64 i)] w) (a_b : Option Addr) (a_l a_c : Nat) (b_b : Option Addr) (b_l b_c : Nat) (i : Int) (t100 : Bool) (w : World) (h : iplaw_SamePending.B1 a_b a_l a_c b_b b_l b_c i t100 w N1  R) :
    KW Try.prog 19 103 (iplaw_SamePending.RV R) ([(0, [1, 1, 1, 1, 0, 1, 0, 0, 1, 0, 0, 1]), (1, [1]), (0, [1, 1, 1, 1, 0, 1, 0, 0, 1, 1]), (2, [1, 1, 1, 1, 0, 1, 0, 0]), (1, [0]), (0, [1, 1, 1, 1, 1])].map (toItem (Try.f19.body.getD .skip))) [(6, .slice a_b a_l a_c), (7, .slice b_b b_l b_c), (8, .int .i64 i), (100, .bool t100)] w := by
  exact block_spec Try.func19 Try.mixed (stops_cons (fun σ w h => by
      obtain ⟨a_b_, a_l_, a_c_, e0, h⟩ := dL_elim h
      obtain ⟨b_b_, b_l_, b_c_, e1, h⟩ := dL_elim h
      obtain ⟨i_, e2, h⟩ := dI_elim h
      exact (hN1 a_b_ a_l_ a_c_ b_b_ b_l_ b_c_ i_ w h).weaken (Sub.cons (Sub.cons (Sub.cons (Sub.nil _) e2) e1) e0)) stops_nil) (Eq.mp (iplaw_SamePending.B1_eq a_b a_l a_c b_b b_l b_c i t100 w N1  R ) h)
def iplaw_SamePending.L1b (a_b : Option Addr) (a_l a_c : Nat) (b_b : Option Addr) (b_l b_c : Nat) (i : Int) (w : World)  (N1 : Option Addr → Nat → Nat → Option Addr → Nat → Nat → Int → World → Prop) (R : Option Addr → Nat → Nat → Bool → World → Prop) : Prop :=
  Bm (decide (i < ((a_l : Nat) : Int))) (
    Pn a_b fun a =>
    (0 ≤ i ∧ i < ((a_l : Nat) : Int)) ∧
    LdI .i64 (Addr.add a (i.toNat * 6)) w.drew fun x29 =>
    Pn b_b fun a_1 =>
    (0 ≤ i ∧ i < ((b_l : Nat) : Int)) ∧
    LdI .i64 (Addr.add a_1 (i.toNat * 6)) w.drew fun x34 =>
    Bm (x29 != x34) (
      iplaw_SamePending.B1 a_b a_l a_c b_b b_l b_c i true w.drew N1 R) (
      Pn a_b fun a_2 =>
      (0 ≤ i ∧ i < ((a_l : Nat) : Int)) ∧
      LdI .i64 ((Addr.add a_2 (i.toNat * 6)).add 1) w.drew fun x41 =>
      Pn b_b fun a_3 =>
      (0 ≤ i ∧ i < ((b_l : Nat) : Int)) ∧
      LdI .i64 ((Addr.add a_3 (i.toNat * 6)).add 1) w.drew fun x46 =>
      Bm (x41 != x46) (
        iplaw_SamePending.B1 a_b a_l a_c b_b b_l b_c i true w.drew N1 R) (
        Pn a_b fun a_4 =>
        (0 ≤ i ∧ i < ((a_l : Nat) : Int)) ∧
        LdI .i64 ((Addr.add a_4 (i.toNat * 6)).add 2) w.drew fun x54 =>
        Pn b_b fun a_5 =>
        (0 ≤ i ∧ i < ((b_l : Nat) : Int)) ∧
        LdI .i64 ((Addr.add a_5 (i.toNat * 6)).add 2) w.drew fun x59 =>
        Bm (x54 != x59) (
          iplaw_SamePending.B1 a_b a_l a_c b_b b_l b_c i true w.drew N1 R) (
          Pn a_b fun a_6 =>
          (0 ≤ i ∧ i < ((a_l : Nat) : Int)) ∧
          LdI .i64 ((Addr.add a_6 (i.toNat * 6)).add 3) w.drew fun x67 =>
          Pn b_b fun a_7 =>
          (0 ≤ i ∧ i < ((b_l : Nat) : Int)) ∧
          LdI .i64 ((Addr.add a_7 (i.toNat * 6)).add 3) w.drew fun x72 =>
          Bm (x67 != x72) (
            iplaw_SamePending.B1 a_b a_l a_c b_b b_l b_c i true w.drew N1 R) (
            Pn a_b fun a_8 =>
            (0 ≤ i ∧ i < ((a_l : Nat) : Int)) ∧
            LdI .i64 ((Addr.add a_8 (i.toNat * 6)).add 4) w.drew fun x80 =>
            Pn b_b fun a_9 =>
            (0 ≤ i ∧ i < ((b_l : Nat) : Int)) ∧
            LdI .i64 ((Addr.add a_9 (i.toNat * 6)).add 4) w.drew fun x85 =>
            Bm (x80 != x85) (
              iplaw_SamePending.B1 a_b a_l a_c b_b b_l b_c i true w.drew N1 R) (
              Pn a_b fun a_10 =>
              (0 ≤ i ∧ i < ((a_l : Nat) : Int)) ∧
              LdI .i64 ((Addr.add a_10 (i.toNat * 6)).add 5) w.drew fun x93 =>
              Pn b_b fun a_11 =>
              (0 ≤ i ∧ i < ((b_l : Nat) : Int)) ∧
              LdI .i64 ((Addr.add a_11 (i.toNat * 6)).add 5) w.drew fun x98 =>
              iplaw_SamePending.B1 a_b a_l a_c b_b b_l b_c i (x93 != x98) w.drew N1 R)))))) (
    R a_b a_l a_c true w)
theorem iplaw_SamePending.L1b_eq (a_b : Option Addr) (a_l a_c : Nat) (b_b : Option Addr) (b_l b_c : Nat) (i : Int) (w : World)  (N1 : Option Addr → Nat → Nat → Option Addr → Nat → Nat → Int → World → Prop) (R : Option Addr → Nat → Nat → Bool → World → Prop) (sB1 : Option Addr → Nat → Nat → Option Addr → Nat → Nat → Int → Bool → World → Prop) :
    (
  Bm (decide (i < ((a_l : Nat) : Int))) (
    Pn a_b fun a =>
    (0 ≤ i ∧ i < ((a_l : Nat) : Int)) ∧
    LdI .i64 (Addr.add a (i.toNat * 6)) w.drew fun x29 =>
    Pn b_b fun a_1 =>
    (0 ≤ i ∧ i < ((b_l : Nat) : Int)) ∧
    LdI .i64 (Addr.add a_1 (i.toNat * 6)) w.drew fun x34 =>
    Bm (x29 != x34) (
      sB1 a_b a_l a_c b_b b_l b_c i true w.drew) (
      Pn a_b fun a_2 =>
      (0 ≤ i ∧ i < ((a_l : Nat) : Int)) ∧
      LdI .i64 ((Addr.add a_2 (i.toNat * 6)).add 1) w.drew fun x41 =>
      Pn b_b fun a_3 =>
      (0 ≤ i ∧ i < ((b_l : Nat) : Int)) ∧
      LdI .i64 ((Addr.add a_3 (i.toNat * 6)).add 1) w.drew fun x46 =>
      Bm (x41 != x46) (
        sB1 a_b a_l a_c b_b b_l b_c i true w.drew) (
        Pn a_b fun a_4 =>
        (0 ≤ i ∧ i < ((a_l : Nat) : Int)) ∧
        LdI .i64 ((Addr.add a_4 (i.toNat * 6)).add 2) w.drew fun x54 =>
        Pn b_b fun a_5 =>
        (0 ≤ i ∧ i < ((b_l : Nat) : Int)) ∧
        LdI .i64 ((Addr.add a_5 (i.toNat * 6)).add 2) w.drew fun x59 =>
        Bm (x54 != x59) (
          sB1 a_b a_l a_c b_b b_l b_c i true w.drew) (
          Pn a_b fun a_6 =>
          (0 ≤ i ∧ i < ((a_l : Nat) : Int)) ∧
          LdI .i64 ((Addr.add a_6 (i.toNat * 6)).add 3) w.drew fun x67 =>
          Pn b_b fun a_7 =>
          (0 ≤ i ∧ i < ((b_l : Nat) : Int)) ∧
          LdI .i64 ((Addr.add a_7 (i.toNat * 6)).add 3) w.drew fun x72 =>
          Bm (x67 != x72) (
            sB1 a_b a_l a_c b_b b_l b_c i true w.drew) (
            Pn a_b fun a_8 =>
            (0 ≤ i ∧ i < ((a_l : Nat) : Int)) ∧
            LdI .i64 ((Addr.add a_8 (i.toNat * 6)).add 4) w.drew fun x80 =>
            Pn b_b fun a_9 =>
            (0 ≤ i ∧ i < ((b_l : Nat) : Int)) ∧
            LdI .i64 ((Addr.add a_9 (i.toNat * 6)).add 4) w.drew fun x85 =>
            Bm (x80 != x85) (
              sB1 a_b a_l a_c b_b b_l b_c i true w.drew) (
              Pn a_b fun a_10 =>
              (0 ≤ i ∧ i < ((a_l : Nat) : Int)) ∧
              LdI .i64 ((Addr.add a_10 (i.toNat * 6)).add 5) w.drew fun x93 =>
              Pn b_b fun a_11 =>
              (0 ≤ i ∧ i < ((b_l : Nat) : Int)) ∧
              LdI .i64 ((Addr.add a_11 (i.toNat * 6)).add 5) w.drew fun x98 =>
              sB1 a_b a_l a_c b_b b_l b_c i (x93 != x98) w.drew)))))) (
    R a_b a_l a_c true w)) = kstep Try.prog 103 Try.f19.results.toList (Try.f19.body.getD .skip) (iplaw_SamePending.RV R) (kvc Try.prog 103 Try.f19.results.toList (Try.f19.body.getD .skip) (iplaw_SamePending.RV R) [([(0, [1, 1, 1, 1, 0, 1, 0, 0, 1, 0, 0, 1]), (1, [1]), (0, [1, 1, 1, 1, 0, 1, 0, 0, 1, 1]), (2, [1, 1, 1, 1, 0, 1, 0, 0]), (1, [0]), (0, [1, 1, 1, 1, 1])], fun σ w => dL (slotOf σ 6) fun a_b_ a_l_ a_c_ => dL (slotOf σ 7) fun b_b_ b_l_ b_c_ => dI .i64 (slotOf σ 8) fun i_ => dB (slotOf σ 100) fun t100_ => sB1 a_b_ a_l_ a_c_ b_b_ b_l_ b_c_ i_ t100_ w)] 2000) [(0, [1, 1, 1, 1, 0, 1, 0, 0]), (2, [1, 1, 1, 1, 0, 1, 0, 0]), (1, [0]), (0, [1, 1, 1, 1, 1])] [(6, .slice a_b a_l a_c), (7, .slice b_b b_l b_c), (8, .int .i64 i)] w := by kernel_rfl
theorem iplaw_SamePending.L1b_sound {R : Option Addr → Nat → Nat → Bool → World → Prop} {N1 : Option Addr → Nat → Nat → Option Addr → Nat → Nat → Int → World → Prop} (hN1 : ∀ a_b a_l a_c b_b b_l b_c i w, N1 a_b a_l a_c b_b b_l b_c i w → KW Try.prog 19 103 (iplaw_SamePending.RV R) ([(0, [1, 1, 1, 1, 0, 1, 0, 0]), (2, [1, 1, 1, 1, 0, 1, 0, 0]), (1, [0]), (0, [1, 1, 1, 1, 1])].map (toItem (Try.f19.body.getD .skip))) [(6, .slice a_b a_l a_c), (7, .slice b_b b_l b_c), (8, .int .i64 i)] w) (a_b : Option Addr) (a_l a_c : Nat) (b_b : Option Addr) (b_l b_c : Nat) (i : Int) (w : World) (h : iplaw_SamePending.L1b a_b a_l a_c b_b b_l b_c i w  N1 R) :
    KW Try.prog 19 103 (iplaw_SamePending.RV R) ([(0, [1, 1, 1, 1, 0, 1, 0, 0]), (2, [1, 1, 1, 1, 0, 1, 0, 0]), (1, [0]), (0, [1, 1, 1, 1, 1])].map (toItem (Try.f19.body.getD .skip))) [(6, .slice a_b a_l a_c), (7, .slice b_b b_l b_c), (8, .int .i64 i)] w := by
  exact block_spec Try.func19 Try.mixed (stops_cons (fun σ w h => by
      obtain ⟨a_b_, a_l_, a_c_, e0, h⟩ := dL_elim h
      obtain ⟨b_b_, b_l_, b_c_, e1, h⟩ := dL_elim h
      obtain ⟨i_, e2, h⟩ := dI_elim h
      obtain ⟨t100_, e3, h⟩ := dB_elim h
      exact (iplaw_SamePending.B1_sound hN1 a_b_ a_l_ a_c_ b_b_ b_l_ b_c_ i_ t100_ w h).weaken (Sub.cons (Sub.cons (Sub.cons (Sub.cons (Sub.nil _) e3) e2) e1) e0)) stops_nil) (Eq.mp (iplaw_SamePending.L1b_eq a_b a_l a_c b_b b_l b_c i w  N1 R (fun a_b_ a_l_ a_c_ b_b_ b_l_ b_c_ i_ t100_ w => iplaw_SamePending.B1 a_b_ a_l_ a_c_ b_b_ b_l_ b_c_ i_ t100_ w N1 R)) h)
def iplaw_SamePending.L1 (a_b : Option Addr) (a_l a_c : Nat) (b_b : Option Addr) (b_l b_c : Nat) (i : Int) (w : World)  (R : Option Addr → Nat → Nat → Bool → World → Prop) : Prop :=
  ∃ (I : Nat → Option Addr → Nat → Nat → Option Addr → Nat → Nat → Int → World → Prop) (m : Nat), I m a_b a_l a_c b_b b_l b_c i w ∧ ∀ m a_b a_l a_c b_b b_l b_c i w, I m a_b a_l a_c b_b b_l b_c i w → iplaw_SamePending.L1b a_b a_l a_c b_b b_l b_c i w  (fun a_b' a_l' a_c' b_b' b_l' b_c' i' w' => ∃ m', m' < m ∧ I m' a_b' a_l' a_c' b_b' b_l' b_c' i' w') R
theorem iplaw_SamePending.L1_sound {R : Option Addr → Nat → Nat → Bool → World → Prop}  (a_b : Option Addr) (a_l a_c : Nat) (b_b : Option Addr) (b_l b_c : Nat) (i : Int) (w : World) (h : iplaw_SamePending.L1 a_b a_l a_c b_b b_l b_c i w  R) :
    KW Try.prog 19 103 (iplaw_SamePending.RV R) ([(0, [1, 1, 1, 1, 0, 1, 0, 0]), (2, [1, 1, 1, 1, 0, 1, 0, 0]), (1, [0]), (0, [1, 1, 1, 1, 1])].map (toItem (Try.f19.body.getD .skip))) [(6, .slice a_b a_l a_c), (7, .slice b_b b_l b_c), (8, .int .i64 i)] w := by
  obtain ⟨I, m, h0, hr⟩ := h
  refine KW.loop (fun m σ w => ∃ (a_b : Option Addr) (a_l a_c : Nat) (b_b : Option Addr) (b_l b_c : Nat) (i : Int), σ = [(6, .slice a_b a_l a_c), (7, .slice b_b b_l b_c), (8, .int .i64 i)] ∧ I m a_b a_l a_c b_b b_l b_c i w) ?_ m _ w ⟨a_b, a_l, a_c, b_b, b_l, b_c, i, rfl, h0⟩
  rintro m ih σ w ⟨a_b, a_l, a_c, b_b, b_l, b_c, i, rfl, hI⟩
  exact iplaw_SamePending.L1b_sound  (N1 := fun a_b' a_l' a_c' b_b' b_l' b_c' i' w' => ∃ m', m' < m ∧ I m' a_b' a_l' a_c' b_b' b_l' b_c' i' w') (fun a_b' a_l' a_c' b_b' b_l' b_c' i' w' hx => by obtain ⟨m', hlt, hI'⟩ := hx; exact ih m' hlt _ w' ⟨a_b', a_l', a_c', b_b', b_l', b_c', i', rfl, hI'⟩) a_b a_l a_c b_b b_l b_c i w (hr m a_b a_l a_c b_b b_l b_c i w hI)
def iplaw_SamePending.B0 (x m0 : Option Addr) (w : World)   (R : Option Addr → Nat → Nat → Bool → World → Prop) : Prop :=
  ip_IP_Pending.Call x w fun r10_b r10_l r10_c w1 =>
  ipm_IP_Pending.Call m0 w1 fun r12_b r12_l r12_c w2 =>
  Bm (((r10_l : Nat) : Int) != ((r12_l : Nat) : Int)) (
    R r10_b r10_l r10_c false w2) (
    iplaw_SamePending.L1 r10_b r10_l r10_c r12_b r12_l r12_c (0 : Int) w2  R)
theorem iplaw_SamePending.B0_eq (x m0 : Option Addr) (w : World)   (R : Option Addr → Nat → Nat → Bool → World → Prop) (sL1 : Option Addr → Nat → Nat → Option Addr → Nat → Nat → Int → World → Prop) :
    (
  ip_IP_Pending.Call x w fun r10_b r10_l r10_c w1 =>
  ipm_IP_Pending.Call m0 w1 fun r12_b r12_l r12_c w2 =>
  Bm (((r10_l : Nat) : Int) != ((r12_l : Nat) : Int)) (
    R r10_b r10_l r10_c false w2) (
    sL1 r10_b r10_l r10_c r12_b r12_l r12_c (0 : Int) w2)) = kstep Try.prog 103 Try.f19.results.toList (Try.f19.body.getD .skip) (iplaw_SamePending.RV R) (kvc Try.prog 103 Try.f19.results.toList (Try.f19.body.getD .skip) (iplaw_SamePending.RV R) [([(0, [1, 1, 1, 1, 0, 1, 0, 0]), (2, [1, 1, 1, 1, 0, 1, 0, 0]), (1, [0]), (0, [1, 1, 1, 1, 1])], fun σ w => dL (slotOf σ 6) fun a_b_ a_l_ a_c_ => dL (slotOf σ 7) fun b_b_ b_l_ b_c_ => dI .i64 (slotOf σ 8) fun i_ => sL1 a_b_ a_l_ a_c_ b_b_ b_l_ b_c_ i_ w)] 2000) [(0, [])] [(0, .pointer x), (1, .pointer m0)] w := by kernel_rfl
theorem iplaw_SamePending.B0_sound {R : Option Addr → Nat → Nat → Bool → World → Prop}  (x m0 : Option Addr) (w : World) (h : iplaw_SamePending.B0 x m0 w   R) :
    KW Try.prog 19 103 (iplaw_SamePending.RV R) ([(0, [])].map (toItem (Try.f19.body.getD .skip))) [(0, .pointer x), (1, .pointer m0)] w := by
  exact block_spec Try.func19 Try.mixed (stops_cons (fun σ w h => by
      obtain ⟨a_b_, a_l_, a_c_, e0, h⟩ := dL_elim h
      obtain ⟨b_b_, b_l_, b_c_, e1, h⟩ := dL_elim h
      obtain ⟨i_, e2, h⟩ := dI_elim h
      exact (iplaw_SamePending.L1_sound  a_b_ a_l_ a_c_ b_b_ b_l_ b_c_ i_ w h).weaken (Sub.cons (Sub.cons (Sub.cons (Sub.nil _) e2) e1) e0)) stops_nil) (Eq.mp (iplaw_SamePending.B0_eq x m0 w   R (fun a_b_ a_l_ a_c_ b_b_ b_l_ b_c_ i_ w => iplaw_SamePending.L1 a_b_ a_l_ a_c_ b_b_ b_l_ b_c_ i_ w  R)) h)
theorem iplaw_SamePending.sound (x m0 : Option Addr) (w : World) (R : Option Addr → Nat → Nat → Bool → World → Prop) (h : iplaw_SamePending.B0 x m0 w R) : iplaw_SamePending.Call x m0 w R := by
  have hc := calls_of_block (args := #[.pointer x, .pointer m0]) Try.func19 (body := (Try.f19.body.getD .skip)) (by kernel_rfl) (by kernel_rfl) (args_slot _) (iplaw_SamePending.B0_sound x m0 w h)
  exact hc.mono fun e w' he => by
    obtain ⟨v, rfl, hv⟩ := he
    exact iplaw_SamePending.RV_elim hv
end Go.Proofs.Qxb6500425a
