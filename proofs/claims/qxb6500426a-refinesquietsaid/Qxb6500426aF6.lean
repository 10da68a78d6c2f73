import Derived.Test.Qxb6500426aSig
set_option maxRecDepth 100000
set_option linter.unusedVariables false
open Go.Vc
namespace Go.Proofs.Qxb6500426a
def seg_RecvBuf_first.B1 (b : Option Addr) (n : Int) (out_b : Option Addr) (out_l out_c : Nat) (at0 run : Int) (w : World)   (R : Option Addr → Nat → Nat → World → Prop) : Prop :=
  Pn b fun a =>
  (0 ≤ (IntKind.i64.wrap (at0 + run)) ∧ (IntKind.i64.wrap (at0 + run)) ≤ ((16 : Nat) : Int)) ∧
  (0 ≤ at0 ∧ at0 ≤ (IntKind.i64.wrap (at0 + run))) ∧
  Copy 1 out_b out_l (some (slBaseA a at0 ((16 : Nat) : Int) 1)) ((IntKind.i64.wrap (at0 + run)).toNat - at0.toNat) w fun n37 w1 =>
  (0 ≤ run ∧ run ≤ ((out_l : Nat) : Int)) ∧
  Pn b fun a_1 =>
  (0 ≤ (IntKind.i64.wrap (n - run)) ∧ (IntKind.i64.wrap (n - run)) ≤ ((16 : Nat) : Int)) ∧
  Copy 1 (slBase out_b run ((out_c : Nat) : Int) 1) (((out_l : Nat) : Int).toNat - run.toNat) (some (slBaseA a_1 ((0 : Nat) : Int) ((16 : Nat) : Int) 1)) ((IntKind.i64.wrap (n - run)).toNat - ((0 : Nat) : Int).toNat) w1.drew fun n48 w2 =>
  R out_b out_l out_c w2
theorem seg_RecvBuf_first.B1_eq (b : Option Addr) (n : Int) (out_b : Option Addr) (out_l out_c : Nat) (at0 run : Int) (w : World)   (R : Option Addr → Nat → Nat → World → Prop)  :
    (
  Pn b fun a =>
  (0 ≤ (IntKind.i64.wrap (at0 + run)) ∧ (IntKind.i64.wrap (at0 + run)) ≤ ((16 : Nat) : Int)) ∧
  (0 ≤ at0 ∧ at0 ≤ (IntKind.i64.wrap (at0 + run))) ∧
  Copy 1 out_b out_l (some (slBaseA a at0 ((16 : Nat) : Int) 1)) ((IntKind.i64.wrap (at0 + run)).toNat - at0.toNat) w fun n37 w1 =>
  (0 ≤ run ∧ run ≤ ((out_l : Nat) : Int)) ∧
  Pn b fun a_1 =>
  (0 ≤ (IntKind.i64.wrap (n - run)) ∧ (IntKind.i64.wrap (n - run)) ≤ ((16 : Nat) : Int)) ∧
  Copy 1 (slBase out_b run ((out_c : Nat) : Int) 1) (((out_l : Nat) : Int).toNat - run.toNat) (some (slBaseA a_1 ((0 : Nat) : Int) ((16 : Nat) : Int) 1)) ((IntKind.i64.wrap (n - run)).toNat - ((0 : Nat) : Int).toNat) w1.drew fun n48 w2 =>
  R out_b out_l out_c w2) = kstep Try.prog 50 Try.f71.results.toList (Try.f71.body.getD .skip) (seg_RecvBuf_first.RV R) (kvc Try.prog 50 Try.f71.results.toList (Try.f71.body.getD .skip) (seg_RecvBuf_first.RV R) [] 2000) [(0, [1, 1, 1, 1, 1])] [(0, .pointer b), (1, .int .i64 n), (5, .slice out_b out_l out_c), (6, .int .i64 at0), (7, .int .i64 run)] w := by kernel_rfl
theorem seg_RecvBuf_first.B1_sound {R : Option Addr → Nat → Nat → World → Prop}  (b : Option Addr) (n : Int) (out_b : Option Addr) (out_l out_c : Nat) (at0 run : Int) (w : World) (h : seg_RecvBuf_first.B1 b n out_b out_l out_c at0 run w   R) :
    KW Try.prog 71 50 (seg_RecvBuf_first.RV R) ([(0, [1, 1, 1, 1, 1])].map (toItem (Try.f71.body.getD .skip))) [(0, .pointer b), (1, .int .i64 n), (5, .slice out_b out_l out_c), (6, .int .i64 at0), (7, .int .i64 run)] w := by
  exact block_spec Try.func71 Try.mixed stops_nil (Eq.mp (seg_RecvBuf_first.B1_eq b n out_b out_l out_c at0 run w   R ) h)
def seg_RecvBuf_first.B0 (b : Option Addr) (n : Int) (w : World)   (R : Option Addr → Nat → Nat → World → Prop) : Prop :=
  Make 5 (.int .u8 (0 : Int)) 1 1 n n w fun b9 w1 =>
  Pn b fun a =>
  LdI .u8 (a.add 16) w1.drew fun x13 =>
  Pn b fun a_1 =>
  LdI .i64 (a_1.add 17) w1.drew fun x19 =>
  (16 : Int) ≠ 0 ∧
  Bm (decide ((IntKind.i64.wrap ((16 : Int) - ((IntKind.i64.wrap ((IntKind.i64.wrap ((IntKind.i64.wrap x13) + (256 : Int))) - x19)).tmod (16 : Int)))) > n)) (
    seg_RecvBuf_first.B1 b n (some ⟨b9, 0, none⟩) n.toNat n.toNat ((IntKind.i64.wrap ((IntKind.i64.wrap ((IntKind.i64.wrap x13) + (256 : Int))) - x19)).tmod (16 : Int)) n w1.drew  R) (
    seg_RecvBuf_first.B1 b n (some ⟨b9, 0, none⟩) n.toNat n.toNat ((IntKind.i64.wrap ((IntKind.i64.wrap ((IntKind.i64.wrap x13) + (256 : Int))) - x19)).tmod (16 : Int)) (IntKind.i64.wrap ((16 : Int) - ((IntKind.i64.wrap ((IntKind.i64.wrap ((IntKind.i64.wrap x13) + (256 : Int))) - x19)).tmod (16 : Int)))) w1.drew  R)
theorem seg_RecvBuf_first.B0_eq (b : Option Addr) (n : Int) (w : World)   (R : Option Addr → Nat → Nat → World → Prop) (sB1 : Option Addr → Int → Option Addr → Nat → Nat → Int → Int → World → Prop) :
    (
  Make 5 (.int .u8 (0 : Int)) 1 1 n n w fun b9 w1 =>
  Pn b fun a =>
  LdI .u8 (a.add 16) w1.drew fun x13 =>
  Pn b fun a_1 =>
  LdI .i64 (a_1.add 17) w1.drew fun x19 =>
  (16 : Int) ≠ 0 ∧
  Bm (decide ((IntKind.i64.wrap ((16 : Int) - ((IntKind.i64.wrap ((IntKind.i64.wrap ((IntKind.i64.wrap x13) + (256 : Int))) - x19)).tmod (16 : Int)))) > n)) (
    sB1 b n (some ⟨b9, 0, none⟩) n.toNat n.toNat ((IntKind.i64.wrap ((IntKind.i64.wrap ((IntKind.i64.wrap x13) + (256 : Int))) - x19)).tmod (16 : Int)) n w1.drew) (
    sB1 b n (some ⟨b9, 0, none⟩) n.toNat n.toNat ((IntKind.i64.wrap ((IntKind.i64.wrap ((IntKind.i64.wrap x13) + (256 : Int))) - x19)).tmod (16 : Int)) (IntKind.i64.wrap ((16 : Int) - ((IntKind.i64.wrap ((IntKind.i64.wrap ((IntKind.i64.wrap x13) + (256 : Int))) - x19)).tmod (16 : Int)))) w1.drew)) = kstep Try.prog 50 Try.f71.results.toList (Try.f71.body.getD .skip) (seg_RecvBuf_first.RV R) (kvc Try.prog 50 Try.f71.results.toList (Try.f71.body.getD .skip) (seg_RecvBuf_first.RV R) [([(0, [1, 1, 1, 1, 1])], fun σ w => dP (slotOf σ 0) fun b_ => dI .i64 (slotOf σ 1) fun n_ => dL (slotOf σ 5) fun out_b_ out_l_ out_c_ => dI .i64 (slotOf σ 6) fun at0_ => dI .i64 (slotOf σ 7) fun run_ => sB1 b_ n_ out_b_ out_l_ out_c_ at0_ run_ w)] 2000) [(0, [])] [(0, .pointer b), (1, .int .i64 n)] w := by kernel_rfl
theorem seg_RecvBuf_first.B0_sound {R : Option Addr → Nat → Nat → World → Prop}  (b : Option Addr) (n : Int) (w : World) (h : seg_RecvBuf_first.B0 b n w   R) :
    KW Try.prog 71 50 (seg_RecvBuf_first.RV R) ([(0, [])].map (toItem (Try.f71.body.getD .skip))) [(0, .pointer b), (1, .int .i64 n)] w := by
  exact block_spec Try.func71 Try.mixed (stops_cons (fun σ w h => by
      obtain ⟨b_, e0, h⟩ := dP_elim h
      obtain ⟨n_, e1, h⟩ := dI_elim h
      obtain ⟨out_b_, out_l_, out_c_, e2, h⟩ := dL_elim h
      obtain ⟨at0_, e3, h⟩ := dI_elim h
      obtain ⟨run_, e4, h⟩ := dI_elim h
      exact (seg_RecvBuf_first.B1_sound  b_ n_ out_b_ out_l_ out_c_ at0_ run_ w h).weaken (Sub.cons (Sub.cons (Sub.cons (Sub.cons (Sub.cons (Sub.nil _) e4) e3) e2) e1) e0)) stops_nil) (Eq.mp (seg_RecvBuf_first.B0_eq b n w   R (fun b_ n_ out_b_ out_l_ out_c_ at0_ run_ w => seg_RecvBuf_first.B1 b_ n_ out_b_ out_l_ out_c_ at0_ run_ w  R)) h)
theorem seg_RecvBuf_first.sound (b : Option Addr) (n : Int) (w : World) (R : Option Addr → Nat → Nat → World → Prop) (h : seg_RecvBuf_first.B0 b n w R) : seg_RecvBuf_first.Call b n w R := by
  have hc := calls_of_block (args := #[.pointer b, .int .i64 n]) Try.func71 (body := (Try.f71.body.getD .skip)) (by kernel_rfl) (by kernel_rfl) (args_slot _) (seg_RecvBuf_first.B0_sound b n w h)
  exact hc.mono fun e w' he => by
    obtain ⟨v, rfl, hv⟩ := he
    exact seg_RecvBuf_first.RV_elim hv
def seg_RecvBuf_bit.B0 (b : Option Addr) (d : Int) (w : World)   (R : Int → World → Prop) : Prop :=
  Pn b fun a =>
  LdI .u8 (a.add 16) w fun x8 =>
  (16 : Int) ≠ 0 ∧
  0 ≤ (IntKind.u64.wrap ((IntKind.i64.wrap ((IntKind.i64.wrap x8) + d)).tmod (16 : Int))) ∧
  R (IntKind.u16.wrap ((1 : Int) * 2 ^ (min (IntKind.u64.wrap ((IntKind.i64.wrap ((IntKind.i64.wrap x8) + d)).tmod (16 : Int))).toNat IntKind.u16.bits))) w
theorem seg_RecvBuf_bit.B0_eq (b : Option Addr) (d : Int) (w : World)   (R : Int → World → Prop)  :
    (
  Pn b fun a =>
  LdI .u8 (a.add 16) w fun x8 =>
  (16 : Int) ≠ 0 ∧
  0 ≤ (IntKind.u64.wrap ((IntKind.i64.wrap ((IntKind.i64.wrap x8) + d)).tmod (16 : Int))) ∧
  R (IntKind.u16.wrap ((1 : Int) * 2 ^ (min (IntKind.u64.wrap ((IntKind.i64.wrap ((IntKind.i64.wrap x8) + d)).tmod (16 : Int))).toNat IntKind.u16.bits))) w) = kstep Try.prog 15 Try.f72.results.toList (Try.f72.body.getD .skip) (seg_RecvBuf_bit.RV R) (kvc Try.prog 15 Try.f72.results.toList (Try.f72.body.getD .skip) (seg_RecvBuf_bit.RV R) [] 2000) [(0, [])] [(0, .pointer b), (1, .int .i64 d)] w := by kernel_rfl
theorem seg_RecvBuf_bit.B0_sound {R : Int → World → Prop}  (b : Option Addr) (d : Int) (w : World) (h : seg_RecvBuf_bit.B0 b d w   R) :
    KW Try.prog 72 15 (seg_RecvBuf_bit.RV R) ([(0, [])].map (toItem (Try.f72.body.getD .skip))) [(0, .pointer b), (1, .int .i64 d)] w := by
  exact block_spec Try.func72 Try.mixed stops_nil (Eq.mp (seg_RecvBuf_bit.B0_eq b d w   R ) h)
theorem seg_RecvBuf_bit.sound (b : Option Addr) (d : Int) (w : World) (R : Int → World → Prop) (h : seg_RecvBuf_bit.B0 b d w R) : seg_RecvBuf_bit.Call b d w R := by
  have hc := calls_of_block (args := #[.pointer b, .int .i64 d]) Try.func72 (body := (Try.f72.body.getD .skip)) (by kernel_rfl) (by kernel_rfl) (args_slot _) (seg_RecvBuf_bit.B0_sound b d w h)
  exact hc.mono fun e w' he => by
    obtain ⟨v, rfl, hv⟩ := he
    exact seg_RecvBuf_bit.RV_elim hv
def seg_least.B1 (max : Int) (w : World)   (R : Int → World → Prop) : Prop :=
  Bm (decide (max < (0 : Int))) (
    R (0 : Int) w) (
    R max w)
theorem seg_least.B1_eq (max : Int) (w : World)   (R : Int → World → Prop)  :
    (
  Bm (decide (max < (0 : Int))) (
    R (0 : Int) w) (
    R max w)) = kstep Try.prog 12 Try.f73.results.toList (Try.f73.body.getD .skip) (seg_least.RV R) (kvc Try.prog 12 Try.f73.results.toList (Try.f73.body.getD .skip) (seg_least.RV R) [] 2000) [(0, [1, 1])] [(0, .int .i64 max)] w := by kernel_rfl
theorem seg_least.B1_sound {R : Int → World → Prop}  (max : Int) (w : World) (h : seg_least.B1 max w   R) :
    KW Try.prog 73 12 (seg_least.RV R) ([(0, [1, 1])].map (toItem (Try.f73.body.getD .skip))) [(0, .int .i64 max)] w := by
  exact block_spec Try.func73 Try.mixed stops_nil (Eq.mp (seg_least.B1_eq max w   R ) h)
def seg_least.B0 (max have0 : Int) (w : World)   (R : Int → World → Prop) : Prop :=
  Bm (decide (max > have0)) (
    seg_least.B1 have0 w  R) (
    seg_least.B1 max w  R)
theorem seg_least.B0_eq (max have0 : Int) (w : World)   (R : Int → World → Prop) (sB1 : Int → World → Prop) :
    (
  Bm (decide (max > have0)) (
    sB1 have0 w) (
    sB1 max w)) = kstep Try.prog 12 Try.f73.results.toList (Try.f73.body.getD .skip) (seg_least.RV R) (kvc Try.prog 12 Try.f73.results.toList (Try.f73.body.getD .skip) (seg_least.RV R) [([(0, [1, 1])], fun σ w => dI .i64 (slotOf σ 0) fun max_ => sB1 max_ w)] 2000) [(0, [])] [(0, .int .i64 max), (1, .int .i64 have0)] w := by kernel_rfl
theorem seg_least.B0_sound {R : Int → World → Prop}  (max have0 : Int) (w : World) (h : seg_least.B0 max have0 w   R) :
    KW Try.prog 73 12 (seg_least.RV R) ([(0, [])].map (toItem (Try.f73.body.getD .skip))) [(0, .int .i64 max), (1, .int .i64 have0)] w := by
  exact block_spec Try.func73 Try.mixed (stops_cons (fun σ w h => by
      obtain ⟨max_, e0, h⟩ := dI_elim h
      exact (seg_least.B1_sound  max_ w h).weaken (Sub.cons (Sub.nil _) e0)) stops_nil) (Eq.mp (seg_least.B0_eq max have0 w   R (fun max_ w => seg_least.B1 max_ w  R)) h)
theorem seg_least.sound (max have0 : Int) (w : World) (R : Int → World → Prop) (h : seg_least.B0 max have0 w R) : seg_least.Call max have0 w R := by
  have hc := calls_of_block (args := #[.int .i64 max, .int .i64 have0]) Try.func73 (body := (Try.f73.body.getD .skip)) (by kernel_rfl) (by kernel_rfl) (args_slot _) (seg_least.B0_sound max have0 w h)
  exact hc.mono fun e w' he => by
    obtain ⟨v, rfl, hv⟩ := he
    exact seg_least.RV_elim hv
def seg_over.B0 (src dst : Int) (head_b : Option Addr) (head_l head_c : Nat) (data_b : Option Addr) (data_l data_c : Nat) (w : World)   (R : Int → Int → World → Prop) : Prop :=
  New (.cells #[.int .u8 (0 : Int), .int .u8 (0 : Int)] 87) w fun b8 w1 =>
  New (.cells #[.int .u8 (0 : Int), .int .u8 (0 : Int)] 87) w1 fun b w2 =>
  Sts [.int .u8 (0 : Int), .int .u8 (0 : Int)] ⟨b, 0, none⟩ 0 w2 fun w3 =>
  seg_sums_add.Call (some ⟨b, 0, none⟩) (IntKind.u8.wrap src) w3 fun w4 =>
  seg_sums_add.Call (some ⟨b, 0, none⟩) (IntKind.u8.wrap dst) w4 fun w5 =>
  seg_sums_all.Call (some ⟨b, 0, none⟩) head_b head_l head_c w5 fun w6 =>
  seg_sums_all.Call (some ⟨b, 0, none⟩) data_b data_l data_c w6 fun w7 =>
  LdI .u8 ⟨b, 0, none⟩ w7 fun x21_0 =>
  LdI .u8 ⟨b, 1, none⟩ w7 fun x21_1 =>
  Sts [.int .u8 x21_0, .int .u8 x21_1] ⟨b8, 0, none⟩ 0 w7 fun w8 =>
  LdI .u8 ⟨b8, 0, none⟩ w8 fun r_0 =>
  LdI .u8 ⟨b8, 1, none⟩ w8 fun r_1 =>
  R r_0 r_1 w8
theorem seg_over.B0_eq (src dst : Int) (head_b : Option Addr) (head_l head_c : Nat) (data_b : Option Addr) (data_l data_c : Nat) (w : World)   (R : Int → Int → World → Prop)  :
    (
  New (.cells #[.int .u8 (0 : Int), .int .u8 (0 : Int)] 87) w fun b8 w1 =>
  New (.cells #[.int .u8 (0 : Int), .int .u8 (0 : Int)] 87) w1 fun b w2 =>
  Sts [.int .u8 (0 : Int), .int .u8 (0 : Int)] ⟨b, 0, none⟩ 0 w2 fun w3 =>
  seg_sums_add.Call (some ⟨b, 0, none⟩) (IntKind.u8.wrap src) w3 fun w4 =>
  seg_sums_add.Call (some ⟨b, 0, none⟩) (IntKind.u8.wrap dst) w4 fun w5 =>
  seg_sums_all.Call (some ⟨b, 0, none⟩) head_b head_l head_c w5 fun w6 =>
  seg_sums_all.Call (some ⟨b, 0, none⟩) data_b data_l data_c w6 fun w7 =>
  LdI .u8 ⟨b, 0, none⟩ w7 fun x21_0 =>
  LdI .u8 ⟨b, 1, none⟩ w7 fun x21_1 =>
  Sts [.int .u8 x21_0, .int .u8 x21_1] ⟨b8, 0, none⟩ 0 w7 fun w8 =>
  LdI .u8 ⟨b8, 0, none⟩ w8 fun r_0 =>
  LdI .u8 ⟨b8, 1, none⟩ w8 fun r_1 =>
  R r_0 r_1 w8) = kstep Try.prog 22 Try.f74.results.toList (Try.f74.body.getD .skip) (seg_over.RV R) (kvc Try.prog 22 Try.f74.results.toList (Try.f74.body.getD .skip) (seg_over.RV R) [] 2000) [(0, [])] [(0, .int .i64 src), (1, .int .i64 dst), (2, .slice head_b head_l head_c), (3, .slice data_b data_l data_c)] w := by kernel_rfl
theorem seg_over.B0_sound {R : Int → Int → World → Prop}  (src dst : Int) (head_b : Option Addr) (head_l head_c : Nat) (data_b : Option Addr) (data_l data_c : Nat) (w : World) (h : seg_over.B0 src dst head_b head_l head_c data_b data_l data_c w   R) :
    KW Try.prog 74 22 (seg_over.RV R) ([(0, [])].map (toItem (Try.f74.body.getD .skip))) [(0, .int .i64 src), (1, .int .i64 dst), (2, .slice head_b head_l head_c), (3, .slice data_b data_l data_c)] w := by
  exact block_spec Try.func74 Try.mixed stops_nil (Eq.mp (seg_over.B0_eq src dst head_b head_l head_c data_b data_l data_c w   R ) h)
theorem seg_over.sound (src dst : Int) (head_b : Option Addr) (head_l head_c : Nat) (data_b : Option Addr) (data_l data_c : Nat) (w : World) (R : Int → Int → World → Prop) (h : seg_over.B0 src dst head_b head_l head_c data_b data_l data_c w R) : seg_over.Call src dst head_b head_l head_c data_b data_l data_c w R := by
  have hc := calls_of_block (args := #[.int .i64 src, .int .i64 dst, .slice head_b head_l head_c, .slice data_b data_l data_c]) Try.func74 (body := (Try.f74.body.getD .skip)) (by kernel_rfl) (by kernel_rfl) (args_slot _) (seg_over.B0_sound src dst head_b head_l head_c data_b data_l data_c w h)
  exact hc.mono fun e w' he => by
    obtain ⟨v, rfl, hv⟩ := he
    exact seg_over.RV_elim hv
def segm_sums.L1b (all_b : Option Addr) (all_l all_c : Nat) (a b i : Int) (w : World)  (N1 : Option Addr → Nat → Nat → Int → Int → Int → World → Prop) (R : Int → Int → World → Prop) : Prop :=
  Bm (decide (i < ((all_l : Nat) : Int))) (
    Pn all_b fun a_1 =>
    (0 ≤ i ∧ i < ((all_l : Nat) : Int)) ∧
    LdI .u8 (Addr.add a_1 (i.toNat * 1)) w fun x35 =>
    (256 : Int) ≠ 0 ∧
    Pn all_b fun a_2 =>
    (0 ≤ i ∧ i < ((all_l : Nat) : Int)) ∧
    LdI .u8 (Addr.add a_2 (i.toNat * 1)) w fun x47 =>
    (256 : Int) ≠ 0 ∧
    N1 all_b all_l all_c ((IntKind.i64.wrap (a + (IntKind.i64.wrap x35))).tmod (256 : Int)) ((IntKind.i64.wrap (b + (IntKind.i64.wrap ((IntKind.i64.wrap (((all_l : Nat) : Int) - i)) * (IntKind.i64.wrap x47))))).tmod (256 : Int)) (IntKind.i64.wrap (i + (1 : Int))) w) (
    R a b w)
theorem segm_sums.L1b_eq (all_b : Option Addr) (all_l all_c : Nat) (a b i : Int) (w : World)  (N1 : Option Addr → Nat → Nat → Int → Int → Int → World → Prop) (R : Int → Int → World → Prop)  :
    (
  Bm (decide (i < ((all_l : Nat) : Int))) (
    Pn all_b fun a_1 =>
    (0 ≤ i ∧ i < ((all_l : Nat) : Int)) ∧
    LdI .u8 (Addr.add a_1 (i.toNat * 1)) w fun x35 =>
    (256 : Int) ≠ 0 ∧
    Pn all_b fun a_2 =>
    (0 ≤ i ∧ i < ((all_l : Nat) : Int)) ∧
    LdI .u8 (Addr.add a_2 (i.toNat * 1)) w fun x47 =>
    (256 : Int) ≠ 0 ∧
    N1 all_b all_l all_c ((IntKind.i64.wrap (a + (IntKind.i64.wrap x35))).tmod (256 : Int)) ((IntKind.i64.wrap (b + (IntKind.i64.wrap ((IntKind.i64.wrap (((all_l : Nat) : Int) - i)) * (IntKind.i64.wrap x47))))).tmod (256 : Int)) (IntKind.i64.wrap (i + (1 : Int))) w) (
    R a b w)) = kstep Try.prog 54 Try.f75.results.toList (Try.f75.body.getD .skip) (segm_sums.RV R) (kvc Try.prog 54 Try.f75.results.toList (Try.f75.body.getD .skip) (segm_sums.RV R) [([(0, [1, 1, 1, 1, 1, 0, 1, 0, 0]), (2, [1, 1, 1, 1, 1, 0, 1, 0, 0]), (1, [0]), (0, [1, 1, 1, 1, 1, 1])], fun σ w => dL (slotOf σ 10) fun all_b_ all_l_ all_c_ => dI .i64 (slotOf σ 11) fun a_ => dI .i64 (slotOf σ 12) fun b_ => dI .i64 (slotOf σ 13) fun i_ => N1 all_b_ all_l_ all_c_ a_ b_ i_ w)] 2000) [(0, [1, 1, 1, 1, 1, 0, 1, 0, 0]), (2, [1, 1, 1, 1, 1, 0, 1, 0, 0]), (1, [0]), (0, [1, 1, 1, 1, 1, 1])] [(10, .slice all_b all_l all_c), (11, .int .i64 a), (12, .int .i64 b), (13, .int .i64 i)] w := by kernel_rfl
theorem segm_sums.L1b_sound {R : Int → Int → World → Prop} {N1 : Option Addr → Nat → Nat → Int → Int → Int → World → Prop} (hN1 : ∀ all_b all_l all_c a b i w, N1 all_b all_l all_c a b i w → KW Try.prog 75 54 (segm_sums.RV R) ([(0, [1, 1, 1, 1, 1, 0, 1, 0, 0]), (2, [1, 1, 1, 1, 1, 0, 1, 0, 0]), (1, [0]), (0, [1, 1, 1, 1, 1, 1])].map (toItem (Try.f75.body.getD .skip))) [(10, .slice all_b all_l all_c), (11, .int .i64 a), (12, .int .i64 b), (13, .int .i64 i)] w) (all_b : Option Addr) (all_l all_c : Nat) (a b i : Int) (w : World) (h : segm_sums.L1b all_b all_l all_c a b i w  N1 R) :
    KW Try.prog 75 54 (segm_sums.RV R) ([(0, [1, 1, 1, 1, 1, 0, 1, 0, 0]), (2, [1, 1, 1, 1, 1, 0, 1, 0, 0]), (1, [0]), (0, [1, 1, 1, 1, 1, 1])].map (toItem (Try.f75.body.getD .skip))) [(10, .slice all_b all_l all_c), (11, .int .i64 a), (12, .int .i64 b), (13, .int .i64 i)] w := by
  exact block_spec Try.func75 Try.mixed (stops_cons (fun σ w h => by
      obtain ⟨all_b_, all_l_, all_c_, e0, h⟩ := dL_elim h
      obtain ⟨a_, e1, h⟩ := dI_elim h
      obtain ⟨b_, e2, h⟩ := dI_elim h
      obtain ⟨i_, e3, h⟩ := dI_elim h
      exact (hN1 all_b_ all_l_ all_c_ a_ b_ i_ w h).weaken (Sub.cons (Sub.cons (Sub.cons (Sub.cons (Sub.nil _) e3) e2) e1) e0)) stops_nil) (Eq.mp (segm_sums.L1b_eq all_b all_l all_c a b i w  N1 R ) h)
def segm_sums.L1 (all_b : Option Addr) (all_l all_c : Nat) (a b i : Int) (w : World)  (R : Int → Int → World → Prop) : Prop :=
  ∃ (I : Nat → Option Addr → Nat → Nat → Int → Int → Int → World → Prop) (m : Nat), I m all_b all_l all_c a b i w ∧ ∀ m all_b all_l all_c a b i w, I m all_b all_l all_c a b i w → segm_sums.L1b all_b all_l all_c a b i w  (fun all_b' all_l' all_c' a' b' i' w' => ∃ m', m' < m ∧ I m' all_b' all_l' all_c' a' b' i' w') R
theorem segm_sums.L1_sound {R : Int → Int → World → Prop}  (all_b : Option Addr) (all_l all_c : Nat) (a b i : Int) (w : World) (h : segm_sums.L1 all_b all_l all_c a b i w  R) :
    KW Try.prog 75 54 (segm_sums.RV R) ([(0, [1, 1, 1, 1, 1, 0, 1, 0, 0]), (2, [1, 1, 1, 1, 1, 0, 1, 0, 0]), (1, [0]), (0, [1, 1, 1, 1, 1, 1])].map (toItem (Try.f75.body.getD .skip))) [(10, .slice all_b all_l all_c), (11, .int .i64 a), (12, .int .i64 b), (13, .int .i64 i)] w := by
  obtain ⟨I, m, hBase, hr⟩ := h
  refine KW.loop (fun m σ w => ∃ (all_b : Option Addr) (all_l all_c : Nat) (a b i : Int), σ = [(10, .slice all_b all_l all_c), (11, .int .i64 a), (12, .int .i64 b), (13, .int .i64 i)] ∧ I m all_b all_l all_c a b i w) ?_ m _ w ⟨all_b, all_l, all_c, a, b, i, rfl, hBase⟩
  rintro m ih σ w ⟨all_b, all_l, all_c, a, b, i, rfl, hI⟩
  exact segm_sums.L1b_sound  (N1 := fun all_b' all_l' all_c' a' b' i' w' => ∃ m', m' < m ∧ I m' all_b' all_l' all_c' a' b' i' w') (fun all_b' all_l' all_c' a' b' i' w' hx => by obtain ⟨m', hlt, hI'⟩ := hx; exact ih m' hlt _ w' ⟨all_b', all_l', all_c', a', b', i', rfl, hI'⟩) all_b all_l all_c a b i w (hr m all_b all_l all_c a b i w hI)
def segm_sums.B0 (src dst : Int) (head_b : Option Addr) (head_l head_c : Nat) (data_b : Option Addr) (data_l data_c : Nat) (w : World)   (R : Int → Int → World → Prop) : Prop :=
  New (.cells #[.int .u8 (IntKind.u8.wrap src), .int .u8 (IntKind.u8.wrap dst)] 5) w fun b18 w1 =>
  Append 5 (.int .u8 (0 : Int)) 1 1 (some ⟨b18, 0, none⟩) 2 2 head_b head_l w1 fun b21 c21 w2 =>
  Append 5 (.int .u8 (0 : Int)) 1 1 b21 (2 + head_l) c21 data_b data_l w2 fun b24 c24 w3 =>
  segm_sums.L1 b24 ((2 + head_l) + data_l) c24 (0 : Int) (0 : Int) (0 : Int) w3  R
theorem segm_sums.B0_eq (src dst : Int) (head_b : Option Addr) (head_l head_c : Nat) (data_b : Option Addr) (data_l data_c : Nat) (w : World)   (R : Int → Int → World → Prop) (sL1 : Option Addr → Nat → Nat → Int → Int → Int → World → Prop) :
    (
  New (.cells #[.int .u8 (IntKind.u8.wrap src), .int .u8 (IntKind.u8.wrap dst)] 5) w fun b18 w1 =>
  Append 5 (.int .u8 (0 : Int)) 1 1 (some ⟨b18, 0, none⟩) 2 2 head_b head_l w1 fun b21 c21 w2 =>
  Append 5 (.int .u8 (0 : Int)) 1 1 b21 (2 + head_l) c21 data_b data_l w2 fun b24 c24 w3 =>
  sL1 b24 ((2 + head_l) + data_l) c24 (0 : Int) (0 : Int) (0 : Int) w3) = kstep Try.prog 54 Try.f75.results.toList (Try.f75.body.getD .skip) (segm_sums.RV R) (kvc Try.prog 54 Try.f75.results.toList (Try.f75.body.getD .skip) (segm_sums.RV R) [([(0, [1, 1, 1, 1, 1, 0, 1, 0, 0]), (2, [1, 1, 1, 1, 1, 0, 1, 0, 0]), (1, [0]), (0, [1, 1, 1, 1, 1, 1])], fun σ w => dL (slotOf σ 10) fun all_b_ all_l_ all_c_ => dI .i64 (slotOf σ 11) fun a_ => dI .i64 (slotOf σ 12) fun b_ => dI .i64 (slotOf σ 13) fun i_ => sL1 all_b_ all_l_ all_c_ a_ b_ i_ w)] 2000) [(0, [])] [(0, .int .i64 src), (1, .int .i64 dst), (2, .slice head_b head_l head_c), (3, .slice data_b data_l data_c)] w := by kernel_rfl
theorem segm_sums.B0_sound {R : Int → Int → World → Prop}  (src dst : Int) (head_b : Option Addr) (head_l head_c : Nat) (data_b : Option Addr) (data_l data_c : Nat) (w : World) (h : segm_sums.B0 src dst head_b head_l head_c data_b data_l data_c w   R) :
    KW Try.prog 75 54 (segm_sums.RV R) ([(0, [])].map (toItem (Try.f75.body.getD .skip))) [(0, .int .i64 src), (1, .int .i64 dst), (2, .slice head_b head_l head_c), (3, .slice data_b data_l data_c)] w := by
  exact block_spec Try.func75 Try.mixed (stops_cons (fun σ w h => by
      obtain ⟨all_b_, all_l_, all_c_, e0, h⟩ := dL_elim h
      obtain ⟨a_, e1, h⟩ := dI_elim h
      obtain ⟨b_, e2, h⟩ := dI_elim h
      obtain ⟨i_, e3, h⟩ := dI_elim h
      exact (segm_sums.L1_sound  all_b_ all_l_ all_c_ a_ b_ i_ w h).weaken (Sub.cons (Sub.cons (Sub.cons (Sub.cons (Sub.nil _) e3) e2) e1) e0)) stops_nil) (Eq.mp (segm_sums.B0_eq src dst head_b head_l head_c data_b data_l data_c w   R (fun all_b_ all_l_ all_c_ a_ b_ i_ w => segm_sums.L1 all_b_ all_l_ all_c_ a_ b_ i_ w  R)) h)
theorem segm_sums.sound (src dst : Int) (head_b : Option Addr) (head_l head_c : Nat) (data_b : Option Addr) (data_l data_c : Nat) (w : World) (R : Int → Int → World → Prop) (h : segm_sums.B0 src dst head_b head_l head_c data_b data_l data_c w R) : segm_sums.Call src dst head_b head_l head_c data_b data_l data_c w R := by
  have hc := calls_of_block (args := #[.int .i64 src, .int .i64 dst, .slice head_b head_l head_c, .slice data_b data_l data_c]) Try.func75 (body := (Try.f75.body.getD .skip)) (by kernel_rfl) (by kernel_rfl) (args_slot _) (segm_sums.B0_sound src dst head_b head_l head_c data_b data_l data_c w h)
  exact hc.mono fun e w' he => by
    obtain ⟨v, rfl, hv⟩ := he
    exact segm_sums.RV_elim hv
def seg_Decode.B3 (raw_b : Option Addr) (raw_l raw_c t6 none0 : Nat) (t55 : Bool) (w : World)   (R : Int → Int → Int → Int → Int → Int → Option Addr → Nat → Nat → Int → World → Prop) : Prop :=
  Bm t55 (
    LdI .i64 ⟨none0, 0, none⟩ w fun x56_0 =>
    LdI .i64 ⟨none0, 1, none⟩ w fun x56_1 =>
    LdI .i64 ⟨none0, 2, none⟩ w fun x56_2 =>
    LdI .i64 ⟨none0, 3, none⟩ w fun x56_3 =>
    LdI .i64 ⟨none0, 4, none⟩ w fun x56_4 =>
    LdI .i64 ⟨none0, 5, none⟩ w fun x56_5 =>
    LdL ⟨none0, 6, none⟩ w fun x56_6_b x56_6_l x56_6_c =>
    Sts [.int .i64 x56_0, .int .i64 x56_1, .int .i64 x56_2, .int .i64 x56_3, .int .i64 x56_4, .int .i64 x56_5, .slice x56_6_b x56_6_l x56_6_c] ⟨t6, 0, none⟩ 0 w fun w1 =>
    LdI .i64 ⟨t6, 0, none⟩ w1 fun r_0 =>
    LdI .i64 ⟨t6, 1, none⟩ w1 fun r_1 =>
    LdI .i64 ⟨t6, 2, none⟩ w1 fun r_2 =>
    LdI .i64 ⟨t6, 3, none⟩ w1 fun r_3 =>
    LdI .i64 ⟨t6, 4, none⟩ w1 fun r_4 =>
    LdI .i64 ⟨t6, 5, none⟩ w1 fun r_5 =>
    LdL ⟨t6, 6, none⟩ w1 fun r_6_b r_6_l r_6_c =>
    R r_0 r_1 r_2 r_3 r_4 r_5 r_6_b r_6_l r_6_c (4 : Int) w1) (
    Pn raw_b fun a =>
    (0 ≤ (4 : Int) ∧ (4 : Int) < ((raw_l : Nat) : Int)) ∧
    LdI .u8 (a.add 4) w fun x59 =>
    Bm (decide (x59 > (15 : Int))) (
      LdI .i64 ⟨none0, 0, none⟩ w fun x61_0 =>
      LdI .i64 ⟨none0, 1, none⟩ w fun x61_1 =>
      LdI .i64 ⟨none0, 2, none⟩ w fun x61_2 =>
      LdI .i64 ⟨none0, 3, none⟩ w fun x61_3 =>
      LdI .i64 ⟨none0, 4, none⟩ w fun x61_4 =>
      LdI .i64 ⟨none0, 5, none⟩ w fun x61_5 =>
      LdL ⟨none0, 6, none⟩ w fun x61_6_b x61_6_l x61_6_c =>
      Sts [.int .i64 x61_0, .int .i64 x61_1, .int .i64 x61_2, .int .i64 x61_3, .int .i64 x61_4, .int .i64 x61_5, .slice x61_6_b x61_6_l x61_6_c] ⟨t6, 0, none⟩ 0 w fun w2 =>
      LdI .i64 ⟨t6, 0, none⟩ w2 fun r_0_1 =>
      LdI .i64 ⟨t6, 1, none⟩ w2 fun r_1_1 =>
      LdI .i64 ⟨t6, 2, none⟩ w2 fun r_2_1 =>
      LdI .i64 ⟨t6, 3, none⟩ w2 fun r_3_1 =>
      LdI .i64 ⟨t6, 4, none⟩ w2 fun r_4_1 =>
      LdI .i64 ⟨t6, 5, none⟩ w2 fun r_5_1 =>
      LdL ⟨t6, 6, none⟩ w2 fun r_6_b_1 r_6_l_1 r_6_c_1 =>
      R r_0_1 r_1_1 r_2_1 r_3_1 r_4_1 r_5_1 r_6_b_1 r_6_l_1 r_6_c_1 (24 : Int) w2) (
      (0 ≤ (8 : Int) ∧ (8 : Int) ≤ ((raw_l : Nat) : Int)) ∧
      api_CopyBytes.Call (slBase raw_b (8 : Int) ((raw_c : Nat) : Int) 1) (((raw_l : Nat) : Int).toNat - (8 : Int).toNat) (((raw_c : Nat) : Int).toNat - (8 : Int).toNat) w fun r64_b r64_l r64_c w3 =>
      Pn raw_b fun a_1 =>
      (0 ≤ (0 : Int) ∧ (0 : Int) < ((raw_l : Nat) : Int)) ∧
      LdI .u8 a_1 w3.drew fun x67 =>
      Pn raw_b fun a_2 =>
      (0 ≤ (1 : Int) ∧ (1 : Int) < ((raw_l : Nat) : Int)) ∧
      LdI .u8 (a_2.add 1) w3.drew fun x71 =>
      Pn raw_b fun a_3 =>
      (0 ≤ (2 : Int) ∧ (2 : Int) < ((raw_l : Nat) : Int)) ∧
      LdI .u8 (a_3.add 2) w3.drew fun x75 =>
      Pn raw_b fun a_4 =>
      (0 ≤ (3 : Int) ∧ (3 : Int) < ((raw_l : Nat) : Int)) ∧
      LdI .u8 (a_4.add 3) w3.drew fun x79 =>
      Pn raw_b fun a_5 =>
      (0 ≤ (4 : Int) ∧ (4 : Int) < ((raw_l : Nat) : Int)) ∧
      LdI .u8 (a_5.add 4) w3.drew fun x83 =>
      Pn raw_b fun a_6 =>
      (0 ≤ (5 : Int) ∧ (5 : Int) < ((raw_l : Nat) : Int)) ∧
      LdI .u8 (a_6.add 5) w3.drew fun x87 =>
      Sts [.int .i64 (IntKind.i64.wrap x67), .int .i64 (IntKind.i64.wrap x71), .int .i64 (IntKind.i64.wrap x75), .int .i64 (IntKind.i64.wrap x79), .int .i64 (IntKind.i64.wrap x83), .int .i64 (IntKind.i64.wrap x87), .slice r64_b r64_l r64_c] ⟨t6, 0, none⟩ 0 w3.drew fun w4 =>
      LdI .i64 ⟨t6, 0, none⟩ w4 fun r_0_2 =>
      LdI .i64 ⟨t6, 1, none⟩ w4 fun r_1_2 =>
      LdI .i64 ⟨t6, 2, none⟩ w4 fun r_2_2 =>
      LdI .i64 ⟨t6, 3, none⟩ w4 fun r_3_2 =>
      LdI .i64 ⟨t6, 4, none⟩ w4 fun r_4_2 =>
      LdI .i64 ⟨t6, 5, none⟩ w4 fun r_5_2 =>
      LdL ⟨t6, 6, none⟩ w4 fun r_6_b_2 r_6_l_2 r_6_c_2 =>
      R r_0_2 r_1_2 r_2_2 r_3_2 r_4_2 r_5_2 r_6_b_2 r_6_l_2 r_6_c_2 (0 : Int) w4))
theorem seg_Decode.B3_eq (raw_b : Option Addr) (raw_l raw_c t6 none0 : Nat) (t55 : Bool) (w : World)   (R : Int → Int → Int → Int → Int → Int → Option Addr → Nat → Nat → Int → World → Prop)  :
    (
  Bm t55 (
    LdI .i64 ⟨none0, 0, none⟩ w fun x56_0 =>
    LdI .i64 ⟨none0, 1, none⟩ w fun x56_1 =>
    LdI .i64 ⟨none0, 2, none⟩ w fun x56_2 =>
    LdI .i64 ⟨none0, 3, none⟩ w fun x56_3 =>
    LdI .i64 ⟨none0, 4, none⟩ w fun x56_4 =>
    LdI .i64 ⟨none0, 5, none⟩ w fun x56_5 =>
    LdL ⟨none0, 6, none⟩ w fun x56_6_b x56_6_l x56_6_c =>
    Sts [.int .i64 x56_0, .int .i64 x56_1, .int .i64 x56_2, .int .i64 x56_3, .int .i64 x56_4, .int .i64 x56_5, .slice x56_6_b x56_6_l x56_6_c] ⟨t6, 0, none⟩ 0 w fun w1 =>
    LdI .i64 ⟨t6, 0, none⟩ w1 fun r_0 =>
    LdI .i64 ⟨t6, 1, none⟩ w1 fun r_1 =>
    LdI .i64 ⟨t6, 2, none⟩ w1 fun r_2 =>
    LdI .i64 ⟨t6, 3, none⟩ w1 fun r_3 =>
    LdI .i64 ⟨t6, 4, none⟩ w1 fun r_4 =>
    LdI .i64 ⟨t6, 5, none⟩ w1 fun r_5 =>
    LdL ⟨t6, 6, none⟩ w1 fun r_6_b r_6_l r_6_c =>
    R r_0 r_1 r_2 r_3 r_4 r_5 r_6_b r_6_l r_6_c (4 : Int) w1) (
    Pn raw_b fun a =>
    (0 ≤ (4 : Int) ∧ (4 : Int) < ((raw_l : Nat) : Int)) ∧
    LdI .u8 (a.add 4) w fun x59 =>
    Bm (decide (x59 > (15 : Int))) (
      LdI .i64 ⟨none0, 0, none⟩ w fun x61_0 =>
      LdI .i64 ⟨none0, 1, none⟩ w fun x61_1 =>
      LdI .i64 ⟨none0, 2, none⟩ w fun x61_2 =>
      LdI .i64 ⟨none0, 3, none⟩ w fun x61_3 =>
      LdI .i64 ⟨none0, 4, none⟩ w fun x61_4 =>
      LdI .i64 ⟨none0, 5, none⟩ w fun x61_5 =>
      LdL ⟨none0, 6, none⟩ w fun x61_6_b x61_6_l x61_6_c =>
      Sts [.int .i64 x61_0, .int .i64 x61_1, .int .i64 x61_2, .int .i64 x61_3, .int .i64 x61_4, .int .i64 x61_5, .slice x61_6_b x61_6_l x61_6_c] ⟨t6, 0, none⟩ 0 w fun w2 =>
      LdI .i64 ⟨t6, 0, none⟩ w2 fun r_0_1 =>
      LdI .i64 ⟨t6, 1, none⟩ w2 fun r_1_1 =>
      LdI .i64 ⟨t6, 2, none⟩ w2 fun r_2_1 =>
      LdI .i64 ⟨t6, 3, none⟩ w2 fun r_3_1 =>
      LdI .i64 ⟨t6, 4, none⟩ w2 fun r_4_1 =>
      LdI .i64 ⟨t6, 5, none⟩ w2 fun r_5_1 =>
      LdL ⟨t6, 6, none⟩ w2 fun r_6_b_1 r_6_l_1 r_6_c_1 =>
      R r_0_1 r_1_1 r_2_1 r_3_1 r_4_1 r_5_1 r_6_b_1 r_6_l_1 r_6_c_1 (24 : Int) w2) (
      (0 ≤ (8 : Int) ∧ (8 : Int) ≤ ((raw_l : Nat) : Int)) ∧
      api_CopyBytes.Call (slBase raw_b (8 : Int) ((raw_c : Nat) : Int) 1) (((raw_l : Nat) : Int).toNat - (8 : Int).toNat) (((raw_c : Nat) : Int).toNat - (8 : Int).toNat) w fun r64_b r64_l r64_c w3 =>
      Pn raw_b fun a_1 =>
      (0 ≤ (0 : Int) ∧ (0 : Int) < ((raw_l : Nat) : Int)) ∧
      LdI .u8 a_1 w3.drew fun x67 =>
      Pn raw_b fun a_2 =>
      (0 ≤ (1 : Int) ∧ (1 : Int) < ((raw_l : Nat) : Int)) ∧
      LdI .u8 (a_2.add 1) w3.drew fun x71 =>
      Pn raw_b fun a_3 =>
      (0 ≤ (2 : Int) ∧ (2 : Int) < ((raw_l : Nat) : Int)) ∧
      LdI .u8 (a_3.add 2) w3.drew fun x75 =>
      Pn raw_b fun a_4 =>
      (0 ≤ (3 : Int) ∧ (3 : Int) < ((raw_l : Nat) : Int)) ∧
      LdI .u8 (a_4.add 3) w3.drew fun x79 =>
      Pn raw_b fun a_5 =>
      (0 ≤ (4 : Int) ∧ (4 : Int) < ((raw_l : Nat) : Int)) ∧
      LdI .u8 (a_5.add 4) w3.drew fun x83 =>
      Pn raw_b fun a_6 =>
      (0 ≤ (5 : Int) ∧ (5 : Int) < ((raw_l : Nat) : Int)) ∧
      LdI .u8 (a_6.add 5) w3.drew fun x87 =>
      Sts [.int .i64 (IntKind.i64.wrap x67), .int .i64 (IntKind.i64.wrap x71), .int .i64 (IntKind.i64.wrap x75), .int .i64 (IntKind.i64.wrap x79), .int .i64 (IntKind.i64.wrap x83), .int .i64 (IntKind.i64.wrap x87), .slice r64_b r64_l r64_c] ⟨t6, 0, none⟩ 0 w3.drew fun w4 =>
      LdI .i64 ⟨t6, 0, none⟩ w4 fun r_0_2 =>
      LdI .i64 ⟨t6, 1, none⟩ w4 fun r_1_2 =>
      LdI .i64 ⟨t6, 2, none⟩ w4 fun r_2_2 =>
      LdI .i64 ⟨t6, 3, none⟩ w4 fun r_3_2 =>
      LdI .i64 ⟨t6, 4, none⟩ w4 fun r_4_2 =>
      LdI .i64 ⟨t6, 5, none⟩ w4 fun r_5_2 =>
      LdL ⟨t6, 6, none⟩ w4 fun r_6_b_2 r_6_l_2 r_6_c_2 =>
      R r_0_2 r_1_2 r_2_2 r_3_2 r_4_2 r_5_2 r_6_b_2 r_6_l_2 r_6_c_2 (0 : Int) w4))) = kstep Try.prog 91 Try.f76.results.toList (Try.f76.body.getD .skip) (seg_Decode.RV R) (kvc Try.prog 91 Try.f76.results.toList (Try.f76.body.getD .skip) (seg_Decode.RV R) [] 2000) [(0, [1, 1, 1, 1, 1, 1, 0, 1]), (0, [1, 1, 1, 1, 1, 1, 1])] [(2, .slice raw_b raw_l raw_c), (6, .pointer (some ⟨t6, 0, none⟩)), (8, .pointer (some ⟨none0, 0, none⟩)), (55, .bool t55)] w := by kernel_rfl
theorem seg_Decode.B3_sound {R : Int → Int → Int → Int → Int → Int → Option Addr → Nat → Nat → Int → World → Prop}  (raw_b : Option Addr) (raw_l raw_c t6 none0 : Nat) (t55 : Bool) (w : World) (h : seg_Decode.B3 raw_b raw_l raw_c t6 none0 t55 w   R) :
    KW Try.prog 76 91 (seg_Decode.RV R) ([(0, [1, 1, 1, 1, 1, 1, 0, 1]), (0, [1, 1, 1, 1, 1, 1, 1])].map (toItem (Try.f76.body.getD .skip))) [(2, .slice raw_b raw_l raw_c), (6, .pointer (some ⟨t6, 0, none⟩)), (8, .pointer (some ⟨none0, 0, none⟩)), (55, .bool t55)] w := by
  exact block_spec Try.func76 Try.mixed stops_nil (Eq.mp (seg_Decode.B3_eq raw_b raw_l raw_c t6 none0 t55 w   R ) h)
def seg_Decode.B2 (raw_b : Option Addr) (raw_l raw_c t6 none0 x : Nat) (w : World)   (R : Int → Int → Int → Int → Int → Int → Option Addr → Nat → Nat → Int → World → Prop) : Prop :=
  LdI .u8 ⟨x, 0, none⟩ w.drew fun x43 =>
  Pn raw_b fun a =>
  (0 ≤ (6 : Int) ∧ (6 : Int) < ((raw_l : Nat) : Int)) ∧
  LdI .u8 (a.add 6) w.drew fun x46 =>
  Bm (x43 != x46) (
    seg_Decode.B3 raw_b raw_l raw_c t6 none0 true w.drew  R) (
    LdI .u8 ⟨x, 1, none⟩ w.drew fun x50 =>
    Pn raw_b fun a_1 =>
    (0 ≤ (7 : Int) ∧ (7 : Int) < ((raw_l : Nat) : Int)) ∧
    LdI .u8 (a_1.add 7) w.drew fun x53 =>
    seg_Decode.B3 raw_b raw_l raw_c t6 none0 (x50 != x53) w.drew  R)
theorem seg_Decode.B2_eq (raw_b : Option Addr) (raw_l raw_c t6 none0 x : Nat) (w : World)   (R : Int → Int → Int → Int → Int → Int → Option Addr → Nat → Nat → Int → World → Prop) (sB3 : Option Addr → Nat → Nat → Nat → Nat → Bool → World → Prop) :
    (
  LdI .u8 ⟨x, 0, none⟩ w.drew fun x43 =>
  Pn raw_b fun a =>
  (0 ≤ (6 : Int) ∧ (6 : Int) < ((raw_l : Nat) : Int)) ∧
  LdI .u8 (a.add 6) w.drew fun x46 =>
  Bm (x43 != x46) (
    sB3 raw_b raw_l raw_c t6 none0 true w.drew) (
    LdI .u8 ⟨x, 1, none⟩ w.drew fun x50 =>
    Pn raw_b fun a_1 =>
    (0 ≤ (7 : Int) ∧ (7 : Int) < ((raw_l : Nat) : Int)) ∧
    LdI .u8 (a_1.add 7) w.drew fun x53 =>
    sB3 raw_b raw_l raw_c t6 none0 (x50 != x53) w.drew)) = kstep Try.prog 91 Try.f76.results.toList (Try.f76.body.getD .skip) (seg_Decode.RV R) (kvc Try.prog 91 Try.f76.results.toList (Try.f76.body.getD .skip) (seg_Decode.RV R) [([(0, [1, 1, 1, 1, 1, 1, 0, 1]), (0, [1, 1, 1, 1, 1, 1, 1])], fun σ w => dL (slotOf σ 2) fun raw_b_ raw_l_ raw_c_ => dK (slotOf σ 6) fun t6_ => dK (slotOf σ 8) fun none0_ => dB (slotOf σ 55) fun t55_ => sB3 raw_b_ raw_l_ raw_c_ t6_ none0_ t55_ w)] 2000) [(0, [1, 1, 1, 1, 1, 1])] [(2, .slice raw_b raw_l raw_c), (6, .pointer (some ⟨t6, 0, none⟩)), (8, .pointer (some ⟨none0, 0, none⟩)), (9, .pointer (some ⟨x, 0, none⟩))] w := by kernel_rfl
theorem seg_Decode.B2_sound {R : Int → Int → Int → Int → Int → Int → Option Addr → Nat → Nat → Int → World → Prop}  (raw_b : Option Addr) (raw_l raw_c t6 none0 x : Nat) (w : World) (h : seg_Decode.B2 raw_b raw_l raw_c t6 none0 x w   R) :
    KW Try.prog 76 91 (seg_Decode.RV R) ([(0, [1, 1, 1, 1, 1, 1])].map (toItem (Try.f76.body.getD .skip))) [(2, .slice raw_b raw_l raw_c), (6, .pointer (some ⟨t6, 0, none⟩)), (8, .pointer (some ⟨none0, 0, none⟩)), (9, .pointer (some ⟨x, 0, none⟩))] w := by
  exact block_spec Try.func76 Try.mixed (stops_cons (fun σ w h => by
      obtain ⟨raw_b_, raw_l_, raw_c_, e0, h⟩ := dL_elim h
      obtain ⟨t6_, e1, h⟩ := dK_elim h
      obtain ⟨none0_, e2, h⟩ := dK_elim h
      obtain ⟨t55_, e3, h⟩ := dB_elim h
      exact (seg_Decode.B3_sound  raw_b_ raw_l_ raw_c_ t6_ none0_ t55_ w h).weaken (Sub.cons (Sub.cons (Sub.cons (Sub.cons (Sub.nil _) e3) e2) e1) e0)) stops_nil) (Eq.mp (seg_Decode.B2_eq raw_b raw_l raw_c t6 none0 x w   R (fun raw_b_ raw_l_ raw_c_ t6_ none0_ t55_ w => seg_Decode.B3 raw_b_ raw_l_ raw_c_ t6_ none0_ t55_ w  R)) h)
def seg_Decode.B1 (src dst : Int) (raw_b : Option Addr) (raw_l raw_c t6 none0 : Nat) (t25 : Bool) (w : World)   (R : Int → Int → Int → Int → Int → Int → Option Addr → Nat → Nat → Int → World → Prop) : Prop :=
  Bm t25 (
    LdI .i64 ⟨none0, 0, none⟩ w fun x26_0 =>
    LdI .i64 ⟨none0, 1, none⟩ w fun x26_1 =>
    LdI .i64 ⟨none0, 2, none⟩ w fun x26_2 =>
    LdI .i64 ⟨none0, 3, none⟩ w fun x26_3 =>
    LdI .i64 ⟨none0, 4, none⟩ w fun x26_4 =>
    LdI .i64 ⟨none0, 5, none⟩ w fun x26_5 =>
    LdL ⟨none0, 6, none⟩ w fun x26_6_b x26_6_l x26_6_c =>
    Sts [.int .i64 x26_0, .int .i64 x26_1, .int .i64 x26_2, .int .i64 x26_3, .int .i64 x26_4, .int .i64 x26_5, .slice x26_6_b x26_6_l x26_6_c] ⟨t6, 0, none⟩ 0 w fun w1 =>
    LdI .i64 ⟨t6, 0, none⟩ w1 fun r_0 =>
    LdI .i64 ⟨t6, 1, none⟩ w1 fun r_1 =>
    LdI .i64 ⟨t6, 2, none⟩ w1 fun r_2 =>
    LdI .i64 ⟨t6, 3, none⟩ w1 fun r_3 =>
    LdI .i64 ⟨t6, 4, none⟩ w1 fun r_4 =>
    LdI .i64 ⟨t6, 5, none⟩ w1 fun r_5 =>
    LdL ⟨t6, 6, none⟩ w1 fun r_6_b r_6_l r_6_c =>
    R r_0 r_1 r_2 r_3 r_4 r_5 r_6_b r_6_l r_6_c (5 : Int) w1) (
    Bm (decide (((raw_l : Nat) : Int) < (8 : Int))) (
      LdI .i64 ⟨none0, 0, none⟩ w fun x30_0 =>
      LdI .i64 ⟨none0, 1, none⟩ w fun x30_1 =>
      LdI .i64 ⟨none0, 2, none⟩ w fun x30_2 =>
      LdI .i64 ⟨none0, 3, none⟩ w fun x30_3 =>
      LdI .i64 ⟨none0, 4, none⟩ w fun x30_4 =>
      LdI .i64 ⟨none0, 5, none⟩ w fun x30_5 =>
      LdL ⟨none0, 6, none⟩ w fun x30_6_b x30_6_l x30_6_c =>
      Sts [.int .i64 x30_0, .int .i64 x30_1, .int .i64 x30_2, .int .i64 x30_3, .int .i64 x30_4, .int .i64 x30_5, .slice x30_6_b x30_6_l x30_6_c] ⟨t6, 0, none⟩ 0 w fun w2 =>
      LdI .i64 ⟨t6, 0, none⟩ w2 fun r_0_1 =>
      LdI .i64 ⟨t6, 1, none⟩ w2 fun r_1_1 =>
      LdI .i64 ⟨t6, 2, none⟩ w2 fun r_2_1 =>
      LdI .i64 ⟨t6, 3, none⟩ w2 fun r_3_1 =>
      LdI .i64 ⟨t6, 4, none⟩ w2 fun r_4_1 =>
      LdI .i64 ⟨t6, 5, none⟩ w2 fun r_5_1 =>
      LdL ⟨t6, 6, none⟩ w2 fun r_6_b_1 r_6_l_1 r_6_c_1 =>
      R r_0_1 r_1_1 r_2_1 r_3_1 r_4_1 r_5_1 r_6_b_1 r_6_l_1 r_6_c_1 (1 : Int) w2) (
      Bm (decide (((raw_l : Nat) : Int) > (20 : Int))) (
        LdI .i64 ⟨none0, 0, none⟩ w fun x34_0 =>
        LdI .i64 ⟨none0, 1, none⟩ w fun x34_1 =>
        LdI .i64 ⟨none0, 2, none⟩ w fun x34_2 =>
        LdI .i64 ⟨none0, 3, none⟩ w fun x34_3 =>
        LdI .i64 ⟨none0, 4, none⟩ w fun x34_4 =>
        LdI .i64 ⟨none0, 5, none⟩ w fun x34_5 =>
        LdL ⟨none0, 6, none⟩ w fun x34_6_b x34_6_l x34_6_c =>
        Sts [.int .i64 x34_0, .int .i64 x34_1, .int .i64 x34_2, .int .i64 x34_3, .int .i64 x34_4, .int .i64 x34_5, .slice x34_6_b x34_6_l x34_6_c] ⟨t6, 0, none⟩ 0 w fun w3 =>
        LdI .i64 ⟨t6, 0, none⟩ w3 fun r_0_2 =>
        LdI .i64 ⟨t6, 1, none⟩ w3 fun r_1_2 =>
        LdI .i64 ⟨t6, 2, none⟩ w3 fun r_2_2 =>
        LdI .i64 ⟨t6, 3, none⟩ w3 fun r_3_2 =>
        LdI .i64 ⟨t6, 4, none⟩ w3 fun r_4_2 =>
        LdI .i64 ⟨t6, 5, none⟩ w3 fun r_5_2 =>
        LdL ⟨t6, 6, none⟩ w3 fun r_6_b_2 r_6_l_2 r_6_c_2 =>
        R r_0_2 r_1_2 r_2_2 r_3_2 r_4_2 r_5_2 r_6_b_2 r_6_l_2 r_6_c_2 (2 : Int) w3) (
        (0 ≤ (6 : Int) ∧ (6 : Int) ≤ ((raw_c : Nat) : Int)) ∧
        (0 ≤ (8 : Int) ∧ (8 : Int) ≤ ((raw_l : Nat) : Int)) ∧
        ((
          seg_over.Call src dst (slBase raw_b ((0 : Nat) : Int) ((raw_c : Nat) : Int) 1) ((6 : Int).toNat - ((0 : Nat) : Int).toNat) (((raw_c : Nat) : Int).toNat - ((0 : Nat) : Int).toNat) (slBase raw_b (8 : Int) ((raw_c : Nat) : Int) 1) (((raw_l : Nat) : Int).toNat - (8 : Int).toNat) (((raw_c : Nat) : Int).toNat - (8 : Int).toNat) w.drew fun r41_0 r41_1 w4 =>
          New (.cells #[.int .u8 (0 : Int), .int .u8 (0 : Int)] 87) w4 fun b w5 =>
          Sts [.int .u8 r41_0, .int .u8 r41_1] ⟨b, 0, none⟩ 0 w5 fun w6 =>
          seg_Decode.B2 raw_b raw_l raw_c t6 none0 b w6  R) ∧ (
          New (.cells #[.int .u8 (0 : Int), .int .u8 (0 : Int)] 87) w.drew fun b_1 w7 =>
          seg_over.Call src dst (slBase raw_b ((0 : Nat) : Int) ((raw_c : Nat) : Int) 1) ((6 : Int).toNat - ((0 : Nat) : Int).toNat) (((raw_c : Nat) : Int).toNat - ((0 : Nat) : Int).toNat) (slBase raw_b (8 : Int) ((raw_c : Nat) : Int) 1) (((raw_l : Nat) : Int).toNat - (8 : Int).toNat) (((raw_c : Nat) : Int).toNat - (8 : Int).toNat) w7 fun r41_0_1 r41_1_1 w8 =>
          Sts [.int .u8 r41_0_1, .int .u8 r41_1_1] ⟨b_1, 0, none⟩ 0 w8 fun w9 =>
          seg_Decode.B2 raw_b raw_l raw_c t6 none0 b_1 w9  R)))))
theorem seg_Decode.B1_eq (src dst : Int) (raw_b : Option Addr) (raw_l raw_c t6 none0 : Nat) (t25 : Bool) (w : World)   (R : Int → Int → Int → Int → Int → Int → Option Addr → Nat → Nat → Int → World → Prop) (sB2 : Option Addr → Nat → Nat → Nat → Nat → Nat → World → Prop) :
    (
  Bm t25 (
    LdI .i64 ⟨none0, 0, none⟩ w fun x26_0 =>
    LdI .i64 ⟨none0, 1, none⟩ w fun x26_1 =>
    LdI .i64 ⟨none0, 2, none⟩ w fun x26_2 =>
    LdI .i64 ⟨none0, 3, none⟩ w fun x26_3 =>
    LdI .i64 ⟨none0, 4, none⟩ w fun x26_4 =>
    LdI .i64 ⟨none0, 5, none⟩ w fun x26_5 =>
    LdL ⟨none0, 6, none⟩ w fun x26_6_b x26_6_l x26_6_c =>
    Sts [.int .i64 x26_0, .int .i64 x26_1, .int .i64 x26_2, .int .i64 x26_3, .int .i64 x26_4, .int .i64 x26_5, .slice x26_6_b x26_6_l x26_6_c] ⟨t6, 0, none⟩ 0 w fun w1 =>
    LdI .i64 ⟨t6, 0, none⟩ w1 fun r_0 =>
    LdI .i64 ⟨t6, 1, none⟩ w1 fun r_1 =>
    LdI .i64 ⟨t6, 2, none⟩ w1 fun r_2 =>
    LdI .i64 ⟨t6, 3, none⟩ w1 fun r_3 =>
    LdI .i64 ⟨t6, 4, none⟩ w1 fun r_4 =>
    LdI .i64 ⟨t6, 5, none⟩ w1 fun r_5 =>
    LdL ⟨t6, 6, none⟩ w1 fun r_6_b r_6_l r_6_c =>
    R r_0 r_1 r_2 r_3 r_4 r_5 r_6_b r_6_l r_6_c (5 : Int) w1) (
    Bm (decide (((raw_l : Nat) : Int) < (8 : Int))) (
      LdI .i64 ⟨none0, 0, none⟩ w fun x30_0 =>
      LdI .i64 ⟨none0, 1, none⟩ w fun x30_1 =>
      LdI .i64 ⟨none0, 2, none⟩ w fun x30_2 =>
      LdI .i64 ⟨none0, 3, none⟩ w fun x30_3 =>
      LdI .i64 ⟨none0, 4, none⟩ w fun x30_4 =>
      LdI .i64 ⟨none0, 5, none⟩ w fun x30_5 =>
      LdL ⟨none0, 6, none⟩ w fun x30_6_b x30_6_l x30_6_c =>
      Sts [.int .i64 x30_0, .int .i64 x30_1, .int .i64 x30_2, .int .i64 x30_3, .int .i64 x30_4, .int .i64 x30_5, .slice x30_6_b x30_6_l x30_6_c] ⟨t6, 0, none⟩ 0 w fun w2 =>
      LdI .i64 ⟨t6, 0, none⟩ w2 fun r_0_1 =>
      LdI .i64 ⟨t6, 1, none⟩ w2 fun r_1_1 =>
      LdI .i64 ⟨t6, 2, none⟩ w2 fun r_2_1 =>
      LdI .i64 ⟨t6, 3, none⟩ w2 fun r_3_1 =>
      LdI .i64 ⟨t6, 4, none⟩ w2 fun r_4_1 =>
      LdI .i64 ⟨t6, 5, none⟩ w2 fun r_5_1 =>
      LdL ⟨t6, 6, none⟩ w2 fun r_6_b_1 r_6_l_1 r_6_c_1 =>
      R r_0_1 r_1_1 r_2_1 r_3_1 r_4_1 r_5_1 r_6_b_1 r_6_l_1 r_6_c_1 (1 : Int) w2) (
      Bm (decide (((raw_l : Nat) : Int) > (20 : Int))) (
        LdI .i64 ⟨none0, 0, none⟩ w fun x34_0 =>
        LdI .i64 ⟨none0, 1, none⟩ w fun x34_1 =>
        LdI .i64 ⟨none0, 2, none⟩ w fun x34_2 =>
        LdI .i64 ⟨none0, 3, none⟩ w fun x34_3 =>
        LdI .i64 ⟨none0, 4, none⟩ w fun x34_4 =>
        LdI .i64 ⟨none0, 5, none⟩ w fun x34_5 =>
        LdL ⟨none0, 6, none⟩ w fun x34_6_b x34_6_l x34_6_c =>
        Sts [.int .i64 x34_0, .int .i64 x34_1, .int .i64 x34_2, .int .i64 x34_3, .int .i64 x34_4, .int .i64 x34_5, .slice x34_6_b x34_6_l x34_6_c] ⟨t6, 0, none⟩ 0 w fun w3 =>
        LdI .i64 ⟨t6, 0, none⟩ w3 fun r_0_2 =>
        LdI .i64 ⟨t6, 1, none⟩ w3 fun r_1_2 =>
        LdI .i64 ⟨t6, 2, none⟩ w3 fun r_2_2 =>
        LdI .i64 ⟨t6, 3, none⟩ w3 fun r_3_2 =>
        LdI .i64 ⟨t6, 4, none⟩ w3 fun r_4_2 =>
        LdI .i64 ⟨t6, 5, none⟩ w3 fun r_5_2 =>
        LdL ⟨t6, 6, none⟩ w3 fun r_6_b_2 r_6_l_2 r_6_c_2 =>
        R r_0_2 r_1_2 r_2_2 r_3_2 r_4_2 r_5_2 r_6_b_2 r_6_l_2 r_6_c_2 (2 : Int) w3) (
        (0 ≤ (6 : Int) ∧ (6 : Int) ≤ ((raw_c : Nat) : Int)) ∧
        (0 ≤ (8 : Int) ∧ (8 : Int) ≤ ((raw_l : Nat) : Int)) ∧
        ((
          seg_over.Call src dst (slBase raw_b ((0 : Nat) : Int) ((raw_c : Nat) : Int) 1) ((6 : Int).toNat - ((0 : Nat) : Int).toNat) (((raw_c : Nat) : Int).toNat - ((0 : Nat) : Int).toNat) (slBase raw_b (8 : Int) ((raw_c : Nat) : Int) 1) (((raw_l : Nat) : Int).toNat - (8 : Int).toNat) (((raw_c : Nat) : Int).toNat - (8 : Int).toNat) w.drew fun r41_0 r41_1 w4 =>
          New (.cells #[.int .u8 (0 : Int), .int .u8 (0 : Int)] 87) w4 fun b w5 =>
          Sts [.int .u8 r41_0, .int .u8 r41_1] ⟨b, 0, none⟩ 0 w5 fun w6 =>
          sB2 raw_b raw_l raw_c t6 none0 b w6) ∧ (
          New (.cells #[.int .u8 (0 : Int), .int .u8 (0 : Int)] 87) w.drew fun b_1 w7 =>
          seg_over.Call src dst (slBase raw_b ((0 : Nat) : Int) ((raw_c : Nat) : Int) 1) ((6 : Int).toNat - ((0 : Nat) : Int).toNat) (((raw_c : Nat) : Int).toNat - ((0 : Nat) : Int).toNat) (slBase raw_b (8 : Int) ((raw_c : Nat) : Int) 1) (((raw_l : Nat) : Int).toNat - (8 : Int).toNat) (((raw_c : Nat) : Int).toNat - (8 : Int).toNat) w7 fun r41_0_1 r41_1_1 w8 =>
          Sts [.int .u8 r41_0_1, .int .u8 r41_1_1] ⟨b_1, 0, none⟩ 0 w8 fun w9 =>
          sB2 raw_b raw_l raw_c t6 none0 b_1 w9)))))) = kstep Try.prog 91 Try.f76.results.toList (Try.f76.body.getD .skip) (seg_Decode.RV R) (kvc Try.prog 91 Try.f76.results.toList (Try.f76.body.getD .skip) (seg_Decode.RV R) [([(0, [1, 1, 1, 1, 1, 1])], fun σ w => dL (slotOf σ 2) fun raw_b_ raw_l_ raw_c_ => dK (slotOf σ 6) fun t6_ => dK (slotOf σ 8) fun none0_ => dK (slotOf σ 9) fun x_ => sB2 raw_b_ raw_l_ raw_c_ t6_ none0_ x_ w)] 2000) [(0, [1, 1, 0, 1]), (0, [1, 1, 1])] [(0, .int .i64 src), (1, .int .i64 dst), (2, .slice raw_b raw_l raw_c), (6, .pointer (some ⟨t6, 0, none⟩)), (8, .pointer (some ⟨none0, 0, none⟩)), (25, .bool t25)] w := by kernel_rfl
theorem seg_Decode.B1_sound {R : Int → Int → Int → Int → Int → Int → Option Addr → Nat → Nat → Int → World → Prop}  (src dst : Int) (raw_b : Option Addr) (raw_l raw_c t6 none0 : Nat) (t25 : Bool) (w : World) (h : seg_Decode.B1 src dst raw_b raw_l raw_c t6 none0 t25 w   R) :
    KW Try.prog 76 91 (seg_Decode.RV R) ([(0, [1, 1, 0, 1]), (0, [1, 1, 1])].map (toItem (Try.f76.body.getD .skip))) [(0, .int .i64 src), (1, .int .i64 dst), (2, .slice raw_b raw_l raw_c), (6, .pointer (some ⟨t6, 0, none⟩)), (8, .pointer (some ⟨none0, 0, none⟩)), (25, .bool t25)] w := by
  exact block_spec Try.func76 Try.mixed (stops_cons (fun σ w h => by
      obtain ⟨raw_b_, raw_l_, raw_c_, e0, h⟩ := dL_elim h
      obtain ⟨t6_, e1, h⟩ := dK_elim h
      obtain ⟨none0_, e2, h⟩ := dK_elim h
      obtain ⟨x_, e3, h⟩ := dK_elim h
      exact (seg_Decode.B2_sound  raw_b_ raw_l_ raw_c_ t6_ none0_ x_ w h).weaken (Sub.cons (Sub.cons (Sub.cons (Sub.cons (Sub.nil _) e3) e2) e1) e0)) stops_nil) (Eq.mp (seg_Decode.B1_eq src dst raw_b raw_l raw_c t6 none0 t25 w   R (fun raw_b_ raw_l_ raw_c_ t6_ none0_ x_ w => seg_Decode.B2 raw_b_ raw_l_ raw_c_ t6_ none0_ x_ w  R)) h)
def seg_Decode.B0 (src dst : Int) (raw_b : Option Addr) (raw_l raw_c : Nat) (w : World)   (R : Int → Int → Int → Int → Int → Int → Option Addr → Nat → Nat → Int → World → Prop) : Prop :=
  New (.cells #[.int .i64 (0 : Int), .int .i64 (0 : Int), .int .i64 (0 : Int), .int .i64 (0 : Int), .int .i64 (0 : Int), .int .i64 (0 : Int), .slice none 0 0] 39) w fun b6 w1 =>
  New (.cells #[.int .i64 (0 : Int), .int .i64 (0 : Int), .int .i64 (0 : Int), .int .i64 (0 : Int), .int .i64 (0 : Int), .int .i64 (0 : Int), .slice none 0 0] 39) w1 fun none0_ w2 =>
  Sts [.int .i64 (0 : Int), .int .i64 (0 : Int), .int .i64 (0 : Int), .int .i64 (0 : Int), .int .i64 (0 : Int), .int .i64 (0 : Int), .slice none 0 0] ⟨none0_, 0, none⟩ 0 w2 fun w3 =>
  Bm (decide (src < (0 : Int))) (
    seg_Decode.B1 src dst raw_b raw_l raw_c b6 none0_ true w3  R) (
    Bm (decide (src > (255 : Int))) (
      seg_Decode.B1 src dst raw_b raw_l raw_c b6 none0_ true w3  R) (
      Bm (decide (dst < (0 : Int))) (
        seg_Decode.B1 src dst raw_b raw_l raw_c b6 none0_ true w3  R) (
        seg_Decode.B1 src dst raw_b raw_l raw_c b6 none0_ (decide (dst > (255 : Int))) w3  R)))
theorem seg_Decode.B0_eq (src dst : Int) (raw_b : Option Addr) (raw_l raw_c : Nat) (w : World)   (R : Int → Int → Int → Int → Int → Int → Option Addr → Nat → Nat → Int → World → Prop) (sB1 : Int → Int → Option Addr → Nat → Nat → Nat → Nat → Bool → World → Prop) :
    (
  New (.cells #[.int .i64 (0 : Int), .int .i64 (0 : Int), .int .i64 (0 : Int), .int .i64 (0 : Int), .int .i64 (0 : Int), .int .i64 (0 : Int), .slice none 0 0] 39) w fun b6 w1 =>
  New (.cells #[.int .i64 (0 : Int), .int .i64 (0 : Int), .int .i64 (0 : Int), .int .i64 (0 : Int), .int .i64 (0 : Int), .int .i64 (0 : Int), .slice none 0 0] 39) w1 fun none0_ w2 =>
  Sts [.int .i64 (0 : Int), .int .i64 (0 : Int), .int .i64 (0 : Int), .int .i64 (0 : Int), .int .i64 (0 : Int), .int .i64 (0 : Int), .slice none 0 0] ⟨none0_, 0, none⟩ 0 w2 fun w3 =>
  Bm (decide (src < (0 : Int))) (
    sB1 src dst raw_b raw_l raw_c b6 none0_ true w3) (
    Bm (decide (src > (255 : Int))) (
      sB1 src dst raw_b raw_l raw_c b6 none0_ true w3) (
      Bm (decide (dst < (0 : Int))) (
        sB1 src dst raw_b raw_l raw_c b6 none0_ true w3) (
        sB1 src dst raw_b raw_l raw_c b6 none0_ (decide (dst > (255 : Int))) w3)))) = kstep Try.prog 91 Try.f76.results.toList (Try.f76.body.getD .skip) (seg_Decode.RV R) (kvc Try.prog 91 Try.f76.results.toList (Try.f76.body.getD .skip) (seg_Decode.RV R) [([(0, [1, 1, 0, 1]), (0, [1, 1, 1])], fun σ w => dI .i64 (slotOf σ 0) fun src_ => dI .i64 (slotOf σ 1) fun dst_ => dL (slotOf σ 2) fun raw_b_ raw_l_ raw_c_ => dK (slotOf σ 6) fun t6_ => dK (slotOf σ 8) fun none0_ => dB (slotOf σ 25) fun t25_ => sB1 src_ dst_ raw_b_ raw_l_ raw_c_ t6_ none0_ t25_ w)] 2000) [(0, [])] [(0, .int .i64 src), (1, .int .i64 dst), (2, .slice raw_b raw_l raw_c)] w := by kernel_rfl
theorem seg_Decode.B0_sound {R : Int → Int → Int → Int → Int → Int → Option Addr → Nat → Nat → Int → World → Prop}  (src dst : Int) (raw_b : Option Addr) (raw_l raw_c : Nat) (w : World) (h : seg_Decode.B0 src dst raw_b raw_l raw_c w   R) :
    KW Try.prog 76 91 (seg_Decode.RV R) ([(0, [])].map (toItem (Try.f76.body.getD .skip))) [(0, .int .i64 src), (1, .int .i64 dst), (2, .slice raw_b raw_l raw_c)] w := by
  exact block_spec Try.func76 Try.mixed (stops_cons (fun σ w h => by
      obtain ⟨src_, e0, h⟩ := dI_elim h
      obtain ⟨dst_, e1, h⟩ := dI_elim h
      obtain ⟨raw_b_, raw_l_, raw_c_, e2, h⟩ := dL_elim h
      obtain ⟨t6_, e3, h⟩ := dK_elim h
      obtain ⟨none0_, e4, h⟩ := dK_elim h
      obtain ⟨t25_, e5, h⟩ := dB_elim h
      exact (seg_Decode.B1_sound  src_ dst_ raw_b_ raw_l_ raw_c_ t6_ none0_ t25_ w h).weaken (Sub.cons (Sub.cons (Sub.cons (Sub.cons (Sub.cons (Sub.cons (Sub.nil _) e5) e4) e3) e2) e1) e0)) stops_nil) (Eq.mp (seg_Decode.B0_eq src dst raw_b raw_l raw_c w   R (fun src_ dst_ raw_b_ raw_l_ raw_c_ t6_ none0_ t25_ w => seg_Decode.B1 src_ dst_ raw_b_ raw_l_ raw_c_ t6_ none0_ t25_ w  R)) h)
theorem seg_Decode.sound (src dst : Int) (raw_b : Option Addr) (raw_l raw_c : Nat) (w : World) (R : Int → Int → Int → Int → Int → Int → Option Addr → Nat → Nat → Int → World → Prop) (h : seg_Decode.B0 src dst raw_b raw_l raw_c w R) : seg_Decode.Call src dst raw_b raw_l raw_c w R := by
  have hc := calls_of_block (args := #[.int .i64 src, .int .i64 dst, .slice raw_b raw_l raw_c]) Try.func76 (body := (Try.f76.body.getD .skip)) (by kernel_rfl) (by kernel_rfl) (args_slot _) (seg_Decode.B0_sound src dst raw_b raw_l raw_c w h)
  exact hc.mono fun e w' he => by
    obtain ⟨v, rfl, hv⟩ := he
    exact seg_Decode.RV_elim hv
def segm_Decode.B2 (raw_b : Option Addr) (raw_l raw_c t6 none0 : Nat) (t58 : Bool) (w : World)   (R : Int → Int → Int → Int → Int → Int → Option Addr → Nat → Nat → Int → World → Prop) : Prop :=
  Bm t58 (
    LdI .i64 ⟨none0, 0, none⟩ w fun x59_0 =>
    LdI .i64 ⟨none0, 1, none⟩ w fun x59_1 =>
    LdI .i64 ⟨none0, 2, none⟩ w fun x59_2 =>
    LdI .i64 ⟨none0, 3, none⟩ w fun x59_3 =>
    LdI .i64 ⟨none0, 4, none⟩ w fun x59_4 =>
    LdI .i64 ⟨none0, 5, none⟩ w fun x59_5 =>
    LdL ⟨none0, 6, none⟩ w fun x59_6_b x59_6_l x59_6_c =>
    Sts [.int .i64 x59_0, .int .i64 x59_1, .int .i64 x59_2, .int .i64 x59_3, .int .i64 x59_4, .int .i64 x59_5, .slice x59_6_b x59_6_l x59_6_c] ⟨t6, 0, none⟩ 0 w fun w1 =>
    LdI .i64 ⟨t6, 0, none⟩ w1 fun r_0 =>
    LdI .i64 ⟨t6, 1, none⟩ w1 fun r_1 =>
    LdI .i64 ⟨t6, 2, none⟩ w1 fun r_2 =>
    LdI .i64 ⟨t6, 3, none⟩ w1 fun r_3 =>
    LdI .i64 ⟨t6, 4, none⟩ w1 fun r_4 =>
    LdI .i64 ⟨t6, 5, none⟩ w1 fun r_5 =>
    LdL ⟨t6, 6, none⟩ w1 fun r_6_b r_6_l r_6_c =>
    R r_0 r_1 r_2 r_3 r_4 r_5 r_6_b r_6_l r_6_c (4 : Int) w1) (
    Pn raw_b fun a =>
    (0 ≤ (4 : Int) ∧ (4 : Int) < ((raw_l : Nat) : Int)) ∧
    LdI .u8 (a.add 4) w fun x62 =>
    Bm (decide (x62 > (15 : Int))) (
      LdI .i64 ⟨none0, 0, none⟩ w fun x64_0 =>
      LdI .i64 ⟨none0, 1, none⟩ w fun x64_1 =>
      LdI .i64 ⟨none0, 2, none⟩ w fun x64_2 =>
      LdI .i64 ⟨none0, 3, none⟩ w fun x64_3 =>
      LdI .i64 ⟨none0, 4, none⟩ w fun x64_4 =>
      LdI .i64 ⟨none0, 5, none⟩ w fun x64_5 =>
      LdL ⟨none0, 6, none⟩ w fun x64_6_b x64_6_l x64_6_c =>
      Sts [.int .i64 x64_0, .int .i64 x64_1, .int .i64 x64_2, .int .i64 x64_3, .int .i64 x64_4, .int .i64 x64_5, .slice x64_6_b x64_6_l x64_6_c] ⟨t6, 0, none⟩ 0 w fun w2 =>
      LdI .i64 ⟨t6, 0, none⟩ w2 fun r_0_1 =>
      LdI .i64 ⟨t6, 1, none⟩ w2 fun r_1_1 =>
      LdI .i64 ⟨t6, 2, none⟩ w2 fun r_2_1 =>
      LdI .i64 ⟨t6, 3, none⟩ w2 fun r_3_1 =>
      LdI .i64 ⟨t6, 4, none⟩ w2 fun r_4_1 =>
      LdI .i64 ⟨t6, 5, none⟩ w2 fun r_5_1 =>
      LdL ⟨t6, 6, none⟩ w2 fun r_6_b_1 r_6_l_1 r_6_c_1 =>
      R r_0_1 r_1_1 r_2_1 r_3_1 r_4_1 r_5_1 r_6_b_1 r_6_l_1 r_6_c_1 (24 : Int) w2) (
      Pn raw_b fun a_1 =>
      (0 ≤ (0 : Int) ∧ (0 : Int) < ((raw_l : Nat) : Int)) ∧
      LdI .u8 a_1 w.drew fun x67 =>
      Pn raw_b fun a_2 =>
      (0 ≤ (1 : Int) ∧ (1 : Int) < ((raw_l : Nat) : Int)) ∧
      LdI .u8 (a_2.add 1) w.drew fun x71 =>
      Pn raw_b fun a_3 =>
      (0 ≤ (2 : Int) ∧ (2 : Int) < ((raw_l : Nat) : Int)) ∧
      LdI .u8 (a_3.add 2) w.drew fun x75 =>
      Pn raw_b fun a_4 =>
      (0 ≤ (3 : Int) ∧ (3 : Int) < ((raw_l : Nat) : Int)) ∧
      LdI .u8 (a_4.add 3) w.drew fun x79 =>
      Pn raw_b fun a_5 =>
      (0 ≤ (4 : Int) ∧ (4 : Int) < ((raw_l : Nat) : Int)) ∧
      LdI .u8 (a_5.add 4) w.drew fun x83 =>
      Pn raw_b fun a_6 =>
      (0 ≤ (5 : Int) ∧ (5 : Int) < ((raw_l : Nat) : Int)) ∧
      LdI .u8 (a_6.add 5) w.drew fun x87 =>
      (0 ≤ (8 : Int) ∧ (8 : Int) ≤ ((raw_l : Nat) : Int)) ∧
      api_CopyBytes.Call (slBase raw_b (8 : Int) ((raw_c : Nat) : Int) 1) (((raw_l : Nat) : Int).toNat - (8 : Int).toNat) (((raw_c : Nat) : Int).toNat - (8 : Int).toNat) w.drew fun r91_b r91_l r91_c w3 =>
      w3.cell? (a_6.add 5) = some (.int .u8 x87) ∧
      w3.cell? (a_5.add 4) = some (.int .u8 x83) ∧
      w3.cell? (a_4.add 3) = some (.int .u8 x79) ∧
      w3.cell? (a_3.add 2) = some (.int .u8 x75) ∧
      w3.cell? (a_2.add 1) = some (.int .u8 x71) ∧
      w3.cell? a_1 = some (.int .u8 x67) ∧
      Sts [.int .i64 (IntKind.i64.wrap x67), .int .i64 (IntKind.i64.wrap x71), .int .i64 (IntKind.i64.wrap x75), .int .i64 (IntKind.i64.wrap x79), .int .i64 (IntKind.i64.wrap x83), .int .i64 (IntKind.i64.wrap x87), .slice r91_b r91_l r91_c] ⟨t6, 0, none⟩ 0 w3 fun w4 =>
      LdI .i64 ⟨t6, 0, none⟩ w4 fun r_0_2 =>
      LdI .i64 ⟨t6, 1, none⟩ w4 fun r_1_2 =>
      LdI .i64 ⟨t6, 2, none⟩ w4 fun r_2_2 =>
      LdI .i64 ⟨t6, 3, none⟩ w4 fun r_3_2 =>
      LdI .i64 ⟨t6, 4, none⟩ w4 fun r_4_2 =>
      LdI .i64 ⟨t6, 5, none⟩ w4 fun r_5_2 =>
      LdL ⟨t6, 6, none⟩ w4 fun r_6_b_2 r_6_l_2 r_6_c_2 =>
      R r_0_2 r_1_2 r_2_2 r_3_2 r_4_2 r_5_2 r_6_b_2 r_6_l_2 r_6_c_2 (0 : Int) w4))
theorem segm_Decode.B2_eq (raw_b : Option Addr) (raw_l raw_c t6 none0 : Nat) (t58 : Bool) (w : World)   (R : Int → Int → Int → Int → Int → Int → Option Addr → Nat → Nat → Int → World → Prop)  :
    (
  Bm t58 (
    LdI .i64 ⟨none0, 0, none⟩ w fun x59_0 =>
    LdI .i64 ⟨none0, 1, none⟩ w fun x59_1 =>
    LdI .i64 ⟨none0, 2, none⟩ w fun x59_2 =>
    LdI .i64 ⟨none0, 3, none⟩ w fun x59_3 =>
    LdI .i64 ⟨none0, 4, none⟩ w fun x59_4 =>
    LdI .i64 ⟨none0, 5, none⟩ w fun x59_5 =>
    LdL ⟨none0, 6, none⟩ w fun x59_6_b x59_6_l x59_6_c =>
    Sts [.int .i64 x59_0, .int .i64 x59_1, .int .i64 x59_2, .int .i64 x59_3, .int .i64 x59_4, .int .i64 x59_5, .slice x59_6_b x59_6_l x59_6_c] ⟨t6, 0, none⟩ 0 w fun w1 =>
    LdI .i64 ⟨t6, 0, none⟩ w1 fun r_0 =>
    LdI .i64 ⟨t6, 1, none⟩ w1 fun r_1 =>
    LdI .i64 ⟨t6, 2, none⟩ w1 fun r_2 =>
    LdI .i64 ⟨t6, 3, none⟩ w1 fun r_3 =>
    LdI .i64 ⟨t6, 4, none⟩ w1 fun r_4 =>
    LdI .i64 ⟨t6, 5, none⟩ w1 fun r_5 =>
    LdL ⟨t6, 6, none⟩ w1 fun r_6_b r_6_l r_6_c =>
    R r_0 r_1 r_2 r_3 r_4 r_5 r_6_b r_6_l r_6_c (4 : Int) w1) (
    Pn raw_b fun a =>
    (0 ≤ (4 : Int) ∧ (4 : Int) < ((raw_l : Nat) : Int)) ∧
    LdI .u8 (a.add 4) w fun x62 =>
    Bm (decide (x62 > (15 : Int))) (
      LdI .i64 ⟨none0, 0, none⟩ w fun x64_0 =>
      LdI .i64 ⟨none0, 1, none⟩ w fun x64_1 =>
      LdI .i64 ⟨none0, 2, none⟩ w fun x64_2 =>
      LdI .i64 ⟨none0, 3, none⟩ w fun x64_3 =>
      LdI .i64 ⟨none0, 4, none⟩ w fun x64_4 =>
      LdI .i64 ⟨none0, 5, none⟩ w fun x64_5 =>
      LdL ⟨none0, 6, none⟩ w fun x64_6_b x64_6_l x64_6_c =>
      Sts [.int .i64 x64_0, .int .i64 x64_1, .int .i64 x64_2, .int .i64 x64_3, .int .i64 x64_4, .int .i64 x64_5, .slice x64_6_b x64_6_l x64_6_c] ⟨t6, 0, none⟩ 0 w fun w2 =>
      LdI .i64 ⟨t6, 0, none⟩ w2 fun r_0_1 =>
      LdI .i64 ⟨t6, 1, none⟩ w2 fun r_1_1 =>
      LdI .i64 ⟨t6, 2, none⟩ w2 fun r_2_1 =>
      LdI .i64 ⟨t6, 3, none⟩ w2 fun r_3_1 =>
      LdI .i64 ⟨t6, 4, none⟩ w2 fun r_4_1 =>
      LdI .i64 ⟨t6, 5, none⟩ w2 fun r_5_1 =>
      LdL ⟨t6, 6, none⟩ w2 fun r_6_b_1 r_6_l_1 r_6_c_1 =>
      R r_0_1 r_1_1 r_2_1 r_3_1 r_4_1 r_5_1 r_6_b_1 r_6_l_1 r_6_c_1 (24 : Int) w2) (
      Pn raw_b fun a_1 =>
      (0 ≤ (0 : Int) ∧ (0 : Int) < ((raw_l : Nat) : Int)) ∧
      LdI .u8 a_1 w.drew fun x67 =>
      Pn raw_b fun a_2 =>
      (0 ≤ (1 : Int) ∧ (1 : Int) < ((raw_l : Nat) : Int)) ∧
      LdI .u8 (a_2.add 1) w.drew fun x71 =>
      Pn raw_b fun a_3 =>
      (0 ≤ (2 : Int) ∧ (2 : Int) < ((raw_l : Nat) : Int)) ∧
      LdI .u8 (a_3.add 2) w.drew fun x75 =>
      Pn raw_b fun a_4 =>
      (0 ≤ (3 : Int) ∧ (3 : Int) < ((raw_l : Nat) : Int)) ∧
      LdI .u8 (a_4.add 3) w.drew fun x79 =>
      Pn raw_b fun a_5 =>
      (0 ≤ (4 : Int) ∧ (4 : Int) < ((raw_l : Nat) : Int)) ∧
      LdI .u8 (a_5.add 4) w.drew fun x83 =>
      Pn raw_b fun a_6 =>
      (0 ≤ (5 : Int) ∧ (5 : Int) < ((raw_l : Nat) : Int)) ∧
      LdI .u8 (a_6.add 5) w.drew fun x87 =>
      (0 ≤ (8 : Int) ∧ (8 : Int) ≤ ((raw_l : Nat) : Int)) ∧
      api_CopyBytes.Call (slBase raw_b (8 : Int) ((raw_c : Nat) : Int) 1) (((raw_l : Nat) : Int).toNat - (8 : Int).toNat) (((raw_c : Nat) : Int).toNat - (8 : Int).toNat) w.drew fun r91_b r91_l r91_c w3 =>
      w3.cell? (a_6.add 5) = some (.int .u8 x87) ∧
      w3.cell? (a_5.add 4) = some (.int .u8 x83) ∧
      w3.cell? (a_4.add 3) = some (.int .u8 x79) ∧
      w3.cell? (a_3.add 2) = some (.int .u8 x75) ∧
      w3.cell? (a_2.add 1) = some (.int .u8 x71) ∧
      w3.cell? a_1 = some (.int .u8 x67) ∧
      Sts [.int .i64 (IntKind.i64.wrap x67), .int .i64 (IntKind.i64.wrap x71), .int .i64 (IntKind.i64.wrap x75), .int .i64 (IntKind.i64.wrap x79), .int .i64 (IntKind.i64.wrap x83), .int .i64 (IntKind.i64.wrap x87), .slice r91_b r91_l r91_c] ⟨t6, 0, none⟩ 0 w3 fun w4 =>
      LdI .i64 ⟨t6, 0, none⟩ w4 fun r_0_2 =>
      LdI .i64 ⟨t6, 1, none⟩ w4 fun r_1_2 =>
      LdI .i64 ⟨t6, 2, none⟩ w4 fun r_2_2 =>
      LdI .i64 ⟨t6, 3, none⟩ w4 fun r_3_2 =>
      LdI .i64 ⟨t6, 4, none⟩ w4 fun r_4_2 =>
      LdI .i64 ⟨t6, 5, none⟩ w4 fun r_5_2 =>
      LdL ⟨t6, 6, none⟩ w4 fun r_6_b_2 r_6_l_2 r_6_c_2 =>
      R r_0_2 r_1_2 r_2_2 r_3_2 r_4_2 r_5_2 r_6_b_2 r_6_l_2 r_6_c_2 (0 : Int) w4))) = kstep Try.prog 93 Try.f77.results.toList (Try.f77.body.getD .skip) (segm_Decode.RV R) (kvc Try.prog 93 Try.f77.results.toList (Try.f77.body.getD .skip) (segm_Decode.RV R) [] 2000) [(0, [1, 1, 1, 1, 1, 1, 0, 1]), (0, [1, 1, 1, 1, 1, 1, 1])] [(2, .slice raw_b raw_l raw_c), (6, .pointer (some ⟨t6, 0, none⟩)), (8, .pointer (some ⟨none0, 0, none⟩)), (58, .bool t58)] w := by kernel_rfl
theorem segm_Decode.B2_sound {R : Int → Int → Int → Int → Int → Int → Option Addr → Nat → Nat → Int → World → Prop}  (raw_b : Option Addr) (raw_l raw_c t6 none0 : Nat) (t58 : Bool) (w : World) (h : segm_Decode.B2 raw_b raw_l raw_c t6 none0 t58 w   R) :
    KW Try.prog 77 93 (segm_Decode.RV R) ([(0, [1, 1, 1, 1, 1, 1, 0, 1]), (0, [1, 1, 1, 1, 1, 1, 1])].map (toItem (Try.f77.body.getD .skip))) [(2, .slice raw_b raw_l raw_c), (6, .pointer (some ⟨t6, 0, none⟩)), (8, .pointer (some ⟨none0, 0, none⟩)), (58, .bool t58)] w := by
  exact block_spec Try.func77 Try.mixed stops_nil (Eq.mp (segm_Decode.B2_eq raw_b raw_l raw_c t6 none0 t58 w   R ) h)
def segm_Decode.B1 (src dst : Int) (raw_b : Option Addr) (raw_l raw_c t6 none0 : Nat) (t25 : Bool) (w : World)   (R : Int → Int → Int → Int → Int → Int → Option Addr → Nat → Nat → Int → World → Prop) : Prop :=
  Bm t25 (
    LdI .i64 ⟨none0, 0, none⟩ w fun x26_0 =>
    LdI .i64 ⟨none0, 1, none⟩ w fun x26_1 =>
    LdI .i64 ⟨none0, 2, none⟩ w fun x26_2 =>
    LdI .i64 ⟨none0, 3, none⟩ w fun x26_3 =>
    LdI .i64 ⟨none0, 4, none⟩ w fun x26_4 =>
    LdI .i64 ⟨none0, 5, none⟩ w fun x26_5 =>
    LdL ⟨none0, 6, none⟩ w fun x26_6_b x26_6_l x26_6_c =>
    Sts [.int .i64 x26_0, .int .i64 x26_1, .int .i64 x26_2, .int .i64 x26_3, .int .i64 x26_4, .int .i64 x26_5, .slice x26_6_b x26_6_l x26_6_c] ⟨t6, 0, none⟩ 0 w fun w1 =>
    LdI .i64 ⟨t6, 0, none⟩ w1 fun r_0 =>
    LdI .i64 ⟨t6, 1, none⟩ w1 fun r_1 =>
    LdI .i64 ⟨t6, 2, none⟩ w1 fun r_2 =>
    LdI .i64 ⟨t6, 3, none⟩ w1 fun r_3 =>
    LdI .i64 ⟨t6, 4, none⟩ w1 fun r_4 =>
    LdI .i64 ⟨t6, 5, none⟩ w1 fun r_5 =>
    LdL ⟨t6, 6, none⟩ w1 fun r_6_b r_6_l r_6_c =>
    R r_0 r_1 r_2 r_3 r_4 r_5 r_6_b r_6_l r_6_c (5 : Int) w1) (
    Bm (decide (((raw_l : Nat) : Int) < (8 : Int))) (
      LdI .i64 ⟨none0, 0, none⟩ w fun x30_0 =>
      LdI .i64 ⟨none0, 1, none⟩ w fun x30_1 =>
      LdI .i64 ⟨none0, 2, none⟩ w fun x30_2 =>
      LdI .i64 ⟨none0, 3, none⟩ w fun x30_3 =>
      LdI .i64 ⟨none0, 4, none⟩ w fun x30_4 =>
      LdI .i64 ⟨none0, 5, none⟩ w fun x30_5 =>
      LdL ⟨none0, 6, none⟩ w fun x30_6_b x30_6_l x30_6_c =>
      Sts [.int .i64 x30_0, .int .i64 x30_1, .int .i64 x30_2, .int .i64 x30_3, .int .i64 x30_4, .int .i64 x30_5, .slice x30_6_b x30_6_l x30_6_c] ⟨t6, 0, none⟩ 0 w fun w2 =>
      LdI .i64 ⟨t6, 0, none⟩ w2 fun r_0_1 =>
      LdI .i64 ⟨t6, 1, none⟩ w2 fun r_1_1 =>
      LdI .i64 ⟨t6, 2, none⟩ w2 fun r_2_1 =>
      LdI .i64 ⟨t6, 3, none⟩ w2 fun r_3_1 =>
      LdI .i64 ⟨t6, 4, none⟩ w2 fun r_4_1 =>
      LdI .i64 ⟨t6, 5, none⟩ w2 fun r_5_1 =>
      LdL ⟨t6, 6, none⟩ w2 fun r_6_b_1 r_6_l_1 r_6_c_1 =>
      R r_0_1 r_1_1 r_2_1 r_3_1 r_4_1 r_5_1 r_6_b_1 r_6_l_1 r_6_c_1 (1 : Int) w2) (
      Bm (decide (((raw_l : Nat) : Int) > (20 : Int))) (
        LdI .i64 ⟨none0, 0, none⟩ w fun x34_0 =>
        LdI .i64 ⟨none0, 1, none⟩ w fun x34_1 =>
        LdI .i64 ⟨none0, 2, none⟩ w fun x34_2 =>
        LdI .i64 ⟨none0, 3, none⟩ w fun x34_3 =>
        LdI .i64 ⟨none0, 4, none⟩ w fun x34_4 =>
        LdI .i64 ⟨none0, 5, none⟩ w fun x34_5 =>
        LdL ⟨none0, 6, none⟩ w fun x34_6_b x34_6_l x34_6_c =>
        Sts [.int .i64 x34_0, .int .i64 x34_1, .int .i64 x34_2, .int .i64 x34_3, .int .i64 x34_4, .int .i64 x34_5, .slice x34_6_b x34_6_l x34_6_c] ⟨t6, 0, none⟩ 0 w fun w3 =>
        LdI .i64 ⟨t6, 0, none⟩ w3 fun r_0_2 =>
        LdI .i64 ⟨t6, 1, none⟩ w3 fun r_1_2 =>
        LdI .i64 ⟨t6, 2, none⟩ w3 fun r_2_2 =>
        LdI .i64 ⟨t6, 3, none⟩ w3 fun r_3_2 =>
        LdI .i64 ⟨t6, 4, none⟩ w3 fun r_4_2 =>
        LdI .i64 ⟨t6, 5, none⟩ w3 fun r_5_2 =>
        LdL ⟨t6, 6, none⟩ w3 fun r_6_b_2 r_6_l_2 r_6_c_2 =>
        R r_0_2 r_1_2 r_2_2 r_3_2 r_4_2 r_5_2 r_6_b_2 r_6_l_2 r_6_c_2 (2 : Int) w3) (
        (0 ≤ (6 : Int) ∧ (6 : Int) ≤ ((raw_c : Nat) : Int)) ∧
        (0 ≤ (8 : Int) ∧ (8 : Int) ≤ ((raw_l : Nat) : Int)) ∧
        segm_sums.Call src dst (slBase raw_b ((0 : Nat) : Int) ((raw_c : Nat) : Int) 1) ((6 : Int).toNat - ((0 : Nat) : Int).toNat) (((raw_c : Nat) : Int).toNat - ((0 : Nat) : Int).toNat) (slBase raw_b (8 : Int) ((raw_c : Nat) : Int) 1) (((raw_l : Nat) : Int).toNat - (8 : Int).toNat) (((raw_c : Nat) : Int).toNat - (8 : Int).toNat) w.drew fun r42_0 r42_1 w4 =>
        Pn raw_b fun a =>
        (0 ≤ (6 : Int) ∧ (6 : Int) < ((raw_l : Nat) : Int)) ∧
        LdI .u8 (a.add 6) w4 fun x48 =>
        Bm (r42_0 != (IntKind.i64.wrap x48)) (
          segm_Decode.B2 raw_b raw_l raw_c t6 none0 true w4  R) (
          Pn raw_b fun a_1 =>
          (0 ≤ (7 : Int) ∧ (7 : Int) < ((raw_l : Nat) : Int)) ∧
          LdI .u8 (a_1.add 7) w4 fun x55 =>
          segm_Decode.B2 raw_b raw_l raw_c t6 none0 (r42_1 != (IntKind.i64.wrap x55)) w4  R))))
theorem segm_Decode.B1_eq (src dst : Int) (raw_b : Option Addr) (raw_l raw_c t6 none0 : Nat) (t25 : Bool) (w : World)   (R : Int → Int → Int → Int → Int → Int → Option Addr → Nat → Nat → Int → World → Prop) (sB2 : Option Addr → Nat → Nat → Nat → Nat → Bool → World → Prop) :
    (
  Bm t25 (
    LdI .i64 ⟨none0, 0, none⟩ w fun x26_0 =>
    LdI .i64 ⟨none0, 1, none⟩ w fun x26_1 =>
    LdI .i64 ⟨none0, 2, none⟩ w fun x26_2 =>
    LdI .i64 ⟨none0, 3, none⟩ w fun x26_3 =>
    LdI .i64 ⟨none0, 4, none⟩ w fun x26_4 =>
    LdI .i64 ⟨none0, 5, none⟩ w fun x26_5 =>
    LdL ⟨none0, 6, none⟩ w fun x26_6_b x26_6_l x26_6_c =>
    Sts [.int .i64 x26_0, .int .i64 x26_1, .int .i64 x26_2, .int .i64 x26_3, .int .i64 x26_4, .int .i64 x26_5, .slice x26_6_b x26_6_l x26_6_c] ⟨t6, 0, none⟩ 0 w fun w1 =>
    LdI .i64 ⟨t6, 0, none⟩ w1 fun r_0 =>
    LdI .i64 ⟨t6, 1, none⟩ w1 fun r_1 =>
    LdI .i64 ⟨t6, 2, none⟩ w1 fun r_2 =>
    LdI .i64 ⟨t6, 3, none⟩ w1 fun r_3 =>
    LdI .i64 ⟨t6, 4, none⟩ w1 fun r_4 =>
    LdI .i64 ⟨t6, 5, none⟩ w1 fun r_5 =>
    LdL ⟨t6, 6, none⟩ w1 fun r_6_b r_6_l r_6_c =>
    R r_0 r_1 r_2 r_3 r_4 r_5 r_6_b r_6_l r_6_c (5 : Int) w1) (
    Bm (decide (((raw_l : Nat) : Int) < (8 : Int))) (
      LdI .i64 ⟨none0, 0, none⟩ w fun x30_0 =>
      LdI .i64 ⟨none0, 1, none⟩ w fun x30_1 =>
      LdI .i64 ⟨none0, 2, none⟩ w fun x30_2 =>
      LdI .i64 ⟨none0, 3, none⟩ w fun x30_3 =>
      LdI .i64 ⟨none0, 4, none⟩ w fun x30_4 =>
      LdI .i64 ⟨none0, 5, none⟩ w fun x30_5 =>
      LdL ⟨none0, 6, none⟩ w fun x30_6_b x30_6_l x30_6_c =>
      Sts [.int .i64 x30_0, .int .i64 x30_1, .int .i64 x30_2, .int .i64 x30_3, .int .i64 x30_4, .int .i64 x30_5, .slice x30_6_b x30_6_l x30_6_c] ⟨t6, 0, none⟩ 0 w fun w2 =>
      LdI .i64 ⟨t6, 0, none⟩ w2 fun r_0_1 =>
      LdI .i64 ⟨t6, 1, none⟩ w2 fun r_1_1 =>
      LdI .i64 ⟨t6, 2, none⟩ w2 fun r_2_1 =>
      LdI .i64 ⟨t6, 3, none⟩ w2 fun r_3_1 =>
      LdI .i64 ⟨t6, 4, none⟩ w2 fun r_4_1 =>
      LdI .i64 ⟨t6, 5, none⟩ w2 fun r_5_1 =>
      LdL ⟨t6, 6, none⟩ w2 fun r_6_b_1 r_6_l_1 r_6_c_1 =>
      R r_0_1 r_1_1 r_2_1 r_3_1 r_4_1 r_5_1 r_6_b_1 r_6_l_1 r_6_c_1 (1 : Int) w2) (
      Bm (decide (((raw_l : Nat) : Int) > (20 : Int))) (
        LdI .i64 ⟨none0, 0, none⟩ w fun x34_0 =>
        LdI .i64 ⟨none0, 1, none⟩ w fun x34_1 =>
        LdI .i64 ⟨none0, 2, none⟩ w fun x34_2 =>
        LdI .i64 ⟨none0, 3, none⟩ w fun x34_3 =>
        LdI .i64 ⟨none0, 4, none⟩ w fun x34_4 =>
        LdI .i64 ⟨none0, 5, none⟩ w fun x34_5 =>
        LdL ⟨none0, 6, none⟩ w fun x34_6_b x34_6_l x34_6_c =>
        Sts [.int .i64 x34_0, .int .i64 x34_1, .int .i64 x34_2, .int .i64 x34_3, .int .i64 x34_4, .int .i64 x34_5, .slice x34_6_b x34_6_l x34_6_c] ⟨t6, 0, none⟩ 0 w fun w3 =>
        LdI .i64 ⟨t6, 0, none⟩ w3 fun r_0_2 =>
        LdI .i64 ⟨t6, 1, none⟩ w3 fun r_1_2 =>
        LdI .i64 ⟨t6, 2, none⟩ w3 fun r_2_2 =>
        LdI .i64 ⟨t6, 3, none⟩ w3 fun r_3_2 =>
        LdI .i64 ⟨t6, 4, none⟩ w3 fun r_4_2 =>
        LdI .i64 ⟨t6, 5, none⟩ w3 fun r_5_2 =>
        LdL ⟨t6, 6, none⟩ w3 fun r_6_b_2 r_6_l_2 r_6_c_2 =>
        R r_0_2 r_1_2 r_2_2 r_3_2 r_4_2 r_5_2 r_6_b_2 r_6_l_2 r_6_c_2 (2 : Int) w3) (
        (0 ≤ (6 : Int) ∧ (6 : Int) ≤ ((raw_c : Nat) : Int)) ∧
        (0 ≤ (8 : Int) ∧ (8 : Int) ≤ ((raw_l : Nat) : Int)) ∧
        segm_sums.Call src dst (slBase raw_b ((0 : Nat) : Int) ((raw_c : Nat) : Int) 1) ((6 : Int).toNat - ((0 : Nat) : Int).toNat) (((raw_c : Nat) : Int).toNat - ((0 : Nat) : Int).toNat) (slBase raw_b (8 : Int) ((raw_c : Nat) : Int) 1) (((raw_l : Nat) : Int).toNat - (8 : Int).toNat) (((raw_c : Nat) : Int).toNat - (8 : Int).toNat) w.drew fun r42_0 r42_1 w4 =>
        Pn raw_b fun a =>
        (0 ≤ (6 : Int) ∧ (6 : Int) < ((raw_l : Nat) : Int)) ∧
        LdI .u8 (a.add 6) w4 fun x48 =>
        Bm (r42_0 != (IntKind.i64.wrap x48)) (
          sB2 raw_b raw_l raw_c t6 none0 true w4) (
          Pn raw_b fun a_1 =>
          (0 ≤ (7 : Int) ∧ (7 : Int) < ((raw_l : Nat) : Int)) ∧
          LdI .u8 (a_1.add 7) w4 fun x55 =>
          sB2 raw_b raw_l raw_c t6 none0 (r42_1 != (IntKind.i64.wrap x55)) w4))))) = kstep Try.prog 93 Try.f77.results.toList (Try.f77.body.getD .skip) (segm_Decode.RV R) (kvc Try.prog 93 Try.f77.results.toList (Try.f77.body.getD .skip) (segm_Decode.RV R) [([(0, [1, 1, 1, 1, 1, 1, 0, 1]), (0, [1, 1, 1, 1, 1, 1, 1])], fun σ w => dL (slotOf σ 2) fun raw_b_ raw_l_ raw_c_ => dK (slotOf σ 6) fun t6_ => dK (slotOf σ 8) fun none0_ => dB (slotOf σ 58) fun t58_ => sB2 raw_b_ raw_l_ raw_c_ t6_ none0_ t58_ w)] 2000) [(0, [1, 1, 0, 1]), (0, [1, 1, 1])] [(0, .int .i64 src), (1, .int .i64 dst), (2, .slice raw_b raw_l raw_c), (6, .pointer (some ⟨t6, 0, none⟩)), (8, .pointer (some ⟨none0, 0, none⟩)), (25, .bool t25)] w := by kernel_rfl
theorem segm_Decode.B1_sound {R : Int → Int → Int → Int → Int → Int → Option Addr → Nat → Nat → Int → World → Prop}  (src dst : Int) (raw_b : Option Addr) (raw_l raw_c t6 none0 : Nat) (t25 : Bool) (w : World) (h : segm_Decode.B1 src dst raw_b raw_l raw_c t6 none0 t25 w   R) :
    KW Try.prog 77 93 (segm_Decode.RV R) ([(0, [1, 1, 0, 1]), (0, [1, 1, 1])].map (toItem (Try.f77.body.getD .skip))) [(0, .int .i64 src), (1, .int .i64 dst), (2, .slice raw_b raw_l raw_c), (6, .pointer (some ⟨t6, 0, none⟩)), (8, .pointer (some ⟨none0, 0, none⟩)), (25, .bool t25)] w := by
  exact block_spec Try.func77 Try.mixed (stops_cons (fun σ w h => by
      obtain ⟨raw_b_, raw_l_, raw_c_, e0, h⟩ := dL_elim h
      obtain ⟨t6_, e1, h⟩ := dK_elim h
      obtain ⟨none0_, e2, h⟩ := dK_elim h
      obtain ⟨t58_, e3, h⟩ := dB_elim h
      exact (segm_Decode.B2_sound  raw_b_ raw_l_ raw_c_ t6_ none0_ t58_ w h).weaken (Sub.cons (Sub.cons (Sub.cons (Sub.cons (Sub.nil _) e3) e2) e1) e0)) stops_nil) (Eq.mp (segm_Decode.B1_eq src dst raw_b raw_l raw_c t6 none0 t25 w   R (fun raw_b_ raw_l_ raw_c_ t6_ none0_ t58_ w => segm_Decode.B2 raw_b_ raw_l_ raw_c_ t6_ none0_ t58_ w  R)) h)
def segm_Decode.B0 (src dst : Int) (raw_b : Option Addr) (raw_l raw_c : Nat) (w : World)   (R : Int → Int → Int → Int → Int → Int → Option Addr → Nat → Nat → Int → World → Prop) : Prop :=
  New (.cells #[.int .i64 (0 : Int), .int .i64 (0 : Int), .int .i64 (0 : Int), .int .i64 (0 : Int), .int .i64 (0 : Int), .int .i64 (0 : Int), .slice none 0 0] 39) w fun b6 w1 =>
  New (.cells #[.int .i64 (0 : Int), .int .i64 (0 : Int), .int .i64 (0 : Int), .int .i64 (0 : Int), .int .i64 (0 : Int), .int .i64 (0 : Int), .slice none 0 0] 39) w1 fun none0_ w2 =>
  Sts [.int .i64 (0 : Int), .int .i64 (0 : Int), .int .i64 (0 : Int), .int .i64 (0 : Int), .int .i64 (0 : Int), .int .i64 (0 : Int), .slice none 0 0] ⟨none0_, 0, none⟩ 0 w2 fun w3 =>
  Bm (decide (src < (0 : Int))) (
    segm_Decode.B1 src dst raw_b raw_l raw_c b6 none0_ true w3  R) (
    Bm (decide (src > (255 : Int))) (
      segm_Decode.B1 src dst raw_b raw_l raw_c b6 none0_ true w3  R) (
      Bm (decide (dst < (0 : Int))) (
        segm_Decode.B1 src dst raw_b raw_l raw_c b6 none0_ true w3  R) (
        segm_Decode.B1 src dst raw_b raw_l raw_c b6 none0_ (decide (dst > (255 : Int))) w3  R)))
theorem segm_Decode.B0_eq (src dst : Int) (raw_b : Option Addr) (raw_l raw_c : Nat) (w : World)   (R : Int → Int → Int → Int → Int → Int → Option Addr → Nat → Nat → Int → World → Prop) (sB1 : Int → Int → Option Addr → Nat → Nat → Nat → Nat → Bool → World → Prop) :
    (
  New (.cells #[.int .i64 (0 : Int), .int .i64 (0 : Int), .int .i64 (0 : Int), .int .i64 (0 : Int), .int .i64 (0 : Int), .int .i64 (0 : Int), .slice none 0 0] 39) w fun b6 w1 =>
  New (.cells #[.int .i64 (0 : Int), .int .i64 (0 : Int), .int .i64 (0 : Int), .int .i64 (0 : Int), .int .i64 (0 : Int), .int .i64 (0 : Int), .slice none 0 0] 39) w1 fun none0_ w2 =>
  Sts [.int .i64 (0 : Int), .int .i64 (0 : Int), .int .i64 (0 : Int), .int .i64 (0 : Int), .int .i64 (0 : Int), .int .i64 (0 : Int), .slice none 0 0] ⟨none0_, 0, none⟩ 0 w2 fun w3 =>
  Bm (decide (src < (0 : Int))) (
    sB1 src dst raw_b raw_l raw_c b6 none0_ true w3) (
    Bm (decide (src > (255 : Int))) (
      sB1 src dst raw_b raw_l raw_c b6 none0_ true w3) (
      Bm (decide (dst < (0 : Int))) (
        sB1 src dst raw_b raw_l raw_c b6 none0_ true w3) (
        sB1 src dst raw_b raw_l raw_c b6 none0_ (decide (dst > (255 : Int))) w3)))) = kstep Try.prog 93 Try.f77.results.toList (Try.f77.body.getD .skip) (segm_Decode.RV R) (kvc Try.prog 93 Try.f77.results.toList (Try.f77.body.getD .skip) (segm_Decode.RV R) [([(0, [1, 1, 0, 1]), (0, [1, 1, 1])], fun σ w => dI .i64 (slotOf σ 0) fun src_ => dI .i64 (slotOf σ 1) fun dst_ => dL (slotOf σ 2) fun raw_b_ raw_l_ raw_c_ => dK (slotOf σ 6) fun t6_ => dK (slotOf σ 8) fun none0_ => dB (slotOf σ 25) fun t25_ => sB1 src_ dst_ raw_b_ raw_l_ raw_c_ t6_ none0_ t25_ w)] 2000) [(0, [])] [(0, .int .i64 src), (1, .int .i64 dst), (2, .slice raw_b raw_l raw_c)] w := by kernel_rfl
theorem segm_Decode.B0_sound {R : Int → Int → Int → Int → Int → Int → Option Addr → Nat → Nat → Int → World → Prop}  (src dst : Int) (raw_b : Option Addr) (raw_l raw_c : Nat) (w : World) (h : segm_Decode.B0 src dst raw_b raw_l raw_c w   R) :
    KW Try.prog 77 93 (segm_Decode.RV R) ([(0, [])].map (toItem (Try.f77.body.getD .skip))) [(0, .int .i64 src), (1, .int .i64 dst), (2, .slice raw_b raw_l raw_c)] w := by
  exact block_spec Try.func77 Try.mixed (stops_cons (fun σ w h => by
      obtain ⟨src_, e0, h⟩ := dI_elim h
      obtain ⟨dst_, e1, h⟩ := dI_elim h
      obtain ⟨raw_b_, raw_l_, raw_c_, e2, h⟩ := dL_elim h
      obtain ⟨t6_, e3, h⟩ := dK_elim h
      obtain ⟨none0_, e4, h⟩ := dK_elim h
      obtain ⟨t25_, e5, h⟩ := dB_elim h
      exact (segm_Decode.B1_sound  src_ dst_ raw_b_ raw_l_ raw_c_ t6_ none0_ t25_ w h).weaken (Sub.cons (Sub.cons (Sub.cons (Sub.cons (Sub.cons (Sub.cons (Sub.nil _) e5) e4) e3) e2) e1) e0)) stops_nil) (Eq.mp (segm_Decode.B0_eq src dst raw_b raw_l raw_c w   R (fun src_ dst_ raw_b_ raw_l_ raw_c_ t6_ none0_ t25_ w => segm_Decode.B1 src_ dst_ raw_b_ raw_l_ raw_c_ t6_ none0_ t25_ w  R)) h)
theorem segm_Decode.sound (src dst : Int) (raw_b : Option Addr) (raw_l raw_c : Nat) (w : World) (R : Int → Int → Int → Int → Int → Int → Option Addr → Nat → Nat → Int → World → Prop) (h : segm_Decode.B0 src dst raw_b raw_l raw_c w R) : segm_Decode.Call src dst raw_b raw_l raw_c w R := by
  have hc := calls_of_block (args := #[.int .i64 src, .int .i64 dst, .slice raw_b raw_l raw_c]) Try.func77 (body := (Try.f77.body.getD .skip)) (by kernel_rfl) (by kernel_rfl) (args_slot _) (segm_Decode.B0_sound src dst raw_b raw_l raw_c w h)
  exact hc.mono fun e w' he => by
    obtain ⟨v, rfl, hv⟩ := he
    exact segm_Decode.RV_elim hv
end Go.Proofs.Qxb6500426a
