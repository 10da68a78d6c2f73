import Derived.Test.Qxb6500431aSig
set_option maxRecDepth 100000
set_option linter.unusedVariables false
open Go.Vc
namespace Go.Proofs.Qxb6500431a
def diskm_Disk_Write.B1 (d : Option Addr) (b : Int) (x : ByteArray) (t17 : Bool) (w : World)   (R : Int → World → Prop) : Prop :=
  Bm t17 (
    R (1 : Int) w) (
    Pn d fun a =>
    LdL a w fun x21_b x21_l x21_c =>
    Pn x21_b fun a_1 =>
    (0 ≤ b ∧ b < ((x21_l : Nat) : Int)) ∧
    Sts [.string x] (Addr.add a_1 (b.toNat * 1)) 0 w fun w1 =>
    Pn d fun a_2 =>
    LdL (a_2.add 2) w1.drew fun x29_b x29_l x29_c =>
    (0 ≤ (32 : Int) ∧ (32 : Int) ≤ ((x.size : Nat) : Int)) ∧
    New (.cells #[.int .i64 b, .int .i64 (0 : Int), .string (x.extract ((0 : Nat) : Int).toNat (32 : Int).toNat)] 114) w1.drew fun b34 w2 =>
    w2.cell? (a_2.add 2) = some (.slice x29_b x29_l x29_c) ∧
    Append 114 (.agg #[.int .i64 (0 : Int), .int .i64 (0 : Int), .string (ByteArray.mk #[])]) 3 32 x29_b x29_l x29_c (some ⟨b34, 0, none⟩) 1 w2 fun b35 c35 w3 =>
    Pn d fun a_3 =>
    Sts [.slice b35 (x29_l + 1) c35] (a_3.add 2) 0 w3 fun w4 =>
    Pn d fun a_4 =>
    LdL (a_4.add 2) w4.drew fun x42_b x42_l x42_c =>
    (0 ≤ (32 : Int) ∧ (32 : Int) ≤ ((x.size : Nat) : Int)) ∧
    New (.cells #[.int .i64 b, .int .i64 (1 : Int), .string (x.extract (32 : Int).toNat ((x.size : Nat) : Int).toNat)] 114) w4.drew fun b47 w5 =>
    w5.cell? (a_4.add 2) = some (.slice x42_b x42_l x42_c) ∧
    Append 114 (.agg #[.int .i64 (0 : Int), .int .i64 (0 : Int), .string (ByteArray.mk #[])]) 3 32 x42_b x42_l x42_c (some ⟨b47, 0, none⟩) 1 w5 fun b48 c48 w6 =>
    Pn d fun a_5 =>
    Sts [.slice b48 (x42_l + 1) c48] (a_5.add 2) 0 w6 fun w7 =>
    R (0 : Int) w7)
theorem diskm_Disk_Write.B1_eq (d : Option Addr) (b : Int) (x : ByteArray) (t17 : Bool) (w : World)   (R : Int → World → Prop)  :
    (
  Bm t17 (
    R (1 : Int) w) (
    Pn d fun a =>
    LdL a w fun x21_b x21_l x21_c =>
    Pn x21_b fun a_1 =>
    (0 ≤ b ∧ b < ((x21_l : Nat) : Int)) ∧
    Sts [.string x] (Addr.add a_1 (b.toNat * 1)) 0 w fun w1 =>
    Pn d fun a_2 =>
    LdL (a_2.add 2) w1.drew fun x29_b x29_l x29_c =>
    (0 ≤ (32 : Int) ∧ (32 : Int) ≤ ((x.size : Nat) : Int)) ∧
    New (.cells #[.int .i64 b, .int .i64 (0 : Int), .string (x.extract ((0 : Nat) : Int).toNat (32 : Int).toNat)] 114) w1.drew fun b34 w2 =>
    w2.cell? (a_2.add 2) = some (.slice x29_b x29_l x29_c) ∧
    Append 114 (.agg #[.int .i64 (0 : Int), .int .i64 (0 : Int), .string (ByteArray.mk #[])]) 3 32 x29_b x29_l x29_c (some ⟨b34, 0, none⟩) 1 w2 fun b35 c35 w3 =>
    Pn d fun a_3 =>
    Sts [.slice b35 (x29_l + 1) c35] (a_3.add 2) 0 w3 fun w4 =>
    Pn d fun a_4 =>
    LdL (a_4.add 2) w4.drew fun x42_b x42_l x42_c =>
    (0 ≤ (32 : Int) ∧ (32 : Int) ≤ ((x.size : Nat) : Int)) ∧
    New (.cells #[.int .i64 b, .int .i64 (1 : Int), .string (x.extract (32 : Int).toNat ((x.size : Nat) : Int).toNat)] 114) w4.drew fun b47 w5 =>
    w5.cell? (a_4.add 2) = some (.slice x42_b x42_l x42_c) ∧
    Append 114 (.agg #[.int .i64 (0 : Int), .int .i64 (0 : Int), .string (ByteArray.mk #[])]) 3 32 x42_b x42_l x42_c (some ⟨b47, 0, none⟩) 1 w5 fun b48 c48 w6 =>
    Pn d fun a_5 =>
    Sts [.slice b48 (x42_l + 1) c48] (a_5.add 2) 0 w6 fun w7 =>
    R (0 : Int) w7)) = kstep Try.prog 51 Try.f100.results.toList (Try.f100.body.getD .skip) (diskm_Disk_Write.RV R) (kvc Try.prog 51 Try.f100.results.toList (Try.f100.body.getD .skip) (diskm_Disk_Write.RV R) [] 2000) [(0, [1, 0, 1]), (0, [1, 1])] [(0, .pointer d), (1, .int .i64 b), (2, .string x), (17, .bool t17)] w := by kernel_rfl
theorem diskm_Disk_Write.B1_sound {R : Int → World → Prop}  (d : Option Addr) (b : Int) (x : ByteArray) (t17 : Bool) (w : World) (h : diskm_Disk_Write.B1 d b x t17 w   R) :
    KW Try.prog 100 51 (diskm_Disk_Write.RV R) ([(0, [1, 0, 1]), (0, [1, 1])].map (toItem (Try.f100.body.getD .skip))) [(0, .pointer d), (1, .int .i64 b), (2, .string x), (17, .bool t17)] w := by
  exact block_spec Try.func100 Try.mixed stops_nil (Eq.mp (diskm_Disk_Write.B1_eq d b x t17 w   R ) h)
def diskm_Disk_Write.B0 (d : Option Addr) (b : Int) (x : ByteArray) (w : World)   (R : Int → World → Prop) : Prop :=
  Bm (decide (b < (0 : Int))) (
    diskm_Disk_Write.B1 d b x true w  R) (
    Bm (decide (b ≥ (14 : Int))) (
      diskm_Disk_Write.B1 d b x true w  R) (
      diskm_Disk_Write.B1 d b x (((x.size : Nat) : Int) != (64 : Int)) w  R))
theorem diskm_Disk_Write.B0_eq (d : Option Addr) (b : Int) (x : ByteArray) (w : World)   (R : Int → World → Prop) (sB1 : Option Addr → Int → ByteArray → Bool → World → Prop) :
    (
  Bm (decide (b < (0 : Int))) (
    sB1 d b x true w) (
    Bm (decide (b ≥ (14 : Int))) (
      sB1 d b x true w) (
      sB1 d b x (((x.size : Nat) : Int) != (64 : Int)) w))) = kstep Try.prog 51 Try.f100.results.toList (Try.f100.body.getD .skip) (diskm_Disk_Write.RV R) (kvc Try.prog 51 Try.f100.results.toList (Try.f100.body.getD .skip) (diskm_Disk_Write.RV R) [([(0, [1, 0, 1]), (0, [1, 1])], fun σ w => dP (slotOf σ 0) fun d_ => dI .i64 (slotOf σ 1) fun b_ => dS (slotOf σ 2) fun x_ => dB (slotOf σ 17) fun t17_ => sB1 d_ b_ x_ t17_ w)] 2000) [(0, [])] [(0, .pointer d), (1, .int .i64 b), (2, .string x)] w := by kernel_rfl
theorem diskm_Disk_Write.B0_sound {R : Int → World → Prop}  (d : Option Addr) (b : Int) (x : ByteArray) (w : World) (h : diskm_Disk_Write.B0 d b x w   R) :
    KW Try.prog 100 51 (diskm_Disk_Write.RV R) ([(0, [])].map (toItem (Try.f100.body.getD .skip))) [(0, .pointer d), (1, .int .i64 b), (2, .string x)] w := by
  exact block_spec Try.func100 Try.mixed (stops_cons (fun σ w h => by
      obtain ⟨d_, e0, h⟩ := dP_elim h
      obtain ⟨b_, e1, h⟩ := dI_elim h
      obtain ⟨x_, e2, h⟩ := dS_elim h
      obtain ⟨t17_, e3, h⟩ := dB_elim h
      exact (diskm_Disk_Write.B1_sound  d_ b_ x_ t17_ w h).weaken (Sub.cons (Sub.cons (Sub.cons (Sub.cons (Sub.nil _) e3) e2) e1) e0)) stops_nil) (Eq.mp (diskm_Disk_Write.B0_eq d b x w   R (fun d_ b_ x_ t17_ w => diskm_Disk_Write.B1 d_ b_ x_ t17_ w  R)) h)
theorem diskm_Disk_Write.sound (d : Option Addr) (b : Int) (x : ByteArray) (w : World) (R : Int → World → Prop) (h : diskm_Disk_Write.B0 d b x w R) : diskm_Disk_Write.Call d b x w R := by
  have hc := calls_of_block (args := #[.pointer d, .int .i64 b, .string x]) Try.func100 (body := (Try.f100.body.getD .skip)) (by kernel_rfl) (by kernel_rfl) (args_slot _) (diskm_Disk_Write.B0_sound d b x w h)
  exact hc.mono fun e w' he => by
    obtain ⟨v, rfl, hv⟩ := he
    exact diskm_Disk_Write.RV_elim hv
def store_encHead.B0 (h0_0 : Bool) (h0_1 h0_2 h0_3 h0_4 h0_5 : Int) (w : World)   (R : Option Addr → Nat → Nat → World → Prop) : Prop :=
  New (.cells #[.bool h0_0, .int .i64 h0_1, .int .i64 h0_2, .int .i64 h0_3, .int .i64 h0_4, .int .i64 h0_5] 93) w fun h0_ w1 =>
  Make 5 (.int .u8 (0 : Int)) 1 1 (64 : Int) (64 : Int) w1 fun b4 w2 =>
  LdI .i64 ⟨h0_, 1, none⟩ w2 fun x7 =>
  store_put8.Call (some ⟨b4, 0, none⟩) 64 64 (1 : Int) x7 w2 fun r8_b r8_l r8_c w3 =>
  LdI .i64 ⟨h0_, 2, none⟩ w3 fun x11 =>
  store_put8.Call r8_b r8_l r8_c (9 : Int) x11 w3 fun r12_b r12_l r12_c w4 =>
  LdI .i64 ⟨h0_, 3, none⟩ w4 fun x15 =>
  store_put8.Call r12_b r12_l r12_c (32 : Int) x15 w4 fun r16_b r16_l r16_c w5 =>
  LdI .i64 ⟨h0_, 4, none⟩ w5 fun x19 =>
  Pn r16_b fun a =>
  (0 ≤ (40 : Int) ∧ (40 : Int) < ((r16_l : Nat) : Int)) ∧
  Sts [.int .u8 (IntKind.u8.wrap x19)] (a.add 40) 0 w5 fun w6 =>
  LdI .i64 ⟨h0_, 5, none⟩ w6 fun x24 =>
  Pn r16_b fun a_1 =>
  (0 ≤ (41 : Int) ∧ (41 : Int) < ((r16_l : Nat) : Int)) ∧
  Sts [.int .u8 (IntKind.u8.wrap x24)] (a_1.add 41) 0 w6 fun w7 =>
  R r16_b r16_l r16_c w7
theorem store_encHead.B0_eq (h0_0 : Bool) (h0_1 h0_2 h0_3 h0_4 h0_5 : Int) (w : World)   (R : Option Addr → Nat → Nat → World → Prop)  :
    (
  New (.cells #[.bool h0_0, .int .i64 h0_1, .int .i64 h0_2, .int .i64 h0_3, .int .i64 h0_4, .int .i64 h0_5] 93) w fun h0_ w1 =>
  Make 5 (.int .u8 (0 : Int)) 1 1 (64 : Int) (64 : Int) w1 fun b4 w2 =>
  LdI .i64 ⟨h0_, 1, none⟩ w2 fun x7 =>
  store_put8.Call (some ⟨b4, 0, none⟩) 64 64 (1 : Int) x7 w2 fun r8_b r8_l r8_c w3 =>
  LdI .i64 ⟨h0_, 2, none⟩ w3 fun x11 =>
  store_put8.Call r8_b r8_l r8_c (9 : Int) x11 w3 fun r12_b r12_l r12_c w4 =>
  LdI .i64 ⟨h0_, 3, none⟩ w4 fun x15 =>
  store_put8.Call r12_b r12_l r12_c (32 : Int) x15 w4 fun r16_b r16_l r16_c w5 =>
  LdI .i64 ⟨h0_, 4, none⟩ w5 fun x19 =>
  Pn r16_b fun a =>
  (0 ≤ (40 : Int) ∧ (40 : Int) < ((r16_l : Nat) : Int)) ∧
  Sts [.int .u8 (IntKind.u8.wrap x19)] (a.add 40) 0 w5 fun w6 =>
  LdI .i64 ⟨h0_, 5, none⟩ w6 fun x24 =>
  Pn r16_b fun a_1 =>
  (0 ≤ (41 : Int) ∧ (41 : Int) < ((r16_l : Nat) : Int)) ∧
  Sts [.int .u8 (IntKind.u8.wrap x24)] (a_1.add 41) 0 w6 fun w7 =>
  R r16_b r16_l r16_c w7) = kstep Try.prog 28 Try.f101.results.toList (Try.f101.body.getD .skip) (store_encHead.RV R) (kvc Try.prog 28 Try.f101.results.toList (Try.f101.body.getD .skip) (store_encHead.RV R) [] 2000) [(0, [])] [(0, .agg #[.bool h0_0, .int .i64 h0_1, .int .i64 h0_2, .int .i64 h0_3, .int .i64 h0_4, .int .i64 h0_5])] w := by kernel_rfl
theorem store_encHead.B0_sound {R : Option Addr → Nat → Nat → World → Prop}  (h0_0 : Bool) (h0_1 h0_2 h0_3 h0_4 h0_5 : Int) (w : World) (h : store_encHead.B0 h0_0 h0_1 h0_2 h0_3 h0_4 h0_5 w   R) :
    KW Try.prog 101 28 (store_encHead.RV R) ([(0, [])].map (toItem (Try.f101.body.getD .skip))) [(0, .agg #[.bool h0_0, .int .i64 h0_1, .int .i64 h0_2, .int .i64 h0_3, .int .i64 h0_4, .int .i64 h0_5])] w := by
  exact block_spec Try.func101 Try.mixed stops_nil (Eq.mp (store_encHead.B0_eq h0_0 h0_1 h0_2 h0_3 h0_4 h0_5 w   R ) h)
theorem store_encHead.sound (h0_0 : Bool) (h0_1 h0_2 h0_3 h0_4 h0_5 : Int) (w : World) (R : Option Addr → Nat → Nat → World → Prop) (h : store_encHead.B0 h0_0 h0_1 h0_2 h0_3 h0_4 h0_5 w R) : store_encHead.Call h0_0 h0_1 h0_2 h0_3 h0_4 h0_5 w R := by
  have hc := calls_of_block (args := #[.agg #[.bool h0_0, .int .i64 h0_1, .int .i64 h0_2, .int .i64 h0_3, .int .i64 h0_4, .int .i64 h0_5]]) Try.func101 (body := (Try.f101.body.getD .skip)) (by kernel_rfl) (by kernel_rfl) (args_slot _) (store_encHead.B0_sound h0_0 h0_1 h0_2 h0_3 h0_4 h0_5 w h)
  exact hc.mono fun e w' he => by
    obtain ⟨v, rfl, hv⟩ := he
    exact store_encHead.RV_elim hv
def store_next.B0 (old : Int) (w : World)   (R : Int → World → Prop) : Prop :=
  (255 : Int) ≠ 0 ∧
  R (IntKind.u8.wrap (IntKind.i64.wrap (((IntKind.i64.wrap old).tmod (255 : Int)) + (1 : Int)))) w
theorem store_next.B0_eq (old : Int) (w : World)   (R : Int → World → Prop)  :
    (
  (255 : Int) ≠ 0 ∧
  R (IntKind.u8.wrap (IntKind.i64.wrap (((IntKind.i64.wrap old).tmod (255 : Int)) + (1 : Int)))) w) = kstep Try.prog 8 Try.f102.results.toList (Try.f102.body.getD .skip) (store_next.RV R) (kvc Try.prog 8 Try.f102.results.toList (Try.f102.body.getD .skip) (store_next.RV R) [] 2000) [(0, [])] [(0, .int .u8 old)] w := by kernel_rfl
theorem store_next.B0_sound {R : Int → World → Prop}  (old : Int) (w : World) (h : store_next.B0 old w   R) :
    KW Try.prog 102 8 (store_next.RV R) ([(0, [])].map (toItem (Try.f102.body.getD .skip))) [(0, .int .u8 old)] w := by
  exact block_spec Try.func102 Try.mixed stops_nil (Eq.mp (store_next.B0_eq old w   R ) h)
theorem store_next.sound (old : Int) (w : World) (R : Int → World → Prop) (h : store_next.B0 old w R) : store_next.Call old w R := by
  have hc := calls_of_block (args := #[.int .u8 old]) Try.func102 (body := (Try.f102.body.getD .skip)) (by kernel_rfl) (by kernel_rfl) (args_slot _) (store_next.B0_sound old w h)
  exact hc.mono fun e w' he => by
    obtain ⟨v, rfl, hv⟩ := he
    exact store_next.RV_elim hv
def store_put8.L1b (b_b : Option Addr) (b_l b_c : Nat) (at0 v i : Int) (w : World)  (N1 : Option Addr → Nat → Nat → Int → Int → Int → World → Prop) (R : Option Addr → Nat → Nat → World → Prop) : Prop :=
  Bm (decide (i ≥ (0 : Int))) (
    Pn b_b fun a =>
    (0 ≤ (IntKind.i64.wrap (at0 + i)) ∧ (IntKind.i64.wrap (at0 + i)) < ((b_l : Nat) : Int)) ∧
    Sts [.int .u8 (IntKind.u8.wrap v)] (Addr.add a ((IntKind.i64.wrap (at0 + i)).toNat * 1)) 0 w fun w1 =>
    0 ≤ (8 : Int) ∧
    N1 b_b b_l b_c at0 (v.fdiv (2 ^ (min (8 : Int).toNat IntKind.i64.bits))) (IntKind.i64.wrap (i - (1 : Int))) w1) (
    R b_b b_l b_c w)
theorem store_put8.L1b_eq (b_b : Option Addr) (b_l b_c : Nat) (at0 v i : Int) (w : World)  (N1 : Option Addr → Nat → Nat → Int → Int → Int → World → Prop) (R : Option Addr → Nat → Nat → World → Prop)  :
    (
  Bm (decide (i ≥ (0 : Int))) (
    Pn b_b fun a =>
    (0 ≤ (IntKind.i64.wrap (at0 + i)) ∧ (IntKind.i64.wrap (at0 + i)) < ((b_l : Nat) : Int)) ∧
    Sts [.int .u8 (IntKind.u8.wrap v)] (Addr.add a ((IntKind.i64.wrap (at0 + i)).toNat * 1)) 0 w fun w1 =>
    0 ≤ (8 : Int) ∧
    N1 b_b b_l b_c at0 (v.fdiv (2 ^ (min (8 : Int).toNat IntKind.i64.bits))) (IntKind.i64.wrap (i - (1 : Int))) w1) (
    R b_b b_l b_c w)) = kstep Try.prog 22 Try.f103.results.toList (Try.f103.body.getD .skip) (store_put8.RV R) (kvc Try.prog 22 Try.f103.results.toList (Try.f103.body.getD .skip) (store_put8.RV R) [([(0, [1, 0, 1, 0, 0]), (2, [1, 0, 1, 0, 0]), (1, [0]), (0, [1, 1])], fun σ w => dL (slotOf σ 0) fun b_b_ b_l_ b_c_ => dI .i64 (slotOf σ 1) fun at0_ => dI .i64 (slotOf σ 2) fun v_ => dI .i64 (slotOf σ 7) fun i_ => N1 b_b_ b_l_ b_c_ at0_ v_ i_ w)] 2000) [(0, [1, 0, 1, 0, 0]), (2, [1, 0, 1, 0, 0]), (1, [0]), (0, [1, 1])] [(0, .slice b_b b_l b_c), (1, .int .i64 at0), (2, .int .i64 v), (7, .int .i64 i)] w := by kernel_rfl
theorem store_put8.L1b_sound {R : Option Addr → Nat → Nat → World → Prop} {N1 : Option Addr → Nat → Nat → Int → Int → Int → World → Prop} (hN1 : ∀ b_b b_l b_c at0 v i w, N1 b_b b_l b_c at0 v i w → KW Try.prog 103 22 (store_put8.RV R) ([(0, [1, 0, 1, 0, 0]), (2, [1, 0, 1, 0, 0]), (1, [0]), (0, [1, 1])].map (toItem (Try.f103.body.getD .skip))) [(0, .slice b_b b_l b_c), (1, .int .i64 at0), (2, .int .i64 v), (7, .int .i64 i)] w) (b_b : Option Addr) (b_l b_c : Nat) (at0 v i : Int) (w : World) (h : store_put8.L1b b_b b_l b_c at0 v i w  N1 R) :
    KW Try.prog 103 22 (store_put8.RV R) ([(0, [1, 0, 1, 0, 0]), (2, [1, 0, 1, 0, 0]), (1, [0]), (0, [1, 1])].map (toItem (Try.f103.body.getD .skip))) [(0, .slice b_b b_l b_c), (1, .int .i64 at0), (2, .int .i64 v), (7, .int .i64 i)] w := by
  exact block_spec Try.func103 Try.mixed (stops_cons (fun σ w h => by
      obtain ⟨b_b_, b_l_, b_c_, e0, h⟩ := dL_elim h
      obtain ⟨at0_, e1, h⟩ := dI_elim h
      obtain ⟨v_, e2, h⟩ := dI_elim h
      obtain ⟨i_, e3, h⟩ := dI_elim h
      exact (hN1 b_b_ b_l_ b_c_ at0_ v_ i_ w h).weaken (Sub.cons (Sub.cons (Sub.cons (Sub.cons (Sub.nil _) e3) e2) e1) e0)) stops_nil) (Eq.mp (store_put8.L1b_eq b_b b_l b_c at0 v i w  N1 R ) h)
def store_put8.L1 (b_b : Option Addr) (b_l b_c : Nat) (at0 v i : Int) (w : World)  (R : Option Addr → Nat → Nat → World → Prop) : Prop :=
  ∃ (I : Nat → Option Addr → Nat → Nat → Int → Int → Int → World → Prop) (m : Nat), I m b_b b_l b_c at0 v i w ∧ ∀ m b_b b_l b_c at0 v i w, I m b_b b_l b_c at0 v i w → store_put8.L1b b_b b_l b_c at0 v i w  (fun b_b' b_l' b_c' at0' v' i' w' => ∃ m', m' < m ∧ I m' b_b' b_l' b_c' at0' v' i' w') R
theorem store_put8.L1_sound {R : Option Addr → Nat → Nat → World → Prop}  (b_b : Option Addr) (b_l b_c : Nat) (at0 v i : Int) (w : World) (h : store_put8.L1 b_b b_l b_c at0 v i w  R) :
    KW Try.prog 103 22 (store_put8.RV R) ([(0, [1, 0, 1, 0, 0]), (2, [1, 0, 1, 0, 0]), (1, [0]), (0, [1, 1])].map (toItem (Try.f103.body.getD .skip))) [(0, .slice b_b b_l b_c), (1, .int .i64 at0), (2, .int .i64 v), (7, .int .i64 i)] w := by
  obtain ⟨I, m, hBase, hr⟩ := h
  refine KW.loop (fun m σ w => ∃ (b_b : Option Addr) (b_l b_c : Nat) (at0 v i : Int), σ = [(0, .slice b_b b_l b_c), (1, .int .i64 at0), (2, .int .i64 v), (7, .int .i64 i)] ∧ I m b_b b_l b_c at0 v i w) ?_ m _ w ⟨b_b, b_l, b_c, at0, v, i, rfl, hBase⟩
  rintro m ih σ w ⟨b_b, b_l, b_c, at0, v, i, rfl, hI⟩
  exact store_put8.L1b_sound  (N1 := fun b_b' b_l' b_c' at0' v' i' w' => ∃ m', m' < m ∧ I m' b_b' b_l' b_c' at0' v' i' w') (fun b_b' b_l' b_c' at0' v' i' w' hx => by obtain ⟨m', hlt, hI'⟩ := hx; exact ih m' hlt _ w' ⟨b_b', b_l', b_c', at0', v', i', rfl, hI'⟩) b_b b_l b_c at0 v i w (hr m b_b b_l b_c at0 v i w hI)
def store_put8.B0 (b_b : Option Addr) (b_l b_c : Nat) (at0 v : Int) (w : World)   (R : Option Addr → Nat → Nat → World → Prop) : Prop :=
  store_put8.L1 b_b b_l b_c at0 v (7 : Int) w  R
theorem store_put8.B0_eq (b_b : Option Addr) (b_l b_c : Nat) (at0 v : Int) (w : World)   (R : Option Addr → Nat → Nat → World → Prop) (sL1 : Option Addr → Nat → Nat → Int → Int → Int → World → Prop) :
    (
  sL1 b_b b_l b_c at0 v (7 : Int) w) = kstep Try.prog 22 Try.f103.results.toList (Try.f103.body.getD .skip) (store_put8.RV R) (kvc Try.prog 22 Try.f103.results.toList (Try.f103.body.getD .skip) (store_put8.RV R) [([(0, [1, 0, 1, 0, 0]), (2, [1, 0, 1, 0, 0]), (1, [0]), (0, [1, 1])], fun σ w => dL (slotOf σ 0) fun b_b_ b_l_ b_c_ => dI .i64 (slotOf σ 1) fun at0_ => dI .i64 (slotOf σ 2) fun v_ => dI .i64 (slotOf σ 7) fun i_ => sL1 b_b_ b_l_ b_c_ at0_ v_ i_ w)] 2000) [(0, [])] [(0, .slice b_b b_l b_c), (1, .int .i64 at0), (2, .int .i64 v)] w := by kernel_rfl
theorem store_put8.B0_sound {R : Option Addr → Nat → Nat → World → Prop}  (b_b : Option Addr) (b_l b_c : Nat) (at0 v : Int) (w : World) (h : store_put8.B0 b_b b_l b_c at0 v w   R) :
    KW Try.prog 103 22 (store_put8.RV R) ([(0, [])].map (toItem (Try.f103.body.getD .skip))) [(0, .slice b_b b_l b_c), (1, .int .i64 at0), (2, .int .i64 v)] w := by
  exact block_spec Try.func103 Try.mixed (stops_cons (fun σ w h => by
      obtain ⟨b_b_, b_l_, b_c_, e0, h⟩ := dL_elim h
      obtain ⟨at0_, e1, h⟩ := dI_elim h
      obtain ⟨v_, e2, h⟩ := dI_elim h
      obtain ⟨i_, e3, h⟩ := dI_elim h
      exact (store_put8.L1_sound  b_b_ b_l_ b_c_ at0_ v_ i_ w h).weaken (Sub.cons (Sub.cons (Sub.cons (Sub.cons (Sub.nil _) e3) e2) e1) e0)) stops_nil) (Eq.mp (store_put8.B0_eq b_b b_l b_c at0 v w   R (fun b_b_ b_l_ b_c_ at0_ v_ i_ w => store_put8.L1 b_b_ b_l_ b_c_ at0_ v_ i_ w  R)) h)
theorem store_put8.sound (b_b : Option Addr) (b_l b_c : Nat) (at0 v : Int) (w : World) (R : Option Addr → Nat → Nat → World → Prop) (h : store_put8.B0 b_b b_l b_c at0 v w R) : store_put8.Call b_b b_l b_c at0 v w R := by
  have hc := calls_of_block (args := #[.slice b_b b_l b_c, .int .i64 at0, .int .i64 v]) Try.func103 (body := (Try.f103.body.getD .skip)) (by kernel_rfl) (by kernel_rfl) (args_slot _) (store_put8.B0_sound b_b b_l b_c at0 v w h)
  exact hc.mono fun e w' he => by
    obtain ⟨v, rfl, hv⟩ := he
    exact store_put8.RV_elim hv
end Go.Proofs.Qxb6500431a
