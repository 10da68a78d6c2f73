import Derived.Test.Qxb6500432aSig
set_option maxRecDepth 100000
set_option linter.unusedVariables false
open Go.Vc
namespace Go.Proofs.Qxb6500432a
def diskm_New.L1b (z : ByteArray) (d : Nat) (b : Int) (w : World)  (N1 : ByteArray → Nat → Int → World → Prop) (R : Option Addr → World → Prop) : Prop :=
  Bm (decide (b < (14 : Int))) (
    LdL ⟨d, 0, none⟩ w fun x16_b x16_l x16_c =>
    Pn x16_b fun a =>
    (0 ≤ b ∧ b < ((x16_l : Nat) : Int)) ∧
    Sts [.string z] (Addr.add a (b.toNat * 1)) 0 w fun w1 =>
    N1 z d (IntKind.i64.wrap (b + (1 : Int))) w1) (
    LdL ⟨d, 0, none⟩ w fun x24_b x24_l x24_c =>
    diskm_blocks.Call x24_b x24_l x24_c w fun r25_b r25_l r25_c w2 =>
    Sts [.slice r25_b r25_l r25_c] ⟨d, 1, none⟩ 0 w2 fun w3 =>
    R (some ⟨d, 0, none⟩) w3)
theorem diskm_New.L1b_eq (z : ByteArray) (d : Nat) (b : Int) (w : World)  (N1 : ByteArray → Nat → Int → World → Prop) (R : Option Addr → World → Prop)  :
    (
  Bm (decide (b < (14 : Int))) (
    LdL ⟨d, 0, none⟩ w fun x16_b x16_l x16_c =>
    Pn x16_b fun a =>
    (0 ≤ b ∧ b < ((x16_l : Nat) : Int)) ∧
    Sts [.string z] (Addr.add a (b.toNat * 1)) 0 w fun w1 =>
    N1 z d (IntKind.i64.wrap (b + (1 : Int))) w1) (
    LdL ⟨d, 0, none⟩ w fun x24_b x24_l x24_c =>
    diskm_blocks.Call x24_b x24_l x24_c w fun r25_b r25_l r25_c w2 =>
    Sts [.slice r25_b r25_l r25_c] ⟨d, 1, none⟩ 0 w2 fun w3 =>
    R (some ⟨d, 0, none⟩) w3)) = kstep Try.prog 29 Try.f18.results.toList (Try.f18.body.getD .skip) (diskm_New.RV R) (kvc Try.prog 29 Try.f18.results.toList (Try.f18.body.getD .skip) (diskm_New.RV R) [([(0, [1, 1, 1, 0, 1, 0, 0]), (2, [1, 1, 1, 0, 1, 0, 0]), (1, [0]), (0, [1, 1, 1, 1])], fun σ w => dS (slotOf σ 1) fun z_ => dK (slotOf σ 2) fun d_ => dI .i64 (slotOf σ 3) fun b_ => N1 z_ d_ b_ w)] 2000) [(0, [1, 1, 1, 0, 1, 0, 0]), (2, [1, 1, 1, 0, 1, 0, 0]), (1, [0]), (0, [1, 1, 1, 1])] [(1, .string z), (2, .pointer (some ⟨d, 0, none⟩)), (3, .int .i64 b)] w := by kernel_rfl
theorem diskm_New.L1b_sound {R : Option Addr → World → Prop} {N1 : ByteArray → Nat → Int → World → Prop} (hN1 : ∀ z d b w, N1 z d b w → KW Try.prog 18 29 (diskm_New.RV R) ([(0, [1, 1, 1, 0, 1, 0, 0]), (2, [1, 1, 1, 0, 1, 0, 0]), (1, [0]), (0, [1, 1, 1, 1])].map (toItem (Try.f18.body.getD .skip))) [(1, .string z), (2, .pointer (some ⟨d, 0, none⟩)), (3, .int .i64 b)] w) (z : ByteArray) (d : Nat) (b : Int) (w : World) (h : diskm_New.L1b z d b w  N1 R) :
    KW Try.prog 18 29 (diskm_New.RV R) ([(0, [1, 1, 1, 0, 1, 0, 0]), (2, [1, 1, 1, 0, 1, 0, 0]), (1, [0]), (0, [1, 1, 1, 1])].map (toItem (Try.f18.body.getD .skip))) [(1, .string z), (2, .pointer (some ⟨d, 0, none⟩)), (3, .int .i64 b)] w := by
  exact block_spec Try.func18 Try.mixed (stops_cons (fun σ w h => by
      obtain ⟨z_, e0, h⟩ := dS_elim h
      obtain ⟨d_, e1, h⟩ := dK_elim h
      obtain ⟨b_, e2, h⟩ := dI_elim h
      exact (hN1 z_ d_ b_ w h).weaken (Sub.cons (Sub.cons (Sub.cons (Sub.nil _) e2) e1) e0)) stops_nil) (Eq.mp (diskm_New.L1b_eq z d b w  N1 R ) h)
def diskm_New.L1 (z : ByteArray) (d : Nat) (b : Int) (w : World)  (R : Option Addr → World → Prop) : Prop :=
  ∃ (I : Nat → ByteArray → Nat → Int → World → Prop) (m : Nat), I m z d b w ∧ ∀ m z d b w, I m z d b w → diskm_New.L1b z d b w  (fun z' d' b' w' => ∃ m', m' < m ∧ I m' z' d' b' w') R
theorem diskm_New.L1_sound {R : Option Addr → World → Prop}  (z : ByteArray) (d : Nat) (b : Int) (w : World) (h : diskm_New.L1 z d b w  R) :
    KW Try.prog 18 29 (diskm_New.RV R) ([(0, [1, 1, 1, 0, 1, 0, 0]), (2, [1, 1, 1, 0, 1, 0, 0]), (1, [0]), (0, [1, 1, 1, 1])].map (toItem (Try.f18.body.getD .skip))) [(1, .string z), (2, .pointer (some ⟨d, 0, none⟩)), (3, .int .i64 b)] w := by
  obtain ⟨I, m, h0, hr⟩ := h
  refine KW.loop (fun m σ w => ∃ (z : ByteArray) (d : Nat) (b : Int), σ = [(1, .string z), (2, .pointer (some ⟨d, 0, none⟩)), (3, .int .i64 b)] ∧ I m z d b w) ?_ m _ w ⟨z, d, b, rfl, h0⟩
  rintro m ih σ w ⟨z, d, b, rfl, hI⟩
  exact diskm_New.L1b_sound  (N1 := fun z' d' b' w' => ∃ m', m' < m ∧ I m' z' d' b' w') (fun z' d' b' w' hx => by obtain ⟨m', hlt, hI'⟩ := hx; exact ih m' hlt _ w' ⟨z', d', b', rfl, hI'⟩) z d b w (hr m z d b w hI)
def diskm_New.B0  (w : World)   (R : Option Addr → World → Prop) : Prop :=
  Make 5 (.int .u8 (0 : Int)) 1 1 (64 : Int) (64 : Int) w fun b4 w1 =>
  ToStr (some ⟨b4, 0, none⟩) 64 w1 fun s5 =>
  Make 9 (.string (ByteArray.mk #[])) 1 16 (14 : Int) (14 : Int) w1 fun b6 w2 =>
  New (.cells #[.slice (some ⟨b6, 0, none⟩) 14 14, .slice none 0 0, .slice none 0 0] 80) w2 fun b8 w3 =>
  diskm_New.L1 s5 b8 (0 : Int) w3  R
theorem diskm_New.B0_eq  (w : World)   (R : Option Addr → World → Prop) (sL1 : ByteArray → Nat → Int → World → Prop) :
    (
  Make 5 (.int .u8 (0 : Int)) 1 1 (64 : Int) (64 : Int) w fun b4 w1 =>
  ToStr (some ⟨b4, 0, none⟩) 64 w1 fun s5 =>
  Make 9 (.string (ByteArray.mk #[])) 1 16 (14 : Int) (14 : Int) w1 fun b6 w2 =>
  New (.cells #[.slice (some ⟨b6, 0, none⟩) 14 14, .slice none 0 0, .slice none 0 0] 80) w2 fun b8 w3 =>
  sL1 s5 b8 (0 : Int) w3) = kstep Try.prog 29 Try.f18.results.toList (Try.f18.body.getD .skip) (diskm_New.RV R) (kvc Try.prog 29 Try.f18.results.toList (Try.f18.body.getD .skip) (diskm_New.RV R) [([(0, [1, 1, 1, 0, 1, 0, 0]), (2, [1, 1, 1, 0, 1, 0, 0]), (1, [0]), (0, [1, 1, 1, 1])], fun σ w => dS (slotOf σ 1) fun z_ => dK (slotOf σ 2) fun d_ => dI .i64 (slotOf σ 3) fun b_ => sL1 z_ d_ b_ w)] 2000) [(0, [])] [] w := by kernel_rfl
theorem diskm_New.B0_sound {R : Option Addr → World → Prop}   (w : World) (h : diskm_New.B0  w   R) :
    KW Try.prog 18 29 (diskm_New.RV R) ([(0, [])].map (toItem (Try.f18.body.getD .skip))) [] w := by
  exact block_spec Try.func18 Try.mixed (stops_cons (fun σ w h => by
      obtain ⟨z_, e0, h⟩ := dS_elim h
      obtain ⟨d_, e1, h⟩ := dK_elim h
      obtain ⟨b_, e2, h⟩ := dI_elim h
      exact (diskm_New.L1_sound  z_ d_ b_ w h).weaken (Sub.cons (Sub.cons (Sub.cons (Sub.nil _) e2) e1) e0)) stops_nil) (Eq.mp (diskm_New.B0_eq  w   R (fun z_ d_ b_ w => diskm_New.L1 z_ d_ b_ w  R)) h)
theorem diskm_New.sound  (w : World) (R : Option Addr → World → Prop) (h : diskm_New.B0  w R) : diskm_New.Call  w R := by
  have hc := calls_of_block (args := #[]) Try.func18 (body := (Try.f18.body.getD .skip)) (by kernel_rfl) (by kernel_rfl) (args_slot _) (diskm_New.B0_sound  w h)
  exact hc.mono fun e w' he => by
    obtain ⟨v, rfl, hv⟩ := he
    exact diskm_New.RV_elim hv
def diskm_Disk_Write.B1 (d : Option Addr) (b : Int) (x : ByteArray) (t17 : Bool) (w : World)   (R : Int → World → Prop) : Prop :=
  Bm t17 (
    R (1 : Int) w) (
    Pn d fun a =>
    LdL a w fun x21_b x21_l x21_c =>
    Pn x21_b fun a_1 =>
    (0 ≤ b ∧ b < ((x21_l : Nat) : Int)) ∧
    Sts [.string x] (Addr.add a_1 (b.toNat * 1)) 0 w fun w1 =>
    Pn d fun a_2 =>
    LdL (a_2.add 2) w1.drew fun x29_b x29_l x29_c =>
    (0 ≤ (32 : Int) ∧ (32 : Int) ≤ ((x.size : Nat) : Int)) ∧
    New (.cells #[.int .i64 b, .int .i64 (0 : Int), .string (x.extract ((0 : Nat) : Int).toNat (32 : Int).toNat)] 83) w1.drew fun b34 w2 =>
    w2.cell? (a_2.add 2) = some (.slice x29_b x29_l x29_c) ∧
    Append 83 (.agg #[.int .i64 (0 : Int), .int .i64 (0 : Int), .string (ByteArray.mk #[])]) 3 32 x29_b x29_l x29_c (some ⟨b34, 0, none⟩) 1 w2 fun b35 c35 w3 =>
    Pn d fun a_3 =>
    Sts [.slice b35 (x29_l + 1) c35] (a_3.add 2) 0 w3 fun w4 =>
    Pn d fun a_4 =>
    LdL (a_4.add 2) w4.drew fun x42_b x42_l x42_c =>
    (0 ≤ (32 : Int) ∧ (32 : Int) ≤ ((x.size : Nat) : Int)) ∧
    New (.cells #[.int .i64 b, .int .i64 (1 : Int), .string (x.extract (32 : Int).toNat ((x.size : Nat) : Int).toNat)] 83) w4.drew fun b47 w5 =>
    w5.cell? (a_4.add 2) = some (.slice x42_b x42_l x42_c) ∧
    Append 83 (.agg #[.int .i64 (0 : Int), .int .i64 (0 : Int), .string (ByteArray.mk #[])]) 3 32 x42_b x42_l x42_c (some ⟨b47, 0, none⟩) 1 w5 fun b48 c48 w6 =>
    Pn d fun a_5 =>
    Sts [.slice b48 (x42_l + 1) c48] (a_5.add 2) 0 w6 fun w7 =>
    R (0 : Int) w7)
theorem diskm_Disk_Write.B1_eq (d : Option Addr) (b : Int) (x : ByteArray) (t17 : Bool) (w : World)   (R : Int → World → Prop)  :
    (
  Bm t17 (
    R (1 : Int) w) (
    Pn d fun a =>
    LdL a w fun x21_b x21_l x21_c =>
    Pn x21_b fun a_1 =>
    (0 ≤ b ∧ b < ((x21_l : Nat) : Int)) ∧
    Sts [.string x] (Addr.add a_1 (b.toNat * 1)) 0 w fun w1 =>
    Pn d fun a_2 =>
    LdL (a_2.add 2) w1.drew fun x29_b x29_l x29_c =>
    (0 ≤ (32 : Int) ∧ (32 : Int) ≤ ((x.size : Nat) : Int)) ∧
    New (.cells #[.int .i64 b, .int .i64 (0 : Int), .string (x.extract ((0 : Nat) : Int).toNat (32 : Int).toNat)] 83) w1.drew fun b34 w2 =>
    w2.cell? (a_2.add 2) = some (.slice x29_b x29_l x29_c) ∧
    Append 83 (.agg #[.int .i64 (0 : Int), .int .i64 (0 : Int), .string (ByteArray.mk #[])]) 3 32 x29_b x29_l x29_c (some ⟨b34, 0, none⟩) 1 w2 fun b35 c35 w3 =>
    Pn d fun a_3 =>
    Sts [.slice b35 (x29_l + 1) c35] (a_3.add 2) 0 w3 fun w4 =>
    Pn d fun a_4 =>
    LdL (a_4.add 2) w4.drew fun x42_b x42_l x42_c =>
    (0 ≤ (32 : Int) ∧ (32 : Int) ≤ ((x.size : Nat) : Int)) ∧
    New (.cells #[.int .i64 b, .int .i64 (1 : Int), .string (x.extract (32 : Int).toNat ((x.size : Nat) : Int).toNat)] 83) w4.drew fun b47 w5 =>
    w5.cell? (a_4.add 2) = some (.slice x42_b x42_l x42_c) ∧
    Append 83 (.agg #[.int .i64 (0 : Int), .int .i64 (0 : Int), .string (ByteArray.mk #[])]) 3 32 x42_b x42_l x42_c (some ⟨b47, 0, none⟩) 1 w5 fun b48 c48 w6 =>
    Pn d fun a_5 =>
    Sts [.slice b48 (x42_l + 1) c48] (a_5.add 2) 0 w6 fun w7 =>
    R (0 : Int) w7)) = kstep Try.prog 51 Try.f19.results.toList (Try.f19.body.getD .skip) (diskm_Disk_Write.RV R) (kvc Try.prog 51 Try.f19.results.toList (Try.f19.body.getD .skip) (diskm_Disk_Write.RV R) [] 2000) [(0, [1, 0, 1]), (0, [1, 1])] [(0, .pointer d), (1, .int .i64 b), (2, .string x), (17, .bool t17)] w := by kernel_rfl
theorem diskm_Disk_Write.B1_sound {R : Int → World → Prop}  (d : Option Addr) (b : Int) (x : ByteArray) (t17 : Bool) (w : World) (h : diskm_Disk_Write.B1 d b x t17 w   R) :
    KW Try.prog 19 51 (diskm_Disk_Write.RV R) ([(0, [1, 0, 1]), (0, [1, 1])].map (toItem (Try.f19.body.getD .skip))) [(0, .pointer d), (1, .int .i64 b), (2, .string x), (17, .bool t17)] w := by
  exact block_spec Try.func19 Try.mixed stops_nil (Eq.mp (diskm_Disk_Write.B1_eq d b x t17 w   R ) h)
def diskm_Disk_Write.B0 (d : Option Addr) (b : Int) (x : ByteArray) (w : World)   (R : Int → World → Prop) : Prop :=
  Bm (decide (b < (0 : Int))) (
    diskm_Disk_Write.B1 d b x true w  R) (
    Bm (decide (b ≥ (14 : Int))) (
      diskm_Disk_Write.B1 d b x true w  R) (
      diskm_Disk_Write.B1 d b x (((x.size : Nat) : Int) != (64 : Int)) w  R))
theorem diskm_Disk_Write.B0_eq (d : Option Addr) (b : Int) (x : ByteArray) (w : World)   (R : Int → World → Prop) (sB1 : Option Addr → Int → ByteArray → Bool → World → Prop) :
    (
  Bm (decide (b < (0 : Int))) (
    sB1 d b x true w) (
    Bm (decide (b ≥ (14 : Int))) (
      sB1 d b x true w) (
      sB1 d b x (((x.size : Nat) : Int) != (64 : Int)) w))) = kstep Try.prog 51 Try.f19.results.toList (Try.f19.body.getD .skip) (diskm_Disk_Write.RV R) (kvc Try.prog 51 Try.f19.results.toList (Try.f19.body.getD .skip) (diskm_Disk_Write.RV R) [([(0, [1, 0, 1]), (0, [1, 1])], fun σ w => dP (slotOf σ 0) fun d_ => dI .i64 (slotOf σ 1) fun b_ => dS (slotOf σ 2) fun x_ => dB (slotOf σ 17) fun t17_ => sB1 d_ b_ x_ t17_ w)] 2000) [(0, [])] [(0, .pointer d), (1, .int .i64 b), (2, .string x)] w := by kernel_rfl
theorem diskm_Disk_Write.B0_sound {R : Int → World → Prop}  (d : Option Addr) (b : Int) (x : ByteArray) (w : World) (h : diskm_Disk_Write.B0 d b x w   R) :
    KW Try.prog 19 51 (diskm_Disk_Write.RV R) ([(0, [])].map (toItem (Try.f19.body.getD .skip))) [(0, .pointer d), (1, .int .i64 b), (2, .string x)] w := by
  exact block_spec Try.func19 Try.mixed (stops_cons (fun σ w h => by
      obtain ⟨d_, e0, h⟩ := dP_elim h
      obtain ⟨b_, e1, h⟩ := dI_elim h
      obtain ⟨x_, e2, h⟩ := dS_elim h
      obtain ⟨t17_, e3, h⟩ := dB_elim h
      exact (diskm_Disk_Write.B1_sound  d_ b_ x_ t17_ w h).weaken (Sub.cons (Sub.cons (Sub.cons (Sub.cons (Sub.nil _) e3) e2) e1) e0)) stops_nil) (Eq.mp (diskm_Disk_Write.B0_eq d b x w   R (fun d_ b_ x_ t17_ w => diskm_Disk_Write.B1 d_ b_ x_ t17_ w  R)) h)
theorem diskm_Disk_Write.sound (d : Option Addr) (b : Int) (x : ByteArray) (w : World) (R : Int → World → Prop) (h : diskm_Disk_Write.B0 d b x w R) : diskm_Disk_Write.Call d b x w R := by
  have hc := calls_of_block (args := #[.pointer d, .int .i64 b, .string x]) Try.func19 (body := (Try.f19.body.getD .skip)) (by kernel_rfl) (by kernel_rfl) (args_slot _) (diskm_Disk_Write.B0_sound d b x w h)
  exact hc.mono fun e w' he => by
    obtain ⟨v, rfl, hv⟩ := he
    exact diskm_Disk_Write.RV_elim hv
def diskm_Disk_Mark.B0 (d : Option Addr) (w : World)   (R : World → Prop) : Prop :=
  Pn d fun a =>
  LdL a w fun x6_b x6_l x6_c =>
  diskm_blocks.Call x6_b x6_l x6_c w fun r7_b r7_l r7_c w1 =>
  Pn d fun a_1 =>
  Sts [.slice r7_b r7_l r7_c] (a_1.add 1) 0 w1 fun w2 =>
  Pn d fun a_2 =>
  Sts [.slice none 0 0] (a_2.add 2) 0 w2 fun w3 =>
  R  w3
theorem diskm_Disk_Mark.B0_eq (d : Option Addr) (w : World)   (R : World → Prop)  :
    (
  Pn d fun a =>
  LdL a w fun x6_b x6_l x6_c =>
  diskm_blocks.Call x6_b x6_l x6_c w fun r7_b r7_l r7_c w1 =>
  Pn d fun a_1 =>
  Sts [.slice r7_b r7_l r7_c] (a_1.add 1) 0 w1 fun w2 =>
  Pn d fun a_2 =>
  Sts [.slice none 0 0] (a_2.add 2) 0 w2 fun w3 =>
  R  w3) = kstep Try.prog 13 Try.f20.results.toList (Try.f20.body.getD .skip) (diskm_Disk_Mark.RV R) (kvc Try.prog 13 Try.f20.results.toList (Try.f20.body.getD .skip) (diskm_Disk_Mark.RV R) [] 2000) [(0, [])] [(0, .pointer d)] w := by kernel_rfl
theorem diskm_Disk_Mark.B0_sound {R : World → Prop}  (d : Option Addr) (w : World) (h : diskm_Disk_Mark.B0 d w   R) :
    KW Try.prog 20 13 (diskm_Disk_Mark.RV R) ([(0, [])].map (toItem (Try.f20.body.getD .skip))) [(0, .pointer d)] w := by
  exact block_spec Try.func20 Try.mixed stops_nil (Eq.mp (diskm_Disk_Mark.B0_eq d w   R ) h)
theorem diskm_Disk_Mark.sound (d : Option Addr) (w : World) (R : World → Prop) (h : diskm_Disk_Mark.B0 d w R) : diskm_Disk_Mark.Call d w R := by
  have hc := calls_of_block (args := #[.pointer d]) Try.func20 (body := (Try.f20.body.getD .skip)) (by kernel_rfl) (by kernel_rfl) (args_slot _) (diskm_Disk_Mark.B0_sound d w h)
  exact hc.mono fun e w' he => by
    obtain ⟨v, rfl, hv⟩ := he
    exact diskm_Disk_Mark.RV_elim hv
def store_Store_read.B0 (t : Option Addr) (b : Int) (w : World)   (R : ByteArray → World → Prop) : Prop :=
  Pn t fun a =>
  LdP a w fun x11 =>
  diskm_Disk_Read.Call x11 b w fun r13_0 r13_1 w1 =>
  R r13_0 w1
theorem store_Store_read.B0_eq (t : Option Addr) (b : Int) (w : World)   (R : ByteArray → World → Prop)  :
    (
  Pn t fun a =>
  LdP a w fun x11 =>
  diskm_Disk_Read.Call x11 b w fun r13_0 r13_1 w1 =>
  R r13_0 w1) = kstep Try.prog 17 Try.f21.results.toList (Try.f21.body.getD .skip) (store_Store_read.RV R) (kvc Try.prog 17 Try.f21.results.toList (Try.f21.body.getD .skip) (store_Store_read.RV R) [] 2000) [(0, [])] [(0, .pointer t), (1, .int .i64 b)] w := by kernel_rfl
theorem store_Store_read.B0_sound {R : ByteArray → World → Prop}  (t : Option Addr) (b : Int) (w : World) (h : store_Store_read.B0 t b w   R) :
    KW Try.prog 21 17 (store_Store_read.RV R) ([(0, [])].map (toItem (Try.f21.body.getD .skip))) [(0, .pointer t), (1, .int .i64 b)] w := by
  exact block_spec Try.func21 Try.mixed stops_nil (Eq.mp (store_Store_read.B0_eq t b w   R ) h)
theorem store_Store_read.sound (t : Option Addr) (b : Int) (w : World) (R : ByteArray → World → Prop) (h : store_Store_read.B0 t b w R) : store_Store_read.Call t b w R := by
  have hc := calls_of_block (args := #[.pointer t, .int .i64 b]) Try.func21 (body := (Try.f21.body.getD .skip)) (by kernel_rfl) (by kernel_rfl) (args_slot _) (store_Store_read.B0_sound t b w h)
  exact hc.mono fun e w' he => by
    obtain ⟨v, rfl, hv⟩ := he
    exact store_Store_read.RV_elim hv
def store_decMeta.B0 (b : ByteArray) (w : World)   (R : Bool → Int → Int → Int → World → Prop) : Prop :=
  New (.cells #[.bool false, .int .i64 (0 : Int), .int .i64 (0 : Int), .int .i64 (0 : Int)] 52) w fun b2 w1 =>
  store_whole.Call b w1 fun r6 w2 =>
  Bm (!r6) (
    Sts [.bool false, .int .i64 (0 : Int), .int .i64 (0 : Int), .int .i64 (0 : Int)] ⟨b2, 0, none⟩ 0 w2 fun w3 =>
    LdB ⟨b2, 0, none⟩ w3 fun r_0 =>
    LdI .i64 ⟨b2, 1, none⟩ w3 fun r_1 =>
    LdI .i64 ⟨b2, 2, none⟩ w3 fun r_2 =>
    LdI .i64 ⟨b2, 3, none⟩ w3 fun r_3 =>
    R r_0 r_1 r_2 r_3 w3) (
    store_get8.Call b (1 : Int) w2 fun r10 w4 =>
    store_get8.Call b (9 : Int) w4 fun r12 w5 =>
    (0 ≤ (32 : Int) ∧ (32 : Int) < ((b.size : Nat) : Int)) ∧
    Sts [.bool true, .int .i64 r10, .int .i64 r12, .int .i64 (IntKind.i64.wrap ((IntKind.i64.wrap (byteAt b (32 : Int))) - (1 : Int)))] ⟨b2, 0, none⟩ 0 w5 fun w6 =>
    LdB ⟨b2, 0, none⟩ w6 fun r_0_1 =>
    LdI .i64 ⟨b2, 1, none⟩ w6 fun r_1_1 =>
    LdI .i64 ⟨b2, 2, none⟩ w6 fun r_2_1 =>
    LdI .i64 ⟨b2, 3, none⟩ w6 fun r_3_1 =>
    R r_0_1 r_1_1 r_2_1 r_3_1 w6)
theorem store_decMeta.B0_eq (b : ByteArray) (w : World)   (R : Bool → Int → Int → Int → World → Prop)  :
    (
  New (.cells #[.bool false, .int .i64 (0 : Int), .int .i64 (0 : Int), .int .i64 (0 : Int)] 52) w fun b2 w1 =>
  store_whole.Call b w1 fun r6 w2 =>
  Bm (!r6) (
    Sts [.bool false, .int .i64 (0 : Int), .int .i64 (0 : Int), .int .i64 (0 : Int)] ⟨b2, 0, none⟩ 0 w2 fun w3 =>
    LdB ⟨b2, 0, none⟩ w3 fun r_0 =>
    LdI .i64 ⟨b2, 1, none⟩ w3 fun r_1 =>
    LdI .i64 ⟨b2, 2, none⟩ w3 fun r_2 =>
    LdI .i64 ⟨b2, 3, none⟩ w3 fun r_3 =>
    R r_0 r_1 r_2 r_3 w3) (
    store_get8.Call b (1 : Int) w2 fun r10 w4 =>
    store_get8.Call b (9 : Int) w4 fun r12 w5 =>
    (0 ≤ (32 : Int) ∧ (32 : Int) < ((b.size : Nat) : Int)) ∧
    Sts [.bool true, .int .i64 r10, .int .i64 r12, .int .i64 (IntKind.i64.wrap ((IntKind.i64.wrap (byteAt b (32 : Int))) - (1 : Int)))] ⟨b2, 0, none⟩ 0 w5 fun w6 =>
    LdB ⟨b2, 0, none⟩ w6 fun r_0_1 =>
    LdI .i64 ⟨b2, 1, none⟩ w6 fun r_1_1 =>
    LdI .i64 ⟨b2, 2, none⟩ w6 fun r_2_1 =>
    LdI .i64 ⟨b2, 3, none⟩ w6 fun r_3_1 =>
    R r_0_1 r_1_1 r_2_1 r_3_1 w6)) = kstep Try.prog 20 Try.f22.results.toList (Try.f22.body.getD .skip) (store_decMeta.RV R) (kvc Try.prog 20 Try.f22.results.toList (Try.f22.body.getD .skip) (store_decMeta.RV R) [] 2000) [(0, [])] [(0, .string b)] w := by kernel_rfl
theorem store_decMeta.B0_sound {R : Bool → Int → Int → Int → World → Prop}  (b : ByteArray) (w : World) (h : store_decMeta.B0 b w   R) :
    KW Try.prog 22 20 (store_decMeta.RV R) ([(0, [])].map (toItem (Try.f22.body.getD .skip))) [(0, .string b)] w := by
  exact block_spec Try.func22 Try.mixed stops_nil (Eq.mp (store_decMeta.B0_eq b w   R ) h)
theorem store_decMeta.sound (b : ByteArray) (w : World) (R : Bool → Int → Int → Int → World → Prop) (h : store_decMeta.B0 b w R) : store_decMeta.Call b w R := by
  have hc := calls_of_block (args := #[.string b]) Try.func22 (body := (Try.f22.body.getD .skip)) (by kernel_rfl) (by kernel_rfl) (args_slot _) (store_decMeta.B0_sound b w h)
  exact hc.mono fun e w' he => by
    obtain ⟨v, rfl, hv⟩ := he
    exact store_decMeta.RV_elim hv
def store_decHead.B1 (b : ByteArray) (t2 : Nat) (t19 : Bool) (w : World)   (R : Bool → Int → Int → Int → Int → Int → World → Prop) : Prop :=
  Bm t19 (
    Sts [.bool false, .int .i64 (0 : Int), .int .i64 (0 : Int), .int .i64 (0 : Int), .int .i64 (0 : Int), .int .i64 (0 : Int)] ⟨t2, 0, none⟩ 0 w fun w1 =>
    LdB ⟨t2, 0, none⟩ w1 fun r_0 =>
    LdI .i64 ⟨t2, 1, none⟩ w1 fun r_1 =>
    LdI .i64 ⟨t2, 2, none⟩ w1 fun r_2 =>
    LdI .i64 ⟨t2, 3, none⟩ w1 fun r_3 =>
    LdI .i64 ⟨t2, 4, none⟩ w1 fun r_4 =>
    LdI .i64 ⟨t2, 5, none⟩ w1 fun r_5 =>
    R r_0 r_1 r_2 r_3 r_4 r_5 w1) (
    store_get8.Call b (1 : Int) w fun r22 w2 =>
    store_get8.Call b (9 : Int) w2 fun r24 w3 =>
    store_get8.Call b (32 : Int) w3 fun r26 w4 =>
    (0 ≤ (40 : Int) ∧ (40 : Int) < ((b.size : Nat) : Int)) ∧
    (0 ≤ (41 : Int) ∧ (41 : Int) < ((b.size : Nat) : Int)) ∧
    Sts [.bool true, .int .i64 r22, .int .i64 r24, .int .i64 r26, .int .i64 (IntKind.i64.wrap (byteAt b (40 : Int))), .int .i64 (IntKind.i64.wrap (byteAt b (41 : Int)))] ⟨t2, 0, none⟩ 0 w4.drew fun w5 =>
    LdB ⟨t2, 0, none⟩ w5 fun r_0_1 =>
    LdI .i64 ⟨t2, 1, none⟩ w5 fun r_1_1 =>
    LdI .i64 ⟨t2, 2, none⟩ w5 fun r_2_1 =>
    LdI .i64 ⟨t2, 3, none⟩ w5 fun r_3_1 =>
    LdI .i64 ⟨t2, 4, none⟩ w5 fun r_4_1 =>
    LdI .i64 ⟨t2, 5, none⟩ w5 fun r_5_1 =>
    R r_0_1 r_1_1 r_2_1 r_3_1 r_4_1 r_5_1 w5)
theorem store_decHead.B1_eq (b : ByteArray) (t2 : Nat) (t19 : Bool) (w : World)   (R : Bool → Int → Int → Int → Int → Int → World → Prop)  :
    (
  Bm t19 (
    Sts [.bool false, .int .i64 (0 : Int), .int .i64 (0 : Int), .int .i64 (0 : Int), .int .i64 (0 : Int), .int .i64 (0 : Int)] ⟨t2, 0, none⟩ 0 w fun w1 =>
    LdB ⟨t2, 0, none⟩ w1 fun r_0 =>
    LdI .i64 ⟨t2, 1, none⟩ w1 fun r_1 =>
    LdI .i64 ⟨t2, 2, none⟩ w1 fun r_2 =>
    LdI .i64 ⟨t2, 3, none⟩ w1 fun r_3 =>
    LdI .i64 ⟨t2, 4, none⟩ w1 fun r_4 =>
    LdI .i64 ⟨t2, 5, none⟩ w1 fun r_5 =>
    R r_0 r_1 r_2 r_3 r_4 r_5 w1) (
    store_get8.Call b (1 : Int) w fun r22 w2 =>
    store_get8.Call b (9 : Int) w2 fun r24 w3 =>
    store_get8.Call b (32 : Int) w3 fun r26 w4 =>
    (0 ≤ (40 : Int) ∧ (40 : Int) < ((b.size : Nat) : Int)) ∧
    (0 ≤ (41 : Int) ∧ (41 : Int) < ((b.size : Nat) : Int)) ∧
    Sts [.bool true, .int .i64 r22, .int .i64 r24, .int .i64 r26, .int .i64 (IntKind.i64.wrap (byteAt b (40 : Int))), .int .i64 (IntKind.i64.wrap (byteAt b (41 : Int)))] ⟨t2, 0, none⟩ 0 w4.drew fun w5 =>
    LdB ⟨t2, 0, none⟩ w5 fun r_0_1 =>
    LdI .i64 ⟨t2, 1, none⟩ w5 fun r_1_1 =>
    LdI .i64 ⟨t2, 2, none⟩ w5 fun r_2_1 =>
    LdI .i64 ⟨t2, 3, none⟩ w5 fun r_3_1 =>
    LdI .i64 ⟨t2, 4, none⟩ w5 fun r_4_1 =>
    LdI .i64 ⟨t2, 5, none⟩ w5 fun r_5_1 =>
    R r_0_1 r_1_1 r_2_1 r_3_1 r_4_1 r_5_1 w5)) = kstep Try.prog 37 Try.f23.results.toList (Try.f23.body.getD .skip) (store_decHead.RV R) (kvc Try.prog 37 Try.f23.results.toList (Try.f23.body.getD .skip) (store_decHead.RV R) [] 2000) [(0, [1, 0, 1]), (0, [1, 1])] [(0, .string b), (2, .pointer (some ⟨t2, 0, none⟩)), (19, .bool t19)] w := by kernel_rfl
theorem store_decHead.B1_sound {R : Bool → Int → Int → Int → Int → Int → World → Prop}  (b : ByteArray) (t2 : Nat) (t19 : Bool) (w : World) (h : store_decHead.B1 b t2 t19 w   R) :
    KW Try.prog 23 37 (store_decHead.RV R) ([(0, [1, 0, 1]), (0, [1, 1])].map (toItem (Try.f23.body.getD .skip))) [(0, .string b), (2, .pointer (some ⟨t2, 0, none⟩)), (19, .bool t19)] w := by
  exact block_spec Try.func23 Try.mixed stops_nil (Eq.mp (store_decHead.B1_eq b t2 t19 w   R ) h)
def store_decHead.B0 (b : ByteArray) (w : World)   (R : Bool → Int → Int → Int → Int → Int → World → Prop) : Prop :=
  New (.cells #[.bool false, .int .i64 (0 : Int), .int .i64 (0 : Int), .int .i64 (0 : Int), .int .i64 (0 : Int), .int .i64 (0 : Int)] 54) w fun b2 w1 =>
  store_whole.Call b w1 fun r7 w2 =>
  Bm (!r7) (
    store_decHead.B1 b b2 true w2  R) (
    (0 ≤ (40 : Int) ∧ (40 : Int) < ((b.size : Nat) : Int)) ∧
    Bm (decide ((byteAt b (40 : Int)) > (1 : Int))) (
      store_decHead.B1 b b2 true w2  R) (
      (0 ≤ (41 : Int) ∧ (41 : Int) < ((b.size : Nat) : Int)) ∧
      store_decHead.B1 b b2 (decide ((IntKind.i64.wrap (byteAt b (41 : Int))) > (128 : Int))) w2  R))
theorem store_decHead.B0_eq (b : ByteArray) (w : World)   (R : Bool → Int → Int → Int → Int → Int → World → Prop) (sB1 : ByteArray → Nat → Bool → World → Prop) :
    (
  New (.cells #[.bool false, .int .i64 (0 : Int), .int .i64 (0 : Int), .int .i64 (0 : Int), .int .i64 (0 : Int), .int .i64 (0 : Int)] 54) w fun b2 w1 =>
  store_whole.Call b w1 fun r7 w2 =>
  Bm (!r7) (
    sB1 b b2 true w2) (
    (0 ≤ (40 : Int) ∧ (40 : Int) < ((b.size : Nat) : Int)) ∧
    Bm (decide ((byteAt b (40 : Int)) > (1 : Int))) (
      sB1 b b2 true w2) (
      (0 ≤ (41 : Int) ∧ (41 : Int) < ((b.size : Nat) : Int)) ∧
      sB1 b b2 (decide ((IntKind.i64.wrap (byteAt b (41 : Int))) > (128 : Int))) w2))) = kstep Try.prog 37 Try.f23.results.toList (Try.f23.body.getD .skip) (store_decHead.RV R) (kvc Try.prog 37 Try.f23.results.toList (Try.f23.body.getD .skip) (store_decHead.RV R) [([(0, [1, 0, 1]), (0, [1, 1])], fun σ w => dS (slotOf σ 0) fun b_ => dK (slotOf σ 2) fun t2_ => dB (slotOf σ 19) fun t19_ => sB1 b_ t2_ t19_ w)] 2000) [(0, [])] [(0, .string b)] w := by kernel_rfl
theorem store_decHead.B0_sound {R : Bool → Int → Int → Int → Int → Int → World → Prop}  (b : ByteArray) (w : World) (h : store_decHead.B0 b w   R) :
    KW Try.prog 23 37 (store_decHead.RV R) ([(0, [])].map (toItem (Try.f23.body.getD .skip))) [(0, .string b)] w := by
  exact block_spec Try.func23 Try.mixed (stops_cons (fun σ w h => by
      obtain ⟨b_, e0, h⟩ := dS_elim h
      obtain ⟨t2_, e1, h⟩ := dK_elim h
      obtain ⟨t19_, e2, h⟩ := dB_elim h
      exact (store_decHead.B1_sound  b_ t2_ t19_ w h).weaken (Sub.cons (Sub.cons (Sub.cons (Sub.nil _) e2) e1) e0)) stops_nil) (Eq.mp (store_decHead.B0_eq b w   R (fun b_ t2_ t19_ w => store_decHead.B1 b_ t2_ t19_ w  R)) h)
theorem store_decHead.sound (b : ByteArray) (w : World) (R : Bool → Int → Int → Int → Int → Int → World → Prop) (h : store_decHead.B0 b w R) : store_decHead.Call b w R := by
  have hc := calls_of_block (args := #[.string b]) Try.func23 (body := (Try.f23.body.getD .skip)) (by kernel_rfl) (by kernel_rfl) (args_slot _) (store_decHead.B0_sound b w h)
  exact hc.mono fun e w' he => by
    obtain ⟨v, rfl, hv⟩ := he
    exact store_decHead.RV_elim hv
def store_Store_area.B1 (t : Option Addr) (a n : Int) (out_b : Option Addr) (out_l out_c : Nat) (k : Int) (x : ByteArray) (i : Int) (t32 : Bool) (w : World) (N1 : Option Addr → Int → Int → Option Addr → Nat → Nat → Int → World → Prop) (N2 : Option Addr → Int → Int → Option Addr → Nat → Nat → Int → ByteArray → Int → World → Prop)  (R : ByteArray → World → Prop) : Prop :=
  Bm t32 (
    (0 ≤ i ∧ i < ((x.size : Nat) : Int)) ∧
    New (.cells #[.int .u8 (byteAt x i)] 5) w fun b39 w1 =>
    Append 5 (.int .u8 (0 : Int)) 1 1 out_b out_l out_c (some ⟨b39, 0, none⟩) 1 w1 fun b40 c40 w2 =>
    N2 t a n b40 (out_l + 1) c40 k x (IntKind.i64.wrap (i + (1 : Int))) w2) (
    N1 t a n out_b out_l out_c (IntKind.i64.wrap (k + (1 : Int))) w)
theorem store_Store_area.B1_eq (t : Option Addr) (a n : Int) (out_b : Option Addr) (out_l out_c : Nat) (k : Int) (x : ByteArray) (i : Int) (t32 : Bool) (w : World) (N1 : Option Addr → Int → Int → Option Addr → Nat → Nat → Int → World → Prop) (N2 : Option Addr → Int → Int → Option Addr → Nat → Nat → Int → ByteArray → Int → World → Prop)  (R : ByteArray → World → Prop)  :
    (
  Bm t32 (
    (0 ≤ i ∧ i < ((x.size : Nat) : Int)) ∧
    New (.cells #[.int .u8 (byteAt x i)] 5) w fun b39 w1 =>
    Append 5 (.int .u8 (0 : Int)) 1 1 out_b out_l out_c (some ⟨b39, 0, none⟩) 1 w1 fun b40 c40 w2 =>
    N2 t a n b40 (out_l + 1) c40 k x (IntKind.i64.wrap (i + (1 : Int))) w2) (
    N1 t a n out_b out_l out_c (IntKind.i64.wrap (k + (1 : Int))) w)) = kstep Try.prog 43 Try.f24.results.toList (Try.f24.body.getD .skip) (store_Store_area.RV R) (kvc Try.prog 43 Try.f24.results.toList (Try.f24.body.getD .skip) (store_Store_area.RV R) [([(0, [1, 1, 0, 1, 0, 0, 1, 0, 0, 1, 1, 0, 0]), (2, [1, 1, 0, 1, 0, 0, 1, 0, 0, 1, 1, 0, 0]), (1, [2]), (1, [1]), (0, [1, 1, 0, 1, 0, 0, 1, 1]), (2, [1, 1, 0, 1, 0, 0]), (1, [0]), (0, [1, 1, 1])], fun σ w => dP (slotOf σ 0) fun t_ => dI .i64 (slotOf σ 1) fun a_ => dI .i64 (slotOf σ 2) fun n_ => dL (slotOf σ 7) fun out_b_ out_l_ out_c_ => dI .i64 (slotOf σ 8) fun k_ => dS (slotOf σ 9) fun x_ => dI .i64 (slotOf σ 10) fun i_ => N2 t_ a_ n_ out_b_ out_l_ out_c_ k_ x_ i_ w),
    ([(0, [1, 1, 0, 1, 0, 0]), (2, [1, 1, 0, 1, 0, 0]), (1, [0]), (0, [1, 1, 1])], fun σ w => dP (slotOf σ 0) fun t_ => dI .i64 (slotOf σ 1) fun a_ => dI .i64 (slotOf σ 2) fun n_ => dL (slotOf σ 7) fun out_b_ out_l_ out_c_ => dI .i64 (slotOf σ 8) fun k_ => N1 t_ a_ n_ out_b_ out_l_ out_c_ k_ w)] 2000) [(0, [1, 1, 0, 1, 0, 0, 1, 0, 0, 1, 1, 0, 0, 0, 1]), (0, [1, 1, 0, 1, 0, 0, 1, 0, 0, 1, 1, 0, 0, 1]), (2, [1, 1, 0, 1, 0, 0, 1, 0, 0, 1, 1, 0, 0]), (1, [2]), (1, [1]), (0, [1, 1, 0, 1, 0, 0, 1, 1]), (2, [1, 1, 0, 1, 0, 0]), (1, [0]), (0, [1, 1, 1])] [(0, .pointer t), (1, .int .i64 a), (2, .int .i64 n), (7, .slice out_b out_l out_c), (8, .int .i64 k), (9, .string x), (10, .int .i64 i), (32, .bool t32)] w := by kernel_rfl
theorem store_Store_area.B1_sound {R : ByteArray → World → Prop} {N1 : Option Addr → Int → Int → Option Addr → Nat → Nat → Int → World → Prop} (hN1 : ∀ t a n out_b out_l out_c k w, N1 t a n out_b out_l out_c k w → KW Try.prog 24 43 (store_Store_area.RV R) ([(0, [1, 1, 0, 1, 0, 0]), (2, [1, 1, 0, 1, 0, 0]), (1, [0]), (0, [1, 1, 1])].map (toItem (Try.f24.body.getD .skip))) [(0, .pointer t), (1, .int .i64 a), (2, .int .i64 n), (7, .slice out_b out_l out_c), (8, .int .i64 k)] w) {N2 : Option Addr → Int → Int → Option Addr → Nat → Nat → Int → ByteArray → Int → World → Prop} (hN2 : ∀ t a n out_b out_l out_c k x i w, N2 t a n out_b out_l out_c k x i w → KW Try.prog 24 43 (store_Store_area.RV R) ([(0, [1, 1, 0, 1, 0, 0, 1, 0, 0, 1, 1, 0, 0]), (2, [1, 1, 0, 1, 0, 0, 1, 0, 0, 1, 1, 0, 0]), (1, [2]), (1, [1]), (0, [1, 1, 0, 1, 0, 0, 1, 1]), (2, [1, 1, 0, 1, 0, 0]), (1, [0]), (0, [1, 1, 1])].map (toItem (Try.f24.body.getD .skip))) [(0, .pointer t), (1, .int .i64 a), (2, .int .i64 n), (7, .slice out_b out_l out_c), (8, .int .i64 k), (9, .string x), (10, .int .i64 i)] w) (t : Option Addr) (a n : Int) (out_b : Option Addr) (out_l out_c : Nat) (k : Int) (x : ByteArray) (i : Int) (t32 : Bool) (w : World) (h : store_Store_area.B1 t a n out_b out_l out_c k x i t32 w N1 N2  R) :
    KW Try.prog 24 43 (store_Store_area.RV R) ([(0, [1, 1, 0, 1, 0, 0, 1, 0, 0, 1, 1, 0, 0, 0, 1]), (0, [1, 1, 0, 1, 0, 0, 1, 0, 0, 1, 1, 0, 0, 1]), (2, [1, 1, 0, 1, 0, 0, 1, 0, 0, 1, 1, 0, 0]), (1, [2]), (1, [1]), (0, [1, 1, 0, 1, 0, 0, 1, 1]), (2, [1, 1, 0, 1, 0, 0]), (1, [0]), (0, [1, 1, 1])].map (toItem (Try.f24.body.getD .skip))) [(0, .pointer t), (1, .int .i64 a), (2, .int .i64 n), (7, .slice out_b out_l out_c), (8, .int .i64 k), (9, .string x), (10, .int .i64 i), (32, .bool t32)] w := by
  exact block_spec Try.func24 Try.mixed (stops_cons (fun σ w h => by
      obtain ⟨t_, e0, h⟩ := dP_elim h
      obtain ⟨a_, e1, h⟩ := dI_elim h
      obtain ⟨n_, e2, h⟩ := dI_elim h
      obtain ⟨out_b_, out_l_, out_c_, e3, h⟩ := dL_elim h
      obtain ⟨k_, e4, h⟩ := dI_elim h
      obtain ⟨x_, e5, h⟩ := dS_elim h
      obtain ⟨i_, e6, h⟩ := dI_elim h
      exact (hN2 t_ a_ n_ out_b_ out_l_ out_c_ k_ x_ i_ w h).weaken (Sub.cons (Sub.cons (Sub.cons (Sub.cons (Sub.cons (Sub.cons (Sub.cons (Sub.nil _) e6) e5) e4) e3) e2) e1) e0)) (stops_cons (fun σ w h => by
      obtain ⟨t_, e0, h⟩ := dP_elim h
      obtain ⟨a_, e1, h⟩ := dI_elim h
      obtain ⟨n_, e2, h⟩ := dI_elim h
      obtain ⟨out_b_, out_l_, out_c_, e3, h⟩ := dL_elim h
      obtain ⟨k_, e4, h⟩ := dI_elim h
      exact (hN1 t_ a_ n_ out_b_ out_l_ out_c_ k_ w h).weaken (Sub.cons (Sub.cons (Sub.cons (Sub.cons (Sub.cons (Sub.nil _) e4) e3) e2) e1) e0)) stops_nil)) (Eq.mp (store_Store_area.B1_eq t a n out_b out_l out_c k x i t32 w N1 N2  R ) h)
def store_Store_area.L2b (t : Option Addr) (a n : Int) (out_b : Option Addr) (out_l out_c : Nat) (k : Int) (x : ByteArray) (i : Int) (w : World) (N1 : Option Addr → Int → Int → Option Addr → Nat → Nat → Int → World → Prop) (N2 : Option Addr → Int → Int → Option Addr → Nat → Nat → Int → ByteArray → Int → World → Prop) (R : ByteArray → World → Prop) : Prop :=
  Bm (decide (i < (64 : Int))) (
    store_Store_area.B1 t a n out_b out_l out_c k x i (decide ((IntKind.i64.wrap ((IntKind.i64.wrap (k * (64 : Int))) + i)) < n)) w N1 N2 R) (
    store_Store_area.B1 t a n out_b out_l out_c k x i false w N1 N2 R)
theorem store_Store_area.L2b_eq (t : Option Addr) (a n : Int) (out_b : Option Addr) (out_l out_c : Nat) (k : Int) (x : ByteArray) (i : Int) (w : World) (N1 : Option Addr → Int → Int → Option Addr → Nat → Nat → Int → World → Prop) (N2 : Option Addr → Int → Int → Option Addr → Nat → Nat → Int → ByteArray → Int → World → Prop) (R : ByteArray → World → Prop) (sB1 : Option Addr → Int → Int → Option Addr → Nat → Nat → Int → ByteArray → Int → Bool → World → Prop) :
    (
  Bm (decide (i < (64 : Int))) (
    sB1 t a n out_b out_l out_c k x i (decide ((IntKind.i64.wrap ((IntKind.i64.wrap (k * (64 : Int))) + i)) < n)) w) (
    sB1 t a n out_b out_l out_c k x i false w)) = kstep Try.prog 43 Try.f24.results.toList (Try.f24.body.getD .skip) (store_Store_area.RV R) (kvc Try.prog 43 Try.f24.results.toList (Try.f24.body.getD .skip) (store_Store_area.RV R) [([(0, [1, 1, 0, 1, 0, 0, 1, 0, 0, 1, 1, 0, 0, 0, 1]), (0, [1, 1, 0, 1, 0, 0, 1, 0, 0, 1, 1, 0, 0, 1]), (2, [1, 1, 0, 1, 0, 0, 1, 0, 0, 1, 1, 0, 0]), (1, [2]), (1, [1]), (0, [1, 1, 0, 1, 0, 0, 1, 1]), (2, [1, 1, 0, 1, 0, 0]), (1, [0]), (0, [1, 1, 1])], fun σ w => dP (slotOf σ 0) fun t_ => dI .i64 (slotOf σ 1) fun a_ => dI .i64 (slotOf σ 2) fun n_ => dL (slotOf σ 7) fun out_b_ out_l_ out_c_ => dI .i64 (slotOf σ 8) fun k_ => dS (slotOf σ 9) fun x_ => dI .i64 (slotOf σ 10) fun i_ => dB (slotOf σ 32) fun t32_ => sB1 t_ a_ n_ out_b_ out_l_ out_c_ k_ x_ i_ t32_ w)] 2000) [(0, [1, 1, 0, 1, 0, 0, 1, 0, 0, 1, 1, 0, 0]), (2, [1, 1, 0, 1, 0, 0, 1, 0, 0, 1, 1, 0, 0]), (1, [2]), (1, [1]), (0, [1, 1, 0, 1, 0, 0, 1, 1]), (2, [1, 1, 0, 1, 0, 0]), (1, [0]), (0, [1, 1, 1])] [(0, .pointer t), (1, .int .i64 a), (2, .int .i64 n), (7, .slice out_b out_l out_c), (8, .int .i64 k), (9, .string x), (10, .int .i64 i)] w := by kernel_rfl
theorem store_Store_area.L2b_sound {R : ByteArray → World → Prop} {N1 : Option Addr → Int → Int → Option Addr → Nat → Nat → Int → World → Prop} (hN1 : ∀ t a n out_b out_l out_c k w, N1 t a n out_b out_l out_c k w → KW Try.prog 24 43 (store_Store_area.RV R) ([(0, [1, 1, 0, 1, 0, 0]), (2, [1, 1, 0, 1, 0, 0]), (1, [0]), (0, [1, 1, 1])].map (toItem (Try.f24.body.getD .skip))) [(0, .pointer t), (1, .int .i64 a), (2, .int .i64 n), (7, .slice out_b out_l out_c), (8, .int .i64 k)] w) {N2 : Option Addr → Int → Int → Option Addr → Nat → Nat → Int → ByteArray → Int → World → Prop} (hN2 : ∀ t a n out_b out_l out_c k x i w, N2 t a n out_b out_l out_c k x i w → KW Try.prog 24 43 (store_Store_area.RV R) ([(0, [1, 1, 0, 1, 0, 0, 1, 0, 0, 1, 1, 0, 0]), (2, [1, 1, 0, 1, 0, 0, 1, 0, 0, 1, 1, 0, 0]), (1, [2]), (1, [1]), (0, [1, 1, 0, 1, 0, 0, 1, 1]), (2, [1, 1, 0, 1, 0, 0]), (1, [0]), (0, [1, 1, 1])].map (toItem (Try.f24.body.getD .skip))) [(0, .pointer t), (1, .int .i64 a), (2, .int .i64 n), (7, .slice out_b out_l out_c), (8, .int .i64 k), (9, .string x), (10, .int .i64 i)] w) (t : Option Addr) (a n : Int) (out_b : Option Addr) (out_l out_c : Nat) (k : Int) (x : ByteArray) (i : Int) (w : World) (h : store_Store_area.L2b t a n out_b out_l out_c k x i w N1 N2 R) :
    KW Try.prog 24 43 (store_Store_area.RV R) ([(0, [1, 1, 0, 1, 0, 0, 1, 0, 0, 1, 1, 0, 0]), (2, [1, 1, 0, 1, 0, 0, 1, 0, 0, 1, 1, 0, 0]), (1, [2]), (1, [1]), (0, [1, 1, 0, 1, 0, 0, 1, 1]), (2, [1, 1, 0, 1, 0, 0]), (1, [0]), (0, [1, 1, 1])].map (toItem (Try.f24.body.getD .skip))) [(0, .pointer t), (1, .int .i64 a), (2, .int .i64 n), (7, .slice out_b out_l out_c), (8, .int .i64 k), (9, .string x), (10, .int .i64 i)] w := by
  exact block_spec Try.func24 Try.mixed (stops_cons (fun σ w h => by
      obtain ⟨t_, e0, h⟩ := dP_elim h
      obtain ⟨a_, e1, h⟩ := dI_elim h
      obtain ⟨n_, e2, h⟩ := dI_elim h
      obtain ⟨out_b_, out_l_, out_c_, e3, h⟩ := dL_elim h
      obtain ⟨k_, e4, h⟩ := dI_elim h
      obtain ⟨x_, e5, h⟩ := dS_elim h
      obtain ⟨i_, e6, h⟩ := dI_elim h
      obtain ⟨t32_, e7, h⟩ := dB_elim h
      exact (store_Store_area.B1_sound hN1 hN2 t_ a_ n_ out_b_ out_l_ out_c_ k_ x_ i_ t32_ w h).weaken (Sub.cons (Sub.cons (Sub.cons (Sub.cons (Sub.cons (Sub.cons (Sub.cons (Sub.cons (Sub.nil _) e7) e6) e5) e4) e3) e2) e1) e0)) stops_nil) (Eq.mp (store_Store_area.L2b_eq t a n out_b out_l out_c k x i w N1 N2 R (fun t_ a_ n_ out_b_ out_l_ out_c_ k_ x_ i_ t32_ w => store_Store_area.B1 t_ a_ n_ out_b_ out_l_ out_c_ k_ x_ i_ t32_ w N1 N2 R)) h)
def store_Store_area.L2 (t : Option Addr) (a n : Int) (out_b : Option Addr) (out_l out_c : Nat) (k : Int) (x : ByteArray) (i : Int) (w : World) (N1 : Option Addr → Int → Int → Option Addr → Nat → Nat → Int → World → Prop) (R : ByteArray → World → Prop) : Prop :=
  ∃ (I : Nat → Option Addr → Int → Int → Option Addr → Nat → Nat → Int → ByteArray → Int → World → Prop) (m : Nat), I m t a n out_b out_l out_c k x i w ∧ ∀ m t a n out_b out_l out_c k x i w, I m t a n out_b out_l out_c k x i w → store_Store_area.L2b t a n out_b out_l out_c k x i w N1 (fun t' a' n' out_b' out_l' out_c' k' x' i' w' => ∃ m', m' < m ∧ I m' t' a' n' out_b' out_l' out_c' k' x' i' w') R
theorem store_Store_area.L2_sound {R : ByteArray → World → Prop} {N1 : Option Addr → Int → Int → Option Addr → Nat → Nat → Int → World → Prop} (hN1 : ∀ t a n out_b out_l out_c k w, N1 t a n out_b out_l out_c k w → KW Try.prog 24 43 (store_Store_area.RV R) ([(0, [1, 1, 0, 1, 0, 0]), (2, [1, 1, 0, 1, 0, 0]), (1, [0]), (0, [1, 1, 1])].map (toItem (Try.f24.body.getD .skip))) [(0, .pointer t), (1, .int .i64 a), (2, .int .i64 n), (7, .slice out_b out_l out_c), (8, .int .i64 k)] w) (t : Option Addr) (a n : Int) (out_b : Option Addr) (out_l out_c : Nat) (k : Int) (x : ByteArray) (i : Int) (w : World) (h : store_Store_area.L2 t a n out_b out_l out_c k x i w N1 R) :
    KW Try.prog 24 43 (store_Store_area.RV R) ([(0, [1, 1, 0, 1, 0, 0, 1, 0, 0, 1, 1, 0, 0]), (2, [1, 1, 0, 1, 0, 0, 1, 0, 0, 1, 1, 0, 0]), (1, [2]), (1, [1]), (0, [1, 1, 0, 1, 0, 0, 1, 1]), (2, [1, 1, 0, 1, 0, 0]), (1, [0]), (0, [1, 1, 1])].map (toItem (Try.f24.body.getD .skip))) [(0, .pointer t), (1, .int .i64 a), (2, .int .i64 n), (7, .slice out_b out_l out_c), (8, .int .i64 k), (9, .string x), (10, .int .i64 i)] w := by
  obtain ⟨I, m, h0, hr⟩ := h
  refine KW.loop (fun m σ w => ∃ (t : Option Addr) (a n : Int) (out_b : Option Addr) (out_l out_c : Nat) (k : Int) (x : ByteArray) (i : Int), σ = [(0, .pointer t), (1, .int .i64 a), (2, .int .i64 n), (7, .slice out_b out_l out_c), (8, .int .i64 k), (9, .string x), (10, .int .i64 i)] ∧ I m t a n out_b out_l out_c k x i w) ?_ m _ w ⟨t, a, n, out_b, out_l, out_c, k, x, i, rfl, h0⟩
  rintro m ih σ w ⟨t, a, n, out_b, out_l, out_c, k, x, i, rfl, hI⟩
  exact store_Store_area.L2b_sound hN1 (N2 := fun t' a' n' out_b' out_l' out_c' k' x' i' w' => ∃ m', m' < m ∧ I m' t' a' n' out_b' out_l' out_c' k' x' i' w') (fun t' a' n' out_b' out_l' out_c' k' x' i' w' hx => by obtain ⟨m', hlt, hI'⟩ := hx; exact ih m' hlt _ w' ⟨t', a', n', out_b', out_l', out_c', k', x', i', rfl, hI'⟩) t a n out_b out_l out_c k x i w (hr m t a n out_b out_l out_c k x i w hI)
def store_Store_area.L1b (t : Option Addr) (a n : Int) (out_b : Option Addr) (out_l out_c : Nat) (k : Int) (w : World)  (N1 : Option Addr → Int → Int → Option Addr → Nat → Nat → Int → World → Prop) (R : ByteArray → World → Prop) : Prop :=
  Bm (decide (k < (2 : Int))) (
    store_Store_read.Call t (IntKind.i64.wrap ((IntKind.i64.wrap ((4 : Int) + (IntKind.i64.wrap (a * (2 : Int))))) + k)) w fun r22 w1 =>
    store_Store_area.L2 t a n out_b out_l out_c k r22 (0 : Int) w1 N1 R) (
    ToStr out_b out_l w fun s42 =>
    R s42 w)
theorem store_Store_area.L1b_eq (t : Option Addr) (a n : Int) (out_b : Option Addr) (out_l out_c : Nat) (k : Int) (w : World)  (N1 : Option Addr → Int → Int → Option Addr → Nat → Nat → Int → World → Prop) (R : ByteArray → World → Prop) (sL2 : Option Addr → Int → Int → Option Addr → Nat → Nat → Int → ByteArray → Int → World → Prop) :
    (
  Bm (decide (k < (2 : Int))) (
    store_Store_read.Call t (IntKind.i64.wrap ((IntKind.i64.wrap ((4 : Int) + (IntKind.i64.wrap (a * (2 : Int))))) + k)) w fun r22 w1 =>
    sL2 t a n out_b out_l out_c k r22 (0 : Int) w1) (
    ToStr out_b out_l w fun s42 =>
    R s42 w)) = kstep Try.prog 43 Try.f24.results.toList (Try.f24.body.getD .skip) (store_Store_area.RV R) (kvc Try.prog 43 Try.f24.results.toList (Try.f24.body.getD .skip) (store_Store_area.RV R) [([(0, [1, 1, 0, 1, 0, 0, 1, 0, 0, 1, 1, 0, 0]), (2, [1, 1, 0, 1, 0, 0, 1, 0, 0, 1, 1, 0, 0]), (1, [2]), (1, [1]), (0, [1, 1, 0, 1, 0, 0, 1, 1]), (2, [1, 1, 0, 1, 0, 0]), (1, [0]), (0, [1, 1, 1])], fun σ w => dP (slotOf σ 0) fun t_ => dI .i64 (slotOf σ 1) fun a_ => dI .i64 (slotOf σ 2) fun n_ => dL (slotOf σ 7) fun out_b_ out_l_ out_c_ => dI .i64 (slotOf σ 8) fun k_ => dS (slotOf σ 9) fun x_ => dI .i64 (slotOf σ 10) fun i_ => sL2 t_ a_ n_ out_b_ out_l_ out_c_ k_ x_ i_ w)] 2000) [(0, [1, 1, 0, 1, 0, 0]), (2, [1, 1, 0, 1, 0, 0]), (1, [0]), (0, [1, 1, 1])] [(0, .pointer t), (1, .int .i64 a), (2, .int .i64 n), (7, .slice out_b out_l out_c), (8, .int .i64 k)] w := by kernel_rfl
theorem store_Store_area.L1b_sound {R : ByteArray → World → Prop} {N1 : Option Addr → Int → Int → Option Addr → Nat → Nat → Int → World → Prop} (hN1 : ∀ t a n out_b out_l out_c k w, N1 t a n out_b out_l out_c k w → KW Try.prog 24 43 (store_Store_area.RV R) ([(0, [1, 1, 0, 1, 0, 0]), (2, [1, 1, 0, 1, 0, 0]), (1, [0]), (0, [1, 1, 1])].map (toItem (Try.f24.body.getD .skip))) [(0, .pointer t), (1, .int .i64 a), (2, .int .i64 n), (7, .slice out_b out_l out_c), (8, .int .i64 k)] w) (t : Option Addr) (a n : Int) (out_b : Option Addr) (out_l out_c : Nat) (k : Int) (w : World) (h : store_Store_area.L1b t a n out_b out_l out_c k w  N1 R) :
    KW Try.prog 24 43 (store_Store_area.RV R) ([(0, [1, 1, 0, 1, 0, 0]), (2, [1, 1, 0, 1, 0, 0]), (1, [0]), (0, [1, 1, 1])].map (toItem (Try.f24.body.getD .skip))) [(0, .pointer t), (1, .int .i64 a), (2, .int .i64 n), (7, .slice out_b out_l out_c), (8, .int .i64 k)] w := by
  exact block_spec Try.func24 Try.mixed (stops_cons (fun σ w h => by
      obtain ⟨t_, e0, h⟩ := dP_elim h
      obtain ⟨a_, e1, h⟩ := dI_elim h
      obtain ⟨n_, e2, h⟩ := dI_elim h
      obtain ⟨out_b_, out_l_, out_c_, e3, h⟩ := dL_elim h
      obtain ⟨k_, e4, h⟩ := dI_elim h
      obtain ⟨x_, e5, h⟩ := dS_elim h
      obtain ⟨i_, e6, h⟩ := dI_elim h
      exact (store_Store_area.L2_sound hN1 t_ a_ n_ out_b_ out_l_ out_c_ k_ x_ i_ w h).weaken (Sub.cons (Sub.cons (Sub.cons (Sub.cons (Sub.cons (Sub.cons (Sub.cons (Sub.nil _) e6) e5) e4) e3) e2) e1) e0)) stops_nil) (Eq.mp (store_Store_area.L1b_eq t a n out_b out_l out_c k w  N1 R (fun t_ a_ n_ out_b_ out_l_ out_c_ k_ x_ i_ w => store_Store_area.L2 t_ a_ n_ out_b_ out_l_ out_c_ k_ x_ i_ w N1 R)) h)
def store_Store_area.L1 (t : Option Addr) (a n : Int) (out_b : Option Addr) (out_l out_c : Nat) (k : Int) (w : World)  (R : ByteArray → World → Prop) : Prop :=
  ∃ (I : Nat → Option Addr → Int → Int → Option Addr → Nat → Nat → Int → World → Prop) (m : Nat), I m t a n out_b out_l out_c k w ∧ ∀ m t a n out_b out_l out_c k w, I m t a n out_b out_l out_c k w → store_Store_area.L1b t a n out_b out_l out_c k w  (fun t' a' n' out_b' out_l' out_c' k' w' => ∃ m', m' < m ∧ I m' t' a' n' out_b' out_l' out_c' k' w') R
theorem store_Store_area.L1_sound {R : ByteArray → World → Prop}  (t : Option Addr) (a n : Int) (out_b : Option Addr) (out_l out_c : Nat) (k : Int) (w : World) (h : store_Store_area.L1 t a n out_b out_l out_c k w  R) :
    KW Try.prog 24 43 (store_Store_area.RV R) ([(0, [1, 1, 0, 1, 0, 0]), (2, [1, 1, 0, 1, 0, 0]), (1, [0]), (0, [1, 1, 1])].map (toItem (Try.f24.body.getD .skip))) [(0, .pointer t), (1, .int .i64 a), (2, .int .i64 n), (7, .slice out_b out_l out_c), (8, .int .i64 k)] w := by
  obtain ⟨I, m, h0, hr⟩ := h
  refine KW.loop (fun m σ w => ∃ (t : Option Addr) (a n : Int) (out_b : Option Addr) (out_l out_c : Nat) (k : Int), σ = [(0, .pointer t), (1, .int .i64 a), (2, .int .i64 n), (7, .slice out_b out_l out_c), (8, .int .i64 k)] ∧ I m t a n out_b out_l out_c k w) ?_ m _ w ⟨t, a, n, out_b, out_l, out_c, k, rfl, h0⟩
  rintro m ih σ w ⟨t, a, n, out_b, out_l, out_c, k, rfl, hI⟩
  exact store_Store_area.L1b_sound  (N1 := fun t' a' n' out_b' out_l' out_c' k' w' => ∃ m', m' < m ∧ I m' t' a' n' out_b' out_l' out_c' k' w') (fun t' a' n' out_b' out_l' out_c' k' w' hx => by obtain ⟨m', hlt, hI'⟩ := hx; exact ih m' hlt _ w' ⟨t', a', n', out_b', out_l', out_c', k', rfl, hI'⟩) t a n out_b out_l out_c k w (hr m t a n out_b out_l out_c k w hI)
def store_Store_area.B0 (t : Option Addr) (a n : Int) (w : World)   (R : ByteArray → World → Prop) : Prop :=
  Make 5 (.int .u8 (0 : Int)) 1 1 (0 : Int) (128 : Int) w fun b11 w1 =>
  store_Store_area.L1 t a n (some ⟨b11, 0, none⟩) 0 128 (0 : Int) w1  R
theorem store_Store_area.B0_eq (t : Option Addr) (a n : Int) (w : World)   (R : ByteArray → World → Prop) (sL1 : Option Addr → Int → Int → Option Addr → Nat → Nat → Int → World → Prop) :
    (
  Make 5 (.int .u8 (0 : Int)) 1 1 (0 : Int) (128 : Int) w fun b11 w1 =>
  sL1 t a n (some ⟨b11, 0, none⟩) 0 128 (0 : Int) w1) = kstep Try.prog 43 Try.f24.results.toList (Try.f24.body.getD .skip) (store_Store_area.RV R) (kvc Try.prog 43 Try.f24.results.toList (Try.f24.body.getD .skip) (store_Store_area.RV R) [([(0, [1, 1, 0, 1, 0, 0]), (2, [1, 1, 0, 1, 0, 0]), (1, [0]), (0, [1, 1, 1])], fun σ w => dP (slotOf σ 0) fun t_ => dI .i64 (slotOf σ 1) fun a_ => dI .i64 (slotOf σ 2) fun n_ => dL (slotOf σ 7) fun out_b_ out_l_ out_c_ => dI .i64 (slotOf σ 8) fun k_ => sL1 t_ a_ n_ out_b_ out_l_ out_c_ k_ w)] 2000) [(0, [])] [(0, .pointer t), (1, .int .i64 a), (2, .int .i64 n)] w := by kernel_rfl
theorem store_Store_area.B0_sound {R : ByteArray → World → Prop}  (t : Option Addr) (a n : Int) (w : World) (h : store_Store_area.B0 t a n w   R) :
    KW Try.prog 24 43 (store_Store_area.RV R) ([(0, [])].map (toItem (Try.f24.body.getD .skip))) [(0, .pointer t), (1, .int .i64 a), (2, .int .i64 n)] w := by
  exact block_spec Try.func24 Try.mixed (stops_cons (fun σ w h => by
      obtain ⟨t_, e0, h⟩ := dP_elim h
      obtain ⟨a_, e1, h⟩ := dI_elim h
      obtain ⟨n_, e2, h⟩ := dI_elim h
      obtain ⟨out_b_, out_l_, out_c_, e3, h⟩ := dL_elim h
      obtain ⟨k_, e4, h⟩ := dI_elim h
      exact (store_Store_area.L1_sound  t_ a_ n_ out_b_ out_l_ out_c_ k_ w h).weaken (Sub.cons (Sub.cons (Sub.cons (Sub.cons (Sub.cons (Sub.nil _) e4) e3) e2) e1) e0)) stops_nil) (Eq.mp (store_Store_area.B0_eq t a n w   R (fun t_ a_ n_ out_b_ out_l_ out_c_ k_ w => store_Store_area.L1 t_ a_ n_ out_b_ out_l_ out_c_ k_ w  R)) h)
theorem store_Store_area.sound (t : Option Addr) (a n : Int) (w : World) (R : ByteArray → World → Prop) (h : store_Store_area.B0 t a n w R) : store_Store_area.Call t a n w R := by
  have hc := calls_of_block (args := #[.pointer t, .int .i64 a, .int .i64 n]) Try.func24 (body := (Try.f24.body.getD .skip)) (by kernel_rfl) (by kernel_rfl) (args_slot _) (store_Store_area.B0_sound t a n w h)
  exact hc.mono fun e w' he => by
    obtain ⟨v, rfl, hv⟩ := he
    exact store_Store_area.RV_elim hv
def store_decRec.L1b (b : ByteArray) (t2 : Nat) (n : Int) (data_b : Option Addr) (data_l data_c : Nat) (i : Int) (w : World)  (N1 : ByteArray → Nat → Int → Option Addr → Nat → Nat → Int → World → Prop) (R : Int → Int → ByteArray → Bool → World → Prop) : Prop :=
  Bm (decide (i < n)) (
    (0 ≤ (IntKind.i64.wrap ((11 : Int) + i)) ∧ (IntKind.i64.wrap ((11 : Int) + i)) < ((b.size : Nat) : Int)) ∧
    Pn data_b fun a =>
    (0 ≤ i ∧ i < ((data_l : Nat) : Int)) ∧
    Sts [.int .u8 (byteAt b (IntKind.i64.wrap ((11 : Int) + i)))] (Addr.add a (i.toNat * 1)) 0 w fun w1 =>
    N1 b t2 n data_b data_l data_c (IntKind.i64.wrap (i + (1 : Int))) w1) (
    store_get8.Call b (2 : Int) w fun r40 w2 =>
    store_get8.Call b (35 : Int) w2 fun r42 w3 =>
    ToStr data_b data_l w3 fun s46 =>
    Sts [.int .i64 r40, .int .i64 r42, .string s46] ⟨t2, 0, none⟩ 0 w3 fun w4 =>
    LdI .i64 ⟨t2, 0, none⟩ w4 fun r_0 =>
    LdI .i64 ⟨t2, 1, none⟩ w4 fun r_1 =>
    LdS ⟨t2, 2, none⟩ w4 fun r_2 =>
    R r_0 r_1 r_2 true w4)
theorem store_decRec.L1b_eq (b : ByteArray) (t2 : Nat) (n : Int) (data_b : Option Addr) (data_l data_c : Nat) (i : Int) (w : World)  (N1 : ByteArray → Nat → Int → Option Addr → Nat → Nat → Int → World → Prop) (R : Int → Int → ByteArray → Bool → World → Prop)  :
    (
  Bm (decide (i < n)) (
    (0 ≤ (IntKind.i64.wrap ((11 : Int) + i)) ∧ (IntKind.i64.wrap ((11 : Int) + i)) < ((b.size : Nat) : Int)) ∧
    Pn data_b fun a =>
    (0 ≤ i ∧ i < ((data_l : Nat) : Int)) ∧
    Sts [.int .u8 (byteAt b (IntKind.i64.wrap ((11 : Int) + i)))] (Addr.add a (i.toNat * 1)) 0 w fun w1 =>
    N1 b t2 n data_b data_l data_c (IntKind.i64.wrap (i + (1 : Int))) w1) (
    store_get8.Call b (2 : Int) w fun r40 w2 =>
    store_get8.Call b (35 : Int) w2 fun r42 w3 =>
    ToStr data_b data_l w3 fun s46 =>
    Sts [.int .i64 r40, .int .i64 r42, .string s46] ⟨t2, 0, none⟩ 0 w3 fun w4 =>
    LdI .i64 ⟨t2, 0, none⟩ w4 fun r_0 =>
    LdI .i64 ⟨t2, 1, none⟩ w4 fun r_1 =>
    LdS ⟨t2, 2, none⟩ w4 fun r_2 =>
    R r_0 r_1 r_2 true w4)) = kstep Try.prog 48 Try.f25.results.toList (Try.f25.body.getD .skip) (store_decRec.RV R) (kvc Try.prog 48 Try.f25.results.toList (Try.f25.body.getD .skip) (store_decRec.RV R) [([(0, [1, 1, 1, 1, 0, 1, 0, 0]), (2, [1, 1, 1, 1, 0, 1, 0, 0]), (1, [0]), (0, [1, 1, 1, 1, 1])], fun σ w => dS (slotOf σ 0) fun b_ => dK (slotOf σ 2) fun t2_ => dI .i64 (slotOf σ 4) fun n_ => dL (slotOf σ 5) fun data_b_ data_l_ data_c_ => dI .i64 (slotOf σ 6) fun i_ => N1 b_ t2_ n_ data_b_ data_l_ data_c_ i_ w)] 2000) [(0, [1, 1, 1, 1, 0, 1, 0, 0]), (2, [1, 1, 1, 1, 0, 1, 0, 0]), (1, [0]), (0, [1, 1, 1, 1, 1])] [(0, .string b), (2, .pointer (some ⟨t2, 0, none⟩)), (4, .int .i64 n), (5, .slice data_b data_l data_c), (6, .int .i64 i)] w := by kernel_rfl
theorem store_decRec.L1b_sound {R : Int → Int → ByteArray → Bool → World → Prop} {N1 : ByteArray → Nat → Int → Option Addr → Nat → Nat → Int → World → Prop} (hN1 : ∀ b t2 n data_b data_l data_c i w, N1 b t2 n data_b data_l data_c i w → KW Try.prog 25 48 (store_decRec.RV R) ([(0, [1, 1, 1, 1, 0, 1, 0, 0]), (2, [1, 1, 1, 1, 0, 1, 0, 0]), (1, [0]), (0, [1, 1, 1, 1, 1])].map (toItem (Try.f25.body.getD .skip))) [(0, .string b), (2, .pointer (some ⟨t2, 0, none⟩)), (4, .int .i64 n), (5, .slice data_b data_l data_c), (6, .int .i64 i)] w) (b : ByteArray) (t2 : Nat) (n : Int) (data_b : Option Addr) (data_l data_c : Nat) (i : Int) (w : World) (h : store_decRec.L1b b t2 n data_b data_l data_c i w  N1 R) :
    KW Try.prog 25 48 (store_decRec.RV R) ([(0, [1, 1, 1, 1, 0, 1, 0, 0]), (2, [1, 1, 1, 1, 0, 1, 0, 0]), (1, [0]), (0, [1, 1, 1, 1, 1])].map (toItem (Try.f25.body.getD .skip))) [(0, .string b), (2, .pointer (some ⟨t2, 0, none⟩)), (4, .int .i64 n), (5, .slice data_b data_l data_c), (6, .int .i64 i)] w := by
  exact block_spec Try.func25 Try.mixed (stops_cons (fun σ w h => by
      obtain ⟨b_, e0, h⟩ := dS_elim h
      obtain ⟨t2_, e1, h⟩ := dK_elim h
      obtain ⟨n_, e2, h⟩ := dI_elim h
      obtain ⟨data_b_, data_l_, data_c_, e3, h⟩ := dL_elim h
      obtain ⟨i_, e4, h⟩ := dI_elim h
      exact (hN1 b_ t2_ n_ data_b_ data_l_ data_c_ i_ w h).weaken (Sub.cons (Sub.cons (Sub.cons (Sub.cons (Sub.cons (Sub.nil _) e4) e3) e2) e1) e0)) stops_nil) (Eq.mp (store_decRec.L1b_eq b t2 n data_b data_l data_c i w  N1 R ) h)
def store_decRec.L1 (b : ByteArray) (t2 : Nat) (n : Int) (data_b : Option Addr) (data_l data_c : Nat) (i : Int) (w : World)  (R : Int → Int → ByteArray → Bool → World → Prop) : Prop :=
  ∃ (I : Nat → ByteArray → Nat → Int → Option Addr → Nat → Nat → Int → World → Prop) (m : Nat), I m b t2 n data_b data_l data_c i w ∧ ∀ m b t2 n data_b data_l data_c i w, I m b t2 n data_b data_l data_c i w → store_decRec.L1b b t2 n data_b data_l data_c i w  (fun b' t2' n' data_b' data_l' data_c' i' w' => ∃ m', m' < m ∧ I m' b' t2' n' data_b' data_l' data_c' i' w') R
theorem store_decRec.L1_sound {R : Int → Int → ByteArray → Bool → World → Prop}  (b : ByteArray) (t2 : Nat) (n : Int) (data_b : Option Addr) (data_l data_c : Nat) (i : Int) (w : World) (h : store_decRec.L1 b t2 n data_b data_l data_c i w  R) :
    KW Try.prog 25 48 (store_decRec.RV R) ([(0, [1, 1, 1, 1, 0, 1, 0, 0]), (2, [1, 1, 1, 1, 0, 1, 0, 0]), (1, [0]), (0, [1, 1, 1, 1, 1])].map (toItem (Try.f25.body.getD .skip))) [(0, .string b), (2, .pointer (some ⟨t2, 0, none⟩)), (4, .int .i64 n), (5, .slice data_b data_l data_c), (6, .int .i64 i)] w := by
  obtain ⟨I, m, h0, hr⟩ := h
  refine KW.loop (fun m σ w => ∃ (b : ByteArray) (t2 : Nat) (n : Int) (data_b : Option Addr) (data_l data_c : Nat) (i : Int), σ = [(0, .string b), (2, .pointer (some ⟨t2, 0, none⟩)), (4, .int .i64 n), (5, .slice data_b data_l data_c), (6, .int .i64 i)] ∧ I m b t2 n data_b data_l data_c i w) ?_ m _ w ⟨b, t2, n, data_b, data_l, data_c, i, rfl, h0⟩
  rintro m ih σ w ⟨b, t2, n, data_b, data_l, data_c, i, rfl, hI⟩
  exact store_decRec.L1b_sound  (N1 := fun b' t2' n' data_b' data_l' data_c' i' w' => ∃ m', m' < m ∧ I m' b' t2' n' data_b' data_l' data_c' i' w') (fun b' t2' n' data_b' data_l' data_c' i' w' hx => by obtain ⟨m', hlt, hI'⟩ := hx; exact ih m' hlt _ w' ⟨b', t2', n', data_b', data_l', data_c', i', rfl, hI'⟩) b t2 n data_b data_l data_c i w (hr m b t2 n data_b data_l data_c i w hI)
def store_decRec.B1 (b : ByteArray) (t2 : Nat) (n : Int) (t23 : Bool) (w : World)   (R : Int → Int → ByteArray → Bool → World → Prop) : Prop :=
  Bm t23 (
    Sts [.int .i64 (0 : Int), .int .i64 (0 : Int), .string (ByteArray.mk #[])] ⟨t2, 0, none⟩ 0 w fun w1 =>
    LdI .i64 ⟨t2, 0, none⟩ w1 fun r_0 =>
    LdI .i64 ⟨t2, 1, none⟩ w1 fun r_1 =>
    LdS ⟨t2, 2, none⟩ w1 fun r_2 =>
    R r_0 r_1 r_2 false w1) (
    Make 5 (.int .u8 (0 : Int)) 1 1 n n w fun b26 w2 =>
    store_decRec.L1 b t2 n (some ⟨b26, 0, none⟩) n.toNat n.toNat (0 : Int) w2  R)
theorem store_decRec.B1_eq (b : ByteArray) (t2 : Nat) (n : Int) (t23 : Bool) (w : World)   (R : Int → Int → ByteArray → Bool → World → Prop) (sL1 : ByteArray → Nat → Int → Option Addr → Nat → Nat → Int → World → Prop) :
    (
  Bm t23 (
    Sts [.int .i64 (0 : Int), .int .i64 (0 : Int), .string (ByteArray.mk #[])] ⟨t2, 0, none⟩ 0 w fun w1 =>
    LdI .i64 ⟨t2, 0, none⟩ w1 fun r_0 =>
    LdI .i64 ⟨t2, 1, none⟩ w1 fun r_1 =>
    LdS ⟨t2, 2, none⟩ w1 fun r_2 =>
    R r_0 r_1 r_2 false w1) (
    Make 5 (.int .u8 (0 : Int)) 1 1 n n w fun b26 w2 =>
    sL1 b t2 n (some ⟨b26, 0, none⟩) n.toNat n.toNat (0 : Int) w2)) = kstep Try.prog 48 Try.f25.results.toList (Try.f25.body.getD .skip) (store_decRec.RV R) (kvc Try.prog 48 Try.f25.results.toList (Try.f25.body.getD .skip) (store_decRec.RV R) [([(0, [1, 1, 1, 1, 0, 1, 0, 0]), (2, [1, 1, 1, 1, 0, 1, 0, 0]), (1, [0]), (0, [1, 1, 1, 1, 1])], fun σ w => dS (slotOf σ 0) fun b_ => dK (slotOf σ 2) fun t2_ => dI .i64 (slotOf σ 4) fun n_ => dL (slotOf σ 5) fun data_b_ data_l_ data_c_ => dI .i64 (slotOf σ 6) fun i_ => sL1 b_ t2_ n_ data_b_ data_l_ data_c_ i_ w)] 2000) [(0, [1, 1, 0, 1]), (0, [1, 1, 1])] [(0, .string b), (2, .pointer (some ⟨t2, 0, none⟩)), (4, .int .i64 n), (23, .bool t23)] w := by kernel_rfl
theorem store_decRec.B1_sound {R : Int → Int → ByteArray → Bool → World → Prop}  (b : ByteArray) (t2 : Nat) (n : Int) (t23 : Bool) (w : World) (h : store_decRec.B1 b t2 n t23 w   R) :
    KW Try.prog 25 48 (store_decRec.RV R) ([(0, [1, 1, 0, 1]), (0, [1, 1, 1])].map (toItem (Try.f25.body.getD .skip))) [(0, .string b), (2, .pointer (some ⟨t2, 0, none⟩)), (4, .int .i64 n), (23, .bool t23)] w := by
  exact block_spec Try.func25 Try.mixed (stops_cons (fun σ w h => by
      obtain ⟨b_, e0, h⟩ := dS_elim h
      obtain ⟨t2_, e1, h⟩ := dK_elim h
      obtain ⟨n_, e2, h⟩ := dI_elim h
      obtain ⟨data_b_, data_l_, data_c_, e3, h⟩ := dL_elim h
      obtain ⟨i_, e4, h⟩ := dI_elim h
      exact (store_decRec.L1_sound  b_ t2_ n_ data_b_ data_l_ data_c_ i_ w h).weaken (Sub.cons (Sub.cons (Sub.cons (Sub.cons (Sub.cons (Sub.nil _) e4) e3) e2) e1) e0)) stops_nil) (Eq.mp (store_decRec.B1_eq b t2 n t23 w   R (fun b_ t2_ n_ data_b_ data_l_ data_c_ i_ w => store_decRec.L1 b_ t2_ n_ data_b_ data_l_ data_c_ i_ w  R)) h)
def store_decRec.B0 (b : ByteArray) (w : World)   (R : Int → Int → ByteArray → Bool → World → Prop) : Prop :=
  New (.cells #[.int .i64 (0 : Int), .int .i64 (0 : Int), .string (ByteArray.mk #[])] 38) w fun b2 w1 =>
  (0 ≤ (10 : Int) ∧ (10 : Int) < ((b.size : Nat) : Int)) ∧
  store_whole.Call b w1 fun r13 w2 =>
  Bm (!r13) (
    store_decRec.B1 b b2 (IntKind.i64.wrap (byteAt b (10 : Int))) true w2  R) (
    (0 ≤ (1 : Int) ∧ (1 : Int) < ((b.size : Nat) : Int)) ∧
    Bm ((byteAt b (1 : Int)) != (1 : Int)) (
      store_decRec.B1 b b2 (IntKind.i64.wrap (byteAt b (10 : Int))) true w2  R) (
      store_decRec.B1 b b2 (IntKind.i64.wrap (byteAt b (10 : Int))) (decide ((IntKind.i64.wrap (byteAt b (10 : Int))) > (24 : Int))) w2  R))
theorem store_decRec.B0_eq (b : ByteArray) (w : World)   (R : Int → Int → ByteArray → Bool → World → Prop) (sB1 : ByteArray → Nat → Int → Bool → World → Prop) :
    (
  New (.cells #[.int .i64 (0 : Int), .int .i64 (0 : Int), .string (ByteArray.mk #[])] 38) w fun b2 w1 =>
  (0 ≤ (10 : Int) ∧ (10 : Int) < ((b.size : Nat) : Int)) ∧
  store_whole.Call b w1 fun r13 w2 =>
  Bm (!r13) (
    sB1 b b2 (IntKind.i64.wrap (byteAt b (10 : Int))) true w2) (
    (0 ≤ (1 : Int) ∧ (1 : Int) < ((b.size : Nat) : Int)) ∧
    Bm ((byteAt b (1 : Int)) != (1 : Int)) (
      sB1 b b2 (IntKind.i64.wrap (byteAt b (10 : Int))) true w2) (
      sB1 b b2 (IntKind.i64.wrap (byteAt b (10 : Int))) (decide ((IntKind.i64.wrap (byteAt b (10 : Int))) > (24 : Int))) w2))) = kstep Try.prog 48 Try.f25.results.toList (Try.f25.body.getD .skip) (store_decRec.RV R) (kvc Try.prog 48 Try.f25.results.toList (Try.f25.body.getD .skip) (store_decRec.RV R) [([(0, [1, 1, 0, 1]), (0, [1, 1, 1])], fun σ w => dS (slotOf σ 0) fun b_ => dK (slotOf σ 2) fun t2_ => dI .i64 (slotOf σ 4) fun n_ => dB (slotOf σ 23) fun t23_ => sB1 b_ t2_ n_ t23_ w)] 2000) [(0, [])] [(0, .string b)] w := by kernel_rfl
theorem store_decRec.B0_sound {R : Int → Int → ByteArray → Bool → World → Prop}  (b : ByteArray) (w : World) (h : store_decRec.B0 b w   R) :
    KW Try.prog 25 48 (store_decRec.RV R) ([(0, [])].map (toItem (Try.f25.body.getD .skip))) [(0, .string b)] w := by
  exact block_spec Try.func25 Try.mixed (stops_cons (fun σ w h => by
      obtain ⟨b_, e0, h⟩ := dS_elim h
      obtain ⟨t2_, e1, h⟩ := dK_elim h
      obtain ⟨n_, e2, h⟩ := dI_elim h
      obtain ⟨t23_, e3, h⟩ := dB_elim h
      exact (store_decRec.B1_sound  b_ t2_ n_ t23_ w h).weaken (Sub.cons (Sub.cons (Sub.cons (Sub.cons (Sub.nil _) e3) e2) e1) e0)) stops_nil) (Eq.mp (store_decRec.B0_eq b w   R (fun b_ t2_ n_ t23_ w => store_decRec.B1 b_ t2_ n_ t23_ w  R)) h)
theorem store_decRec.sound (b : ByteArray) (w : World) (R : Int → Int → ByteArray → Bool → World → Prop) (h : store_decRec.B0 b w R) : store_decRec.Call b w R := by
  have hc := calls_of_block (args := #[.string b]) Try.func25 (body := (Try.f25.body.getD .skip)) (by kernel_rfl) (by kernel_rfl) (args_slot _) (store_decRec.B0_sound b w h)
  exact hc.mono fun e w' he => by
    obtain ⟨v, rfl, hv⟩ := he
    exact store_decRec.RV_elim hv
def store_sameMeta.B0 (a_0 : Bool) (a_1 a_2 a_3 : Int) (b_0 : Bool) (b_1 b_2 b_3 : Int) (w : World)   (R : Bool → World → Prop) : Prop :=
  New (.cells #[.bool a_0, .int .i64 a_1, .int .i64 a_2, .int .i64 a_3] 52) w fun a_ w1 =>
  New (.cells #[.bool b_0, .int .i64 b_1, .int .i64 b_2, .int .i64 b_3] 52) w1 fun b_ w2 =>
  LdB ⟨a_, 0, none⟩ w2 fun x6 =>
  LdB ⟨b_, 0, none⟩ w2 fun x8 =>
  Bm (x6 == x8) (
    LdI .i64 ⟨a_, 1, none⟩ w2 fun x12 =>
    LdI .i64 ⟨b_, 1, none⟩ w2 fun x14 =>
    Bm (x12 == x14) (
      LdI .i64 ⟨a_, 2, none⟩ w2 fun x19 =>
      LdI .i64 ⟨b_, 2, none⟩ w2 fun x21 =>
      Bm (x19 == x21) (
        LdI .i64 ⟨a_, 3, none⟩ w2 fun x26 =>
        LdI .i64 ⟨b_, 3, none⟩ w2 fun x28 =>
        R (x26 == x28) w2) (
        R false w2)) (
      R false w2)) (
    R false w2)
theorem store_sameMeta.B0_eq (a_0 : Bool) (a_1 a_2 a_3 : Int) (b_0 : Bool) (b_1 b_2 b_3 : Int) (w : World)   (R : Bool → World → Prop)  :
    (
  New (.cells #[.bool a_0, .int .i64 a_1, .int .i64 a_2, .int .i64 a_3] 52) w fun a_ w1 =>
  New (.cells #[.bool b_0, .int .i64 b_1, .int .i64 b_2, .int .i64 b_3] 52) w1 fun b_ w2 =>
  LdB ⟨a_, 0, none⟩ w2 fun x6 =>
  LdB ⟨b_, 0, none⟩ w2 fun x8 =>
  Bm (x6 == x8) (
    LdI .i64 ⟨a_, 1, none⟩ w2 fun x12 =>
    LdI .i64 ⟨b_, 1, none⟩ w2 fun x14 =>
    Bm (x12 == x14) (
      LdI .i64 ⟨a_, 2, none⟩ w2 fun x19 =>
      LdI .i64 ⟨b_, 2, none⟩ w2 fun x21 =>
      Bm (x19 == x21) (
        LdI .i64 ⟨a_, 3, none⟩ w2 fun x26 =>
        LdI .i64 ⟨b_, 3, none⟩ w2 fun x28 =>
        R (x26 == x28) w2) (
        R false w2)) (
      R false w2)) (
    R false w2)) = kstep Try.prog 31 Try.f26.results.toList (Try.f26.body.getD .skip) (store_sameMeta.RV R) (kvc Try.prog 31 Try.f26.results.toList (Try.f26.body.getD .skip) (store_sameMeta.RV R) [] 2000) [(0, [])] [(0, .agg #[.bool a_0, .int .i64 a_1, .int .i64 a_2, .int .i64 a_3]), (1, .agg #[.bool b_0, .int .i64 b_1, .int .i64 b_2, .int .i64 b_3])] w := by kernel_rfl
theorem store_sameMeta.B0_sound {R : Bool → World → Prop}  (a_0 : Bool) (a_1 a_2 a_3 : Int) (b_0 : Bool) (b_1 b_2 b_3 : Int) (w : World) (h : store_sameMeta.B0 a_0 a_1 a_2 a_3 b_0 b_1 b_2 b_3 w   R) :
    KW Try.prog 26 31 (store_sameMeta.RV R) ([(0, [])].map (toItem (Try.f26.body.getD .skip))) [(0, .agg #[.bool a_0, .int .i64 a_1, .int .i64 a_2, .int .i64 a_3]), (1, .agg #[.bool b_0, .int .i64 b_1, .int .i64 b_2, .int .i64 b_3])] w := by
  exact block_spec Try.func26 Try.mixed stops_nil (Eq.mp (store_sameMeta.B0_eq a_0 a_1 a_2 a_3 b_0 b_1 b_2 b_3 w   R ) h)
theorem store_sameMeta.sound (a_0 : Bool) (a_1 a_2 a_3 : Int) (b_0 : Bool) (b_1 b_2 b_3 : Int) (w : World) (R : Bool → World → Prop) (h : store_sameMeta.B0 a_0 a_1 a_2 a_3 b_0 b_1 b_2 b_3 w R) : store_sameMeta.Call a_0 a_1 a_2 a_3 b_0 b_1 b_2 b_3 w R := by
  have hc := calls_of_block (args := #[.agg #[.bool a_0, .int .i64 a_1, .int .i64 a_2, .int .i64 a_3], .agg #[.bool b_0, .int .i64 b_1, .int .i64 b_2, .int .i64 b_3]]) Try.func26 (body := (Try.f26.body.getD .skip)) (by kernel_rfl) (by kernel_rfl) (args_slot _) (store_sameMeta.B0_sound a_0 a_1 a_2 a_3 b_0 b_1 b_2 b_3 w h)
  exact hc.mono fun e w' he => by
    obtain ⟨v, rfl, hv⟩ := he
    exact store_sameMeta.RV_elim hv
end Go.Proofs.Qxb6500432a
