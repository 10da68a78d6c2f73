import Derived.Test.Qxb6500429aSig
set_option maxRecDepth 100000
set_option linter.unusedVariables false
open Go.Vc
namespace Go.Proofs.Qxb6500429a
def kv_KV_run.B0 (k : Option Addr) (c_0 c_1 c_2 : Int) (c_3 c_4 c_5 : ByteArray) (w : World)   (R : Int → ByteArray → World → Prop) : Prop :=
  New (.cells #[.int .i64 c_0, .int .i64 c_1, .int .i64 c_2, .string c_3, .string c_4, .string c_5] 71) w fun c_ w1 =>
  New (.cells #[.int .i64 (0 : Int), .string (ByteArray.mk #[])] 54) w1 fun b4 w2 =>
  Pn k fun a =>
  LdS ⟨c_, 3, none⟩ w2.drew fun x11 =>
  kv_table_find.Call (some a) x11 w2.drew fun r12 w3 =>
  LdI .i64 ⟨c_, 0, none⟩ w3 fun x14 =>
  Bm (x14 == (1 : Int)) (
    LdI .i64 ⟨c_, 0, none⟩ w3 fun x18_0 =>
    LdI .i64 ⟨c_, 1, none⟩ w3 fun x18_1 =>
    LdI .i64 ⟨c_, 2, none⟩ w3 fun x18_2 =>
    LdS ⟨c_, 3, none⟩ w3 fun x18_3 =>
    LdS ⟨c_, 4, none⟩ w3 fun x18_4 =>
    LdS ⟨c_, 5, none⟩ w3 fun x18_5 =>
    kv_KV_put.Call k r12 x18_0 x18_1 x18_2 x18_3 x18_4 x18_5 w3 fun r19_0 r19_1 w4 =>
    Sts [.int .i64 r19_0, .string r19_1] ⟨b4, 0, none⟩ 0 w4 fun w5 =>
    LdI .i64 ⟨b4, 0, none⟩ w5 fun r_0 =>
    LdS ⟨b4, 1, none⟩ w5 fun r_1 =>
    R r_0 r_1 w5) (
    Bm (decide (r12 < (0 : Int))) (
      Sts [.int .i64 (2 : Int), .string (ByteArray.mk #[])] ⟨b4, 0, none⟩ 0 w3 fun w6 =>
      LdI .i64 ⟨b4, 0, none⟩ w6 fun r_0_1 =>
      LdS ⟨b4, 1, none⟩ w6 fun r_1_1 =>
      R r_0_1 r_1_1 w6) (
      Pn k fun a_1 =>
      (0 ≤ r12 ∧ r12 < ((8 : Nat) : Int)) ∧
      LdI .i64 (Addr.add a_1 (r12.toNat * 8)) w3 fun x29_0 =>
      LdI .i64 ((Addr.add a_1 (r12.toNat * 8)).add 1) w3 fun x29_1 =>
      LdI .u8 ((Addr.add a_1 (r12.toNat * 8)).add 2) w3 fun x29_2 =>
      LdI .u8 ((Addr.add a_1 (r12.toNat * 8)).add 3) w3 fun x29_3 =>
      LdI .i64 ((Addr.add a_1 (r12.toNat * 8)).add 4) w3 fun x29_4 =>
      LdI .u8 ((Addr.add a_1 (r12.toNat * 8)).add 5) w3 fun x29_5 =>
      LdI .u8 ((Addr.add a_1 (r12.toNat * 8)).add 6) w3 fun x29_6 =>
      LdI .u8 ((Addr.add a_1 (r12.toNat * 8)).add 7) w3 fun x29_7 =>
      kv_valOf.Call x29_0 x29_1 x29_2 x29_3 x29_4 x29_5 x29_6 x29_7 w3 fun r30 w7 =>
      LdI .i64 ⟨c_, 0, none⟩ w7 fun x32 =>
      Bm (x32 == (2 : Int)) (
        Sts [.int .i64 (0 : Int), .string r30] ⟨b4, 0, none⟩ 0 w7 fun w8 =>
        LdI .i64 ⟨b4, 0, none⟩ w8 fun r_0_2 =>
        LdS ⟨b4, 1, none⟩ w8 fun r_1_2 =>
        R r_0_2 r_1_2 w8) (
        LdI .i64 ⟨c_, 0, none⟩ w7 fun x37 =>
        Bm (x37 == (3 : Int)) (
          Pn k fun a_2 =>
          kv_table_drop.Call (some a_2) r12 w7 fun w9 =>
          Sts [.int .i64 (0 : Int), .string r30] ⟨b4, 0, none⟩ 0 w9 fun w10 =>
          LdI .i64 ⟨b4, 0, none⟩ w10 fun r_0_3 =>
          LdS ⟨b4, 1, none⟩ w10 fun r_1_3 =>
          R r_0_3 r_1_3 w10) (
          LdS ⟨c_, 5, none⟩ w7 fun x48 =>
          Bm (!(r30.toList == x48.toList)) (
            Sts [.int .i64 (11 : Int), .string r30] ⟨b4, 0, none⟩ 0 w7 fun w11 =>
            LdI .i64 ⟨b4, 0, none⟩ w11 fun r_0_4 =>
            LdS ⟨b4, 1, none⟩ w11 fun r_1_4 =>
            R r_0_4 r_1_4 w11) (
            LdS ⟨c_, 3, none⟩ w7.drew fun x55 =>
            LdS ⟨c_, 4, none⟩ w7.drew fun x57 =>
            Pn k fun a_3 =>
            kv_mkCell.Call x55 x57 w7.drew fun r58_0 r58_1 r58_2 r58_3 r58_4 r58_5 r58_6 r58_7 w12 =>
            (0 ≤ r12 ∧ r12 < ((8 : Nat) : Int)) ∧
            Sts [.int .i64 r58_0, .int .i64 r58_1, .int .u8 r58_2, .int .u8 r58_3, .int .i64 r58_4, .int .u8 r58_5, .int .u8 r58_6, .int .u8 r58_7] (Addr.add a_3 (r12.toNat * 8)) 0 w12 fun w13 =>
            Sts [.int .i64 (0 : Int), .string (ByteArray.mk #[])] ⟨b4, 0, none⟩ 0 w13 fun w14 =>
            LdI .i64 ⟨b4, 0, none⟩ w14 fun r_0_5 =>
            LdS ⟨b4, 1, none⟩ w14 fun r_1_5 =>
            R r_0_5 r_1_5 w14)))))
theorem kv_KV_run.B0_eq (k : Option Addr) (c_0 c_1 c_2 : Int) (c_3 c_4 c_5 : ByteArray) (w : World)   (R : Int → ByteArray → World → Prop)  :
    (
  New (.cells #[.int .i64 c_0, .int .i64 c_1, .int .i64 c_2, .string c_3, .string c_4, .string c_5] 71) w fun c_ w1 =>
  New (.cells #[.int .i64 (0 : Int), .string (ByteArray.mk #[])] 54) w1 fun b4 w2 =>
  Pn k fun a =>
  LdS ⟨c_, 3, none⟩ w2.drew fun x11 =>
  kv_table_find.Call (some a) x11 w2.drew fun r12 w3 =>
  LdI .i64 ⟨c_, 0, none⟩ w3 fun x14 =>
  Bm (x14 == (1 : Int)) (
    LdI .i64 ⟨c_, 0, none⟩ w3 fun x18_0 =>
    LdI .i64 ⟨c_, 1, none⟩ w3 fun x18_1 =>
    LdI .i64 ⟨c_, 2, none⟩ w3 fun x18_2 =>
    LdS ⟨c_, 3, none⟩ w3 fun x18_3 =>
    LdS ⟨c_, 4, none⟩ w3 fun x18_4 =>
    LdS ⟨c_, 5, none⟩ w3 fun x18_5 =>
    kv_KV_put.Call k r12 x18_0 x18_1 x18_2 x18_3 x18_4 x18_5 w3 fun r19_0 r19_1 w4 =>
    Sts [.int .i64 r19_0, .string r19_1] ⟨b4, 0, none⟩ 0 w4 fun w5 =>
    LdI .i64 ⟨b4, 0, none⟩ w5 fun r_0 =>
    LdS ⟨b4, 1, none⟩ w5 fun r_1 =>
    R r_0 r_1 w5) (
    Bm (decide (r12 < (0 : Int))) (
      Sts [.int .i64 (2 : Int), .string (ByteArray.mk #[])] ⟨b4, 0, none⟩ 0 w3 fun w6 =>
      LdI .i64 ⟨b4, 0, none⟩ w6 fun r_0_1 =>
      LdS ⟨b4, 1, none⟩ w6 fun r_1_1 =>
      R r_0_1 r_1_1 w6) (
      Pn k fun a_1 =>
      (0 ≤ r12 ∧ r12 < ((8 : Nat) : Int)) ∧
      LdI .i64 (Addr.add a_1 (r12.toNat * 8)) w3 fun x29_0 =>
      LdI .i64 ((Addr.add a_1 (r12.toNat * 8)).add 1) w3 fun x29_1 =>
      LdI .u8 ((Addr.add a_1 (r12.toNat * 8)).add 2) w3 fun x29_2 =>
      LdI .u8 ((Addr.add a_1 (r12.toNat * 8)).add 3) w3 fun x29_3 =>
      LdI .i64 ((Addr.add a_1 (r12.toNat * 8)).add 4) w3 fun x29_4 =>
      LdI .u8 ((Addr.add a_1 (r12.toNat * 8)).add 5) w3 fun x29_5 =>
      LdI .u8 ((Addr.add a_1 (r12.toNat * 8)).add 6) w3 fun x29_6 =>
      LdI .u8 ((Addr.add a_1 (r12.toNat * 8)).add 7) w3 fun x29_7 =>
      kv_valOf.Call x29_0 x29_1 x29_2 x29_3 x29_4 x29_5 x29_6 x29_7 w3 fun r30 w7 =>
      LdI .i64 ⟨c_, 0, none⟩ w7 fun x32 =>
      Bm (x32 == (2 : Int)) (
        Sts [.int .i64 (0 : Int), .string r30] ⟨b4, 0, none⟩ 0 w7 fun w8 =>
        LdI .i64 ⟨b4, 0, none⟩ w8 fun r_0_2 =>
        LdS ⟨b4, 1, none⟩ w8 fun r_1_2 =>
        R r_0_2 r_1_2 w8) (
        LdI .i64 ⟨c_, 0, none⟩ w7 fun x37 =>
        Bm (x37 == (3 : Int)) (
          Pn k fun a_2 =>
          kv_table_drop.Call (some a_2) r12 w7 fun w9 =>
          Sts [.int .i64 (0 : Int), .string r30] ⟨b4, 0, none⟩ 0 w9 fun w10 =>
          LdI .i64 ⟨b4, 0, none⟩ w10 fun r_0_3 =>
          LdS ⟨b4, 1, none⟩ w10 fun r_1_3 =>
          R r_0_3 r_1_3 w10) (
          LdS ⟨c_, 5, none⟩ w7 fun x48 =>
          Bm (!(r30.toList == x48.toList)) (
            Sts [.int .i64 (11 : Int), .string r30] ⟨b4, 0, none⟩ 0 w7 fun w11 =>
            LdI .i64 ⟨b4, 0, none⟩ w11 fun r_0_4 =>
            LdS ⟨b4, 1, none⟩ w11 fun r_1_4 =>
            R r_0_4 r_1_4 w11) (
            LdS ⟨c_, 3, none⟩ w7.drew fun x55 =>
            LdS ⟨c_, 4, none⟩ w7.drew fun x57 =>
            Pn k fun a_3 =>
            kv_mkCell.Call x55 x57 w7.drew fun r58_0 r58_1 r58_2 r58_3 r58_4 r58_5 r58_6 r58_7 w12 =>
            (0 ≤ r12 ∧ r12 < ((8 : Nat) : Int)) ∧
            Sts [.int .i64 r58_0, .int .i64 r58_1, .int .u8 r58_2, .int .u8 r58_3, .int .i64 r58_4, .int .u8 r58_5, .int .u8 r58_6, .int .u8 r58_7] (Addr.add a_3 (r12.toNat * 8)) 0 w12 fun w13 =>
            Sts [.int .i64 (0 : Int), .string (ByteArray.mk #[])] ⟨b4, 0, none⟩ 0 w13 fun w14 =>
            LdI .i64 ⟨b4, 0, none⟩ w14 fun r_0_5 =>
            LdS ⟨b4, 1, none⟩ w14 fun r_1_5 =>
            R r_0_5 r_1_5 w14)))))) = kstep Try.prog 64 Try.f65.results.toList (Try.f65.body.getD .skip) (kv_KV_run.RV R) (kvc Try.prog 64 Try.f65.results.toList (Try.f65.body.getD .skip) (kv_KV_run.RV R) [] 2000) [(0, [])] [(0, .pointer k), (1, .agg #[.int .i64 c_0, .int .i64 c_1, .int .i64 c_2, .string c_3, .string c_4, .string c_5])] w := by kernel_rfl
theorem kv_KV_run.B0_sound {R : Int → ByteArray → World → Prop}  (k : Option Addr) (c_0 c_1 c_2 : Int) (c_3 c_4 c_5 : ByteArray) (w : World) (h : kv_KV_run.B0 k c_0 c_1 c_2 c_3 c_4 c_5 w   R) :
    KW Try.prog 65 64 (kv_KV_run.RV R) ([(0, [])].map (toItem (Try.f65.body.getD .skip))) [(0, .pointer k), (1, .agg #[.int .i64 c_0, .int .i64 c_1, .int .i64 c_2, .string c_3, .string c_4, .string c_5])] w := by
  exact block_spec Try.func65 Try.mixed stops_nil (Eq.mp (kv_KV_run.B0_eq k c_0 c_1 c_2 c_3 c_4 c_5 w   R ) h)
theorem kv_KV_run.sound (k : Option Addr) (c_0 c_1 c_2 : Int) (c_3 c_4 c_5 : ByteArray) (w : World) (R : Int → ByteArray → World → Prop) (h : kv_KV_run.B0 k c_0 c_1 c_2 c_3 c_4 c_5 w R) : kv_KV_run.Call k c_0 c_1 c_2 c_3 c_4 c_5 w R := by
  have hc := calls_of_block (args := #[.pointer k, .agg #[.int .i64 c_0, .int .i64 c_1, .int .i64 c_2, .string c_3, .string c_4, .string c_5]]) Try.func65 (body := (Try.f65.body.getD .skip)) (by kernel_rfl) (by kernel_rfl) (args_slot _) (kv_KV_run.B0_sound k c_0 c_1 c_2 c_3 c_4 c_5 w h)
  exact hc.mono fun e w' he => by
    obtain ⟨v, rfl, hv⟩ := he
    exact kv_KV_run.RV_elim hv
def kvm_KV_run.L1b (k : Option Addr) (t4 : Nat) (old : ByteArray) (j : Int) (w : World)  (N1 : Option Addr → Nat → ByteArray → Int → World → Prop) (R : Int → ByteArray → World → Prop) : Prop :=
  Pn k fun a =>
  LdI .i64 a w fun x45 =>
  Bm (decide ((IntKind.i64.wrap (j + (1 : Int))) < x45)) (
    Pn k fun a_1 =>
    (0 ≤ (IntKind.i64.wrap (j + (1 : Int))) ∧ (IntKind.i64.wrap (j + (1 : Int))) < ((4 : Nat) : Int)) ∧
    LdS (Addr.add (a_1.add 1) ((IntKind.i64.wrap (j + (1 : Int))).toNat * 1)) w.drew fun x59 =>
    Pn k fun a_2 =>
    (0 ≤ (IntKind.i64.wrap (j + (1 : Int))) ∧ (IntKind.i64.wrap (j + (1 : Int))) < ((4 : Nat) : Int)) ∧
    LdS (Addr.add (a_2.add 5) ((IntKind.i64.wrap (j + (1 : Int))).toNat * 1)) w.drew fun x66 =>
    Pn k fun a_3 =>
    (0 ≤ j ∧ j < ((4 : Nat) : Int)) ∧
    Pn k fun a_4 =>
    Sts [.string x59] (Addr.add (a_3.add 1) (j.toNat * 1)) 0 w.drew fun w1 =>
    (0 ≤ j ∧ j < ((4 : Nat) : Int)) ∧
    Sts [.string x66] (Addr.add (a_4.add 5) (j.toNat * 1)) 0 w1 fun w2 =>
    N1 k t4 old (IntKind.i64.wrap (j + (1 : Int))) w2) (
    Pn k fun a_5 =>
    LdI .i64 a_5 w fun x76 =>
    Pn k fun a_6 =>
    Sts [.int .i64 (IntKind.i64.wrap (x76 - (1 : Int)))] a_6 0 w fun w3 =>
    Pn k fun a_7 =>
    LdI .i64 a_7 w3.drew fun x84 =>
    Pn k fun a_8 =>
    LdI .i64 a_8 w3.drew fun x89 =>
    Pn k fun a_9 =>
    (0 ≤ x84 ∧ x84 < ((4 : Nat) : Int)) ∧
    Pn k fun a_10 =>
    Sts [.string (ByteArray.mk #[])] (Addr.add (a_9.add 1) (x84.toNat * 1)) 0 w3.drew fun w4 =>
    (0 ≤ x89 ∧ x89 < ((4 : Nat) : Int)) ∧
    Sts [.string (ByteArray.mk #[])] (Addr.add (a_10.add 5) (x89.toNat * 1)) 0 w4 fun w5 =>
    Sts [.int .i64 (0 : Int), .string old] ⟨t4, 0, none⟩ 0 w5 fun w6 =>
    LdI .i64 ⟨t4, 0, none⟩ w6 fun r_0 =>
    LdS ⟨t4, 1, none⟩ w6 fun r_1 =>
    R r_0 r_1 w6)
theorem kvm_KV_run.L1b_eq (k : Option Addr) (t4 : Nat) (old : ByteArray) (j : Int) (w : World)  (N1 : Option Addr → Nat → ByteArray → Int → World → Prop) (R : Int → ByteArray → World → Prop)  :
    (
  Pn k fun a =>
  LdI .i64 a w fun x45 =>
  Bm (decide ((IntKind.i64.wrap (j + (1 : Int))) < x45)) (
    Pn k fun a_1 =>
    (0 ≤ (IntKind.i64.wrap (j + (1 : Int))) ∧ (IntKind.i64.wrap (j + (1 : Int))) < ((4 : Nat) : Int)) ∧
    LdS (Addr.add (a_1.add 1) ((IntKind.i64.wrap (j + (1 : Int))).toNat * 1)) w.drew fun x59 =>
    Pn k fun a_2 =>
    (0 ≤ (IntKind.i64.wrap (j + (1 : Int))) ∧ (IntKind.i64.wrap (j + (1 : Int))) < ((4 : Nat) : Int)) ∧
    LdS (Addr.add (a_2.add 5) ((IntKind.i64.wrap (j + (1 : Int))).toNat * 1)) w.drew fun x66 =>
    Pn k fun a_3 =>
    (0 ≤ j ∧ j < ((4 : Nat) : Int)) ∧
    Pn k fun a_4 =>
    Sts [.string x59] (Addr.add (a_3.add 1) (j.toNat * 1)) 0 w.drew fun w1 =>
    (0 ≤ j ∧ j < ((4 : Nat) : Int)) ∧
    Sts [.string x66] (Addr.add (a_4.add 5) (j.toNat * 1)) 0 w1 fun w2 =>
    N1 k t4 old (IntKind.i64.wrap (j + (1 : Int))) w2) (
    Pn k fun a_5 =>
    LdI .i64 a_5 w fun x76 =>
    Pn k fun a_6 =>
    Sts [.int .i64 (IntKind.i64.wrap (x76 - (1 : Int)))] a_6 0 w fun w3 =>
    Pn k fun a_7 =>
    LdI .i64 a_7 w3.drew fun x84 =>
    Pn k fun a_8 =>
    LdI .i64 a_8 w3.drew fun x89 =>
    Pn k fun a_9 =>
    (0 ≤ x84 ∧ x84 < ((4 : Nat) : Int)) ∧
    Pn k fun a_10 =>
    Sts [.string (ByteArray.mk #[])] (Addr.add (a_9.add 1) (x84.toNat * 1)) 0 w3.drew fun w4 =>
    (0 ≤ x89 ∧ x89 < ((4 : Nat) : Int)) ∧
    Sts [.string (ByteArray.mk #[])] (Addr.add (a_10.add 5) (x89.toNat * 1)) 0 w4 fun w5 =>
    Sts [.int .i64 (0 : Int), .string old] ⟨t4, 0, none⟩ 0 w5 fun w6 =>
    LdI .i64 ⟨t4, 0, none⟩ w6 fun r_0 =>
    LdS ⟨t4, 1, none⟩ w6 fun r_1 =>
    R r_0 r_1 w6)) = kstep Try.prog 112 Try.f66.results.toList (Try.f66.body.getD .skip) (kvm_KV_run.RV R) (kvc Try.prog 112 Try.f66.results.toList (Try.f66.body.getD .skip) (kvm_KV_run.RV R) [([(0, [1, 1, 1, 1, 1, 1, 0, 1, 0, 0, 1, 0, 0]), (2, [1, 1, 1, 1, 1, 1, 0, 1, 0, 0, 1, 0, 0]), (1, [0]), (0, [1, 1, 1, 1, 1, 1, 0, 1, 0, 1]), (0, [1, 1, 1, 1, 1, 1, 1])], fun σ w => dP (slotOf σ 0) fun k_ => dK (slotOf σ 4) fun t4_ => dS (slotOf σ 6) fun old_ => dI .i64 (slotOf σ 7) fun j_ => N1 k_ t4_ old_ j_ w)] 2000) [(0, [1, 1, 1, 1, 1, 1, 0, 1, 0, 0, 1, 0, 0]), (2, [1, 1, 1, 1, 1, 1, 0, 1, 0, 0, 1, 0, 0]), (1, [0]), (0, [1, 1, 1, 1, 1, 1, 0, 1, 0, 1]), (0, [1, 1, 1, 1, 1, 1, 1])] [(0, .pointer k), (4, .pointer (some ⟨t4, 0, none⟩)), (6, .string old), (7, .int .i64 j)] w := by kernel_rfl
theorem kvm_KV_run.L1b_sound {R : Int → ByteArray → World → Prop} {N1 : Option Addr → Nat → ByteArray → Int → World → Prop} (hN1 : ∀ k t4 old j w, N1 k t4 old j w → KW Try.prog 66 112 (kvm_KV_run.RV R) ([(0, [1, 1, 1, 1, 1, 1, 0, 1, 0, 0, 1, 0, 0]), (2, [1, 1, 1, 1, 1, 1, 0, 1, 0, 0, 1, 0, 0]), (1, [0]), (0, [1, 1, 1, 1, 1, 1, 0, 1, 0, 1]), (0, [1, 1, 1, 1, 1, 1, 1])].map (toItem (Try.f66.body.getD .skip))) [(0, .pointer k), (4, .pointer (some ⟨t4, 0, none⟩)), (6, .string old), (7, .int .i64 j)] w) (k : Option Addr) (t4 : Nat) (old : ByteArray) (j : Int) (w : World) (h : kvm_KV_run.L1b k t4 old j w  N1 R) :
    KW Try.prog 66 112 (kvm_KV_run.RV R) ([(0, [1, 1, 1, 1, 1, 1, 0, 1, 0, 0, 1, 0, 0]), (2, [1, 1, 1, 1, 1, 1, 0, 1, 0, 0, 1, 0, 0]), (1, [0]), (0, [1, 1, 1, 1, 1, 1, 0, 1, 0, 1]), (0, [1, 1, 1, 1, 1, 1, 1])].map (toItem (Try.f66.body.getD .skip))) [(0, .pointer k), (4, .pointer (some ⟨t4, 0, none⟩)), (6, .string old), (7, .int .i64 j)] w := by
  exact block_spec Try.func66 Try.mixed (stops_cons (fun σ w h => by
      obtain ⟨k_, e0, h⟩ := dP_elim h
      obtain ⟨t4_, e1, h⟩ := dK_elim h
      obtain ⟨old_, e2, h⟩ := dS_elim h
      obtain ⟨j_, e3, h⟩ := dI_elim h
      exact (hN1 k_ t4_ old_ j_ w h).weaken (Sub.cons (Sub.cons (Sub.cons (Sub.cons (Sub.nil _) e3) e2) e1) e0)) stops_nil) (Eq.mp (kvm_KV_run.L1b_eq k t4 old j w  N1 R ) h)
def kvm_KV_run.L1 (k : Option Addr) (t4 : Nat) (old : ByteArray) (j : Int) (w : World)  (R : Int → ByteArray → World → Prop) : Prop :=
  ∃ (I : Nat → Option Addr → Nat → ByteArray → Int → World → Prop) (m : Nat), I m k t4 old j w ∧ ∀ m k t4 old j w, I m k t4 old j w → kvm_KV_run.L1b k t4 old j w  (fun k' t4' old' j' w' => ∃ m', m' < m ∧ I m' k' t4' old' j' w') R
theorem kvm_KV_run.L1_sound {R : Int → ByteArray → World → Prop}  (k : Option Addr) (t4 : Nat) (old : ByteArray) (j : Int) (w : World) (h : kvm_KV_run.L1 k t4 old j w  R) :
    KW Try.prog 66 112 (kvm_KV_run.RV R) ([(0, [1, 1, 1, 1, 1, 1, 0, 1, 0, 0, 1, 0, 0]), (2, [1, 1, 1, 1, 1, 1, 0, 1, 0, 0, 1, 0, 0]), (1, [0]), (0, [1, 1, 1, 1, 1, 1, 0, 1, 0, 1]), (0, [1, 1, 1, 1, 1, 1, 1])].map (toItem (Try.f66.body.getD .skip))) [(0, .pointer k), (4, .pointer (some ⟨t4, 0, none⟩)), (6, .string old), (7, .int .i64 j)] w := by
  obtain ⟨I, m, hBase, hr⟩ := h
  refine KW.loop (fun m σ w => ∃ (k : Option Addr) (t4 : Nat) (old : ByteArray) (j : Int), σ = [(0, .pointer k), (4, .pointer (some ⟨t4, 0, none⟩)), (6, .string old), (7, .int .i64 j)] ∧ I m k t4 old j w) ?_ m _ w ⟨k, t4, old, j, rfl, hBase⟩
  rintro m ih σ w ⟨k, t4, old, j, rfl, hI⟩
  exact kvm_KV_run.L1b_sound  (N1 := fun k' t4' old' j' w' => ∃ m', m' < m ∧ I m' k' t4' old' j' w') (fun k' t4' old' j' w' hx => by obtain ⟨m', hlt, hI'⟩ := hx; exact ih m' hlt _ w' ⟨k', t4', old', j', rfl, hI'⟩) k t4 old j w (hr m k t4 old j w hI)
def kvm_KV_run.B0 (k : Option Addr) (c_0 c_1 c_2 : Int) (c_3 c_4 c_5 : ByteArray) (w : World)   (R : Int → ByteArray → World → Prop) : Prop :=
  New (.cells #[.int .i64 c_0, .int .i64 c_1, .int .i64 c_2, .string c_3, .string c_4, .string c_5] 71) w fun c_ w1 =>
  New (.cells #[.int .i64 (0 : Int), .string (ByteArray.mk #[])] 54) w1 fun b4 w2 =>
  LdS ⟨c_, 3, none⟩ w2 fun x10 =>
  kvm_KV_find.Call k x10 w2 fun r11 w3 =>
  LdI .i64 ⟨c_, 0, none⟩ w3 fun x13 =>
  Bm (x13 == (1 : Int)) (
    LdS ⟨c_, 3, none⟩ w3 fun x17 =>
    LdS ⟨c_, 4, none⟩ w3 fun x19 =>
    kvm_KV_put.Call k x17 x19 w3 fun r20 w4 =>
    Sts [.int .i64 r20, .string (ByteArray.mk #[])] ⟨b4, 0, none⟩ 0 w4 fun w5 =>
    LdI .i64 ⟨b4, 0, none⟩ w5 fun r_0 =>
    LdS ⟨b4, 1, none⟩ w5 fun r_1 =>
    R r_0 r_1 w5) (
    Bm (decide (r11 < (0 : Int))) (
      Sts [.int .i64 (2 : Int), .string (ByteArray.mk #[])] ⟨b4, 0, none⟩ 0 w3 fun w6 =>
      LdI .i64 ⟨b4, 0, none⟩ w6 fun r_0_1 =>
      LdS ⟨b4, 1, none⟩ w6 fun r_1_1 =>
      R r_0_1 r_1_1 w6) (
      Pn k fun a =>
      (0 ≤ r11 ∧ r11 < ((4 : Nat) : Int)) ∧
      LdS (Addr.add (a.add 5) (r11.toNat * 1)) w3 fun x30 =>
      LdI .i64 ⟨c_, 0, none⟩ w3 fun x32 =>
      Bm (x32 == (2 : Int)) (
        Sts [.int .i64 (0 : Int), .string x30] ⟨b4, 0, none⟩ 0 w3 fun w7 =>
        LdI .i64 ⟨b4, 0, none⟩ w7 fun r_0_2 =>
        LdS ⟨b4, 1, none⟩ w7 fun r_1_2 =>
        R r_0_2 r_1_2 w7) (
        LdI .i64 ⟨c_, 0, none⟩ w3 fun x37 =>
        Bm (x37 == (3 : Int)) (
          kvm_KV_run.L1 k b4 x30 r11 w3  R) (
          LdS ⟨c_, 5, none⟩ w3 fun x100 =>
          Bm (!(x30.toList == x100.toList)) (
            Sts [.int .i64 (11 : Int), .string x30] ⟨b4, 0, none⟩ 0 w3 fun w8 =>
            LdI .i64 ⟨b4, 0, none⟩ w8 fun r_0_3 =>
            LdS ⟨b4, 1, none⟩ w8 fun r_1_3 =>
            R r_0_3 r_1_3 w8) (
            LdS ⟨c_, 4, none⟩ w3.drew fun x107 =>
            Pn k fun a_1 =>
            (0 ≤ r11 ∧ r11 < ((4 : Nat) : Int)) ∧
            Sts [.string x107] (Addr.add (a_1.add 5) (r11.toNat * 1)) 0 w3.drew fun w9 =>
            Sts [.int .i64 (0 : Int), .string (ByteArray.mk #[])] ⟨b4, 0, none⟩ 0 w9 fun w10 =>
            LdI .i64 ⟨b4, 0, none⟩ w10 fun r_0_4 =>
            LdS ⟨b4, 1, none⟩ w10 fun r_1_4 =>
            R r_0_4 r_1_4 w10)))))
theorem kvm_KV_run.B0_eq (k : Option Addr) (c_0 c_1 c_2 : Int) (c_3 c_4 c_5 : ByteArray) (w : World)   (R : Int → ByteArray → World → Prop) (sL1 : Option Addr → Nat → ByteArray → Int → World → Prop) :
    (
  New (.cells #[.int .i64 c_0, .int .i64 c_1, .int .i64 c_2, .string c_3, .string c_4, .string c_5] 71) w fun c_ w1 =>
  New (.cells #[.int .i64 (0 : Int), .string (ByteArray.mk #[])] 54) w1 fun b4 w2 =>
  LdS ⟨c_, 3, none⟩ w2 fun x10 =>
  kvm_KV_find.Call k x10 w2 fun r11 w3 =>
  LdI .i64 ⟨c_, 0, none⟩ w3 fun x13 =>
  Bm (x13 == (1 : Int)) (
    LdS ⟨c_, 3, none⟩ w3 fun x17 =>
    LdS ⟨c_, 4, none⟩ w3 fun x19 =>
    kvm_KV_put.Call k x17 x19 w3 fun r20 w4 =>
    Sts [.int .i64 r20, .string (ByteArray.mk #[])] ⟨b4, 0, none⟩ 0 w4 fun w5 =>
    LdI .i64 ⟨b4, 0, none⟩ w5 fun r_0 =>
    LdS ⟨b4, 1, none⟩ w5 fun r_1 =>
    R r_0 r_1 w5) (
    Bm (decide (r11 < (0 : Int))) (
      Sts [.int .i64 (2 : Int), .string (ByteArray.mk #[])] ⟨b4, 0, none⟩ 0 w3 fun w6 =>
      LdI .i64 ⟨b4, 0, none⟩ w6 fun r_0_1 =>
      LdS ⟨b4, 1, none⟩ w6 fun r_1_1 =>
      R r_0_1 r_1_1 w6) (
      Pn k fun a =>
      (0 ≤ r11 ∧ r11 < ((4 : Nat) : Int)) ∧
      LdS (Addr.add (a.add 5) (r11.toNat * 1)) w3 fun x30 =>
      LdI .i64 ⟨c_, 0, none⟩ w3 fun x32 =>
      Bm (x32 == (2 : Int)) (
        Sts [.int .i64 (0 : Int), .string x30] ⟨b4, 0, none⟩ 0 w3 fun w7 =>
        LdI .i64 ⟨b4, 0, none⟩ w7 fun r_0_2 =>
        LdS ⟨b4, 1, none⟩ w7 fun r_1_2 =>
        R r_0_2 r_1_2 w7) (
        LdI .i64 ⟨c_, 0, none⟩ w3 fun x37 =>
        Bm (x37 == (3 : Int)) (
          sL1 k b4 x30 r11 w3) (
          LdS ⟨c_, 5, none⟩ w3 fun x100 =>
          Bm (!(x30.toList == x100.toList)) (
            Sts [.int .i64 (11 : Int), .string x30] ⟨b4, 0, none⟩ 0 w3 fun w8 =>
            LdI .i64 ⟨b4, 0, none⟩ w8 fun r_0_3 =>
            LdS ⟨b4, 1, none⟩ w8 fun r_1_3 =>
            R r_0_3 r_1_3 w8) (
            LdS ⟨c_, 4, none⟩ w3.drew fun x107 =>
            Pn k fun a_1 =>
            (0 ≤ r11 ∧ r11 < ((4 : Nat) : Int)) ∧
            Sts [.string x107] (Addr.add (a_1.add 5) (r11.toNat * 1)) 0 w3.drew fun w9 =>
            Sts [.int .i64 (0 : Int), .string (ByteArray.mk #[])] ⟨b4, 0, none⟩ 0 w9 fun w10 =>
            LdI .i64 ⟨b4, 0, none⟩ w10 fun r_0_4 =>
            LdS ⟨b4, 1, none⟩ w10 fun r_1_4 =>
            R r_0_4 r_1_4 w10)))))) = kstep Try.prog 112 Try.f66.results.toList (Try.f66.body.getD .skip) (kvm_KV_run.RV R) (kvc Try.prog 112 Try.f66.results.toList (Try.f66.body.getD .skip) (kvm_KV_run.RV R) [([(0, [1, 1, 1, 1, 1, 1, 0, 1, 0, 0, 1, 0, 0]), (2, [1, 1, 1, 1, 1, 1, 0, 1, 0, 0, 1, 0, 0]), (1, [0]), (0, [1, 1, 1, 1, 1, 1, 0, 1, 0, 1]), (0, [1, 1, 1, 1, 1, 1, 1])], fun σ w => dP (slotOf σ 0) fun k_ => dK (slotOf σ 4) fun t4_ => dS (slotOf σ 6) fun old_ => dI .i64 (slotOf σ 7) fun j_ => sL1 k_ t4_ old_ j_ w)] 2000) [(0, [])] [(0, .pointer k), (1, .agg #[.int .i64 c_0, .int .i64 c_1, .int .i64 c_2, .string c_3, .string c_4, .string c_5])] w := by kernel_rfl
theorem kvm_KV_run.B0_sound {R : Int → ByteArray → World → Prop}  (k : Option Addr) (c_0 c_1 c_2 : Int) (c_3 c_4 c_5 : ByteArray) (w : World) (h : kvm_KV_run.B0 k c_0 c_1 c_2 c_3 c_4 c_5 w   R) :
    KW Try.prog 66 112 (kvm_KV_run.RV R) ([(0, [])].map (toItem (Try.f66.body.getD .skip))) [(0, .pointer k), (1, .agg #[.int .i64 c_0, .int .i64 c_1, .int .i64 c_2, .string c_3, .string c_4, .string c_5])] w := by
  exact block_spec Try.func66 Try.mixed (stops_cons (fun σ w h => by
      obtain ⟨k_, e0, h⟩ := dP_elim h
      obtain ⟨t4_, e1, h⟩ := dK_elim h
      obtain ⟨old_, e2, h⟩ := dS_elim h
      obtain ⟨j_, e3, h⟩ := dI_elim h
      exact (kvm_KV_run.L1_sound  k_ t4_ old_ j_ w h).weaken (Sub.cons (Sub.cons (Sub.cons (Sub.cons (Sub.nil _) e3) e2) e1) e0)) stops_nil) (Eq.mp (kvm_KV_run.B0_eq k c_0 c_1 c_2 c_3 c_4 c_5 w   R (fun k_ t4_ old_ j_ w => kvm_KV_run.L1 k_ t4_ old_ j_ w  R)) h)
theorem kvm_KV_run.sound (k : Option Addr) (c_0 c_1 c_2 : Int) (c_3 c_4 c_5 : ByteArray) (w : World) (R : Int → ByteArray → World → Prop) (h : kvm_KV_run.B0 k c_0 c_1 c_2 c_3 c_4 c_5 w R) : kvm_KV_run.Call k c_0 c_1 c_2 c_3 c_4 c_5 w R := by
  have hc := calls_of_block (args := #[.pointer k, .agg #[.int .i64 c_0, .int .i64 c_1, .int .i64 c_2, .string c_3, .string c_4, .string c_5]]) Try.func66 (body := (Try.f66.body.getD .skip)) (by kernel_rfl) (by kernel_rfl) (args_slot _) (kvm_KV_run.B0_sound k c_0 c_1 c_2 c_3 c_4 c_5 w h)
  exact hc.mono fun e w' he => by
    obtain ⟨v, rfl, hv⟩ := he
    exact kvm_KV_run.RV_elim hv
def kv_cellFine.L2b (c : Nat) (i : Int) (w : World)  (N2 : Nat → Int → World → Prop) (R : ByteArray → World → Prop) : Prop :=
  Bm (decide (i < (3 : Int))) (
    (0 ≤ i ∧ i < ((3 : Nat) : Int)) ∧
    LdI .u8 (Addr.add ⟨c, 5, none⟩ (i.toNat * 1)) w fun x77 =>
    Bm (x77 != (0 : Int)) (
      R (ByteArray.mk #[97, 32, 118, 97, 108, 117, 101, 32, 98, 121, 116, 101, 32, 98, 101, 104, 105, 110, 100, 32, 116, 104, 101, 32, 108, 101, 110, 103, 116, 104]) w) (
      N2 c (IntKind.i64.wrap (i + (1 : Int))) w)) (
    R (ByteArray.mk #[]) w)
theorem kv_cellFine.L2b_eq (c : Nat) (i : Int) (w : World)  (N2 : Nat → Int → World → Prop) (R : ByteArray → World → Prop)  :
    (
  Bm (decide (i < (3 : Int))) (
    (0 ≤ i ∧ i < ((3 : Nat) : Int)) ∧
    LdI .u8 (Addr.add ⟨c, 5, none⟩ (i.toNat * 1)) w fun x77 =>
    Bm (x77 != (0 : Int)) (
      R (ByteArray.mk #[97, 32, 118, 97, 108, 117, 101, 32, 98, 121, 116, 101, 32, 98, 101, 104, 105, 110, 100, 32, 116, 104, 101, 32, 108, 101, 110, 103, 116, 104]) w) (
      N2 c (IntKind.i64.wrap (i + (1 : Int))) w)) (
    R (ByteArray.mk #[]) w)) = kstep Try.prog 79 Try.f67.results.toList (Try.f67.body.getD .skip) (kv_cellFine.RV R) (kvc Try.prog 79 Try.f67.results.toList (Try.f67.body.getD .skip) (kv_cellFine.RV R) [([(0, [1, 1, 1, 1, 1, 1, 0, 1, 0, 0]), (2, [1, 1, 1, 1, 1, 1, 0, 1, 0, 0]), (1, [2]), (0, [1, 1, 1, 1, 1, 1, 1])], fun σ w => dK (slotOf σ 1) fun c_ => dI .i64 (slotOf σ 4) fun i_ => N2 c_ i_ w)] 2000) [(0, [1, 1, 1, 1, 1, 1, 0, 1, 0, 0]), (2, [1, 1, 1, 1, 1, 1, 0, 1, 0, 0]), (1, [2]), (0, [1, 1, 1, 1, 1, 1, 1])] [(1, .pointer (some ⟨c, 0, none⟩)), (4, .int .i64 i)] w := by kernel_rfl
theorem kv_cellFine.L2b_sound {R : ByteArray → World → Prop} {N2 : Nat → Int → World → Prop} (hN2 : ∀ c i w, N2 c i w → KW Try.prog 67 79 (kv_cellFine.RV R) ([(0, [1, 1, 1, 1, 1, 1, 0, 1, 0, 0]), (2, [1, 1, 1, 1, 1, 1, 0, 1, 0, 0]), (1, [2]), (0, [1, 1, 1, 1, 1, 1, 1])].map (toItem (Try.f67.body.getD .skip))) [(1, .pointer (some ⟨c, 0, none⟩)), (4, .int .i64 i)] w) (c : Nat) (i : Int) (w : World) (h : kv_cellFine.L2b c i w  N2 R) :
    KW Try.prog 67 79 (kv_cellFine.RV R) ([(0, [1, 1, 1, 1, 1, 1, 0, 1, 0, 0]), (2, [1, 1, 1, 1, 1, 1, 0, 1, 0, 0]), (1, [2]), (0, [1, 1, 1, 1, 1, 1, 1])].map (toItem (Try.f67.body.getD .skip))) [(1, .pointer (some ⟨c, 0, none⟩)), (4, .int .i64 i)] w := by
  exact block_spec Try.func67 Try.mixed (stops_cons (fun σ w h => by
      obtain ⟨c_, e0, h⟩ := dK_elim h
      obtain ⟨i_, e1, h⟩ := dI_elim h
      exact (hN2 c_ i_ w h).weaken (Sub.cons (Sub.cons (Sub.nil _) e1) e0)) stops_nil) (Eq.mp (kv_cellFine.L2b_eq c i w  N2 R ) h)
def kv_cellFine.L2 (c : Nat) (i : Int) (w : World)  (R : ByteArray → World → Prop) : Prop :=
  ∃ (I : Nat → Nat → Int → World → Prop) (m : Nat), I m c i w ∧ ∀ m c i w, I m c i w → kv_cellFine.L2b c i w  (fun c' i' w' => ∃ m', m' < m ∧ I m' c' i' w') R
theorem kv_cellFine.L2_sound {R : ByteArray → World → Prop}  (c : Nat) (i : Int) (w : World) (h : kv_cellFine.L2 c i w  R) :
    KW Try.prog 67 79 (kv_cellFine.RV R) ([(0, [1, 1, 1, 1, 1, 1, 0, 1, 0, 0]), (2, [1, 1, 1, 1, 1, 1, 0, 1, 0, 0]), (1, [2]), (0, [1, 1, 1, 1, 1, 1, 1])].map (toItem (Try.f67.body.getD .skip))) [(1, .pointer (some ⟨c, 0, none⟩)), (4, .int .i64 i)] w := by
  obtain ⟨I, m, hBase, hr⟩ := h
  refine KW.loop (fun m σ w => ∃ (c : Nat) (i : Int), σ = [(1, .pointer (some ⟨c, 0, none⟩)), (4, .int .i64 i)] ∧ I m c i w) ?_ m _ w ⟨c, i, rfl, hBase⟩
  rintro m ih σ w ⟨c, i, rfl, hI⟩
  exact kv_cellFine.L2b_sound  (N2 := fun c' i' w' => ∃ m', m' < m ∧ I m' c' i' w') (fun c' i' w' hx => by obtain ⟨m', hlt, hI'⟩ := hx; exact ih m' hlt _ w' ⟨c', i', rfl, hI'⟩) c i w (hr m c i w hI)
def kv_cellFine.L1b (c : Nat) (i : Int) (w : World)  (N1 : Nat → Int → World → Prop) (R : ByteArray → World → Prop) : Prop :=
  Bm (decide (i < (2 : Int))) (
    (0 ≤ i ∧ i < ((2 : Nat) : Int)) ∧
    LdI .u8 (Addr.add ⟨c, 2, none⟩ (i.toNat * 1)) w fun x66 =>
    Bm (x66 != (0 : Int)) (
      R (ByteArray.mk #[97, 32, 107, 101, 121, 32, 98, 121, 116, 101, 32, 98, 101, 104, 105, 110, 100, 32, 116, 104, 101, 32, 108, 101, 110, 103, 116, 104]) w) (
      N1 c (IntKind.i64.wrap (i + (1 : Int))) w)) (
    LdI .i64 ⟨c, 4, none⟩ w fun x69 =>
    kv_cellFine.L2 c x69 w  R)
theorem kv_cellFine.L1b_eq (c : Nat) (i : Int) (w : World)  (N1 : Nat → Int → World → Prop) (R : ByteArray → World → Prop) (sL2 : Nat → Int → World → Prop) :
    (
  Bm (decide (i < (2 : Int))) (
    (0 ≤ i ∧ i < ((2 : Nat) : Int)) ∧
    LdI .u8 (Addr.add ⟨c, 2, none⟩ (i.toNat * 1)) w fun x66 =>
    Bm (x66 != (0 : Int)) (
      R (ByteArray.mk #[97, 32, 107, 101, 121, 32, 98, 121, 116, 101, 32, 98, 101, 104, 105, 110, 100, 32, 116, 104, 101, 32, 108, 101, 110, 103, 116, 104]) w) (
      N1 c (IntKind.i64.wrap (i + (1 : Int))) w)) (
    LdI .i64 ⟨c, 4, none⟩ w fun x69 =>
    sL2 c x69 w)) = kstep Try.prog 79 Try.f67.results.toList (Try.f67.body.getD .skip) (kv_cellFine.RV R) (kvc Try.prog 79 Try.f67.results.toList (Try.f67.body.getD .skip) (kv_cellFine.RV R) [([(0, [1, 1, 1, 1, 1, 0, 1, 0, 0]), (2, [1, 1, 1, 1, 1, 0, 1, 0, 0]), (1, [0]), (0, [1, 1, 1, 1, 1, 1])], fun σ w => dK (slotOf σ 1) fun c_ => dI .i64 (slotOf σ 3) fun i_ => N1 c_ i_ w),
    ([(0, [1, 1, 1, 1, 1, 1, 0, 1, 0, 0]), (2, [1, 1, 1, 1, 1, 1, 0, 1, 0, 0]), (1, [2]), (0, [1, 1, 1, 1, 1, 1, 1])], fun σ w => dK (slotOf σ 1) fun c_ => dI .i64 (slotOf σ 4) fun i_ => sL2 c_ i_ w)] 2000) [(0, [1, 1, 1, 1, 1, 0, 1, 0, 0]), (2, [1, 1, 1, 1, 1, 0, 1, 0, 0]), (1, [0]), (0, [1, 1, 1, 1, 1, 1])] [(1, .pointer (some ⟨c, 0, none⟩)), (3, .int .i64 i)] w := by kernel_rfl
theorem kv_cellFine.L1b_sound {R : ByteArray → World → Prop} {N1 : Nat → Int → World → Prop} (hN1 : ∀ c i w, N1 c i w → KW Try.prog 67 79 (kv_cellFine.RV R) ([(0, [1, 1, 1, 1, 1, 0, 1, 0, 0]), (2, [1, 1, 1, 1, 1, 0, 1, 0, 0]), (1, [0]), (0, [1, 1, 1, 1, 1, 1])].map (toItem (Try.f67.body.getD .skip))) [(1, .pointer (some ⟨c, 0, none⟩)), (3, .int .i64 i)] w) (c : Nat) (i : Int) (w : World) (h : kv_cellFine.L1b c i w  N1 R) :
    KW Try.prog 67 79 (kv_cellFine.RV R) ([(0, [1, 1, 1, 1, 1, 0, 1, 0, 0]), (2, [1, 1, 1, 1, 1, 0, 1, 0, 0]), (1, [0]), (0, [1, 1, 1, 1, 1, 1])].map (toItem (Try.f67.body.getD .skip))) [(1, .pointer (some ⟨c, 0, none⟩)), (3, .int .i64 i)] w := by
  exact block_spec Try.func67 Try.mixed (stops_cons (fun σ w h => by
      obtain ⟨c_, e0, h⟩ := dK_elim h
      obtain ⟨i_, e1, h⟩ := dI_elim h
      exact (hN1 c_ i_ w h).weaken (Sub.cons (Sub.cons (Sub.nil _) e1) e0)) (stops_cons (fun σ w h => by
      obtain ⟨c_, e0, h⟩ := dK_elim h
      obtain ⟨i_, e1, h⟩ := dI_elim h
      exact (kv_cellFine.L2_sound  c_ i_ w h).weaken (Sub.cons (Sub.cons (Sub.nil _) e1) e0)) stops_nil)) (Eq.mp (kv_cellFine.L1b_eq c i w  N1 R (fun c_ i_ w => kv_cellFine.L2 c_ i_ w  R)) h)
def kv_cellFine.L1 (c : Nat) (i : Int) (w : World)  (R : ByteArray → World → Prop) : Prop :=
  ∃ (I : Nat → Nat → Int → World → Prop) (m : Nat), I m c i w ∧ ∀ m c i w, I m c i w → kv_cellFine.L1b c i w  (fun c' i' w' => ∃ m', m' < m ∧ I m' c' i' w') R
theorem kv_cellFine.L1_sound {R : ByteArray → World → Prop}  (c : Nat) (i : Int) (w : World) (h : kv_cellFine.L1 c i w  R) :
    KW Try.prog 67 79 (kv_cellFine.RV R) ([(0, [1, 1, 1, 1, 1, 0, 1, 0, 0]), (2, [1, 1, 1, 1, 1, 0, 1, 0, 0]), (1, [0]), (0, [1, 1, 1, 1, 1, 1])].map (toItem (Try.f67.body.getD .skip))) [(1, .pointer (some ⟨c, 0, none⟩)), (3, .int .i64 i)] w := by
  obtain ⟨I, m, hBase, hr⟩ := h
  refine KW.loop (fun m σ w => ∃ (c : Nat) (i : Int), σ = [(1, .pointer (some ⟨c, 0, none⟩)), (3, .int .i64 i)] ∧ I m c i w) ?_ m _ w ⟨c, i, rfl, hBase⟩
  rintro m ih σ w ⟨c, i, rfl, hI⟩
  exact kv_cellFine.L1b_sound  (N1 := fun c' i' w' => ∃ m', m' < m ∧ I m' c' i' w') (fun c' i' w' hx => by obtain ⟨m', hlt, hI'⟩ := hx; exact ih m' hlt _ w' ⟨c', i', rfl, hI'⟩) c i w (hr m c i w hI)
def kv_cellFine.B4 (c : Nat) (t56 : Bool) (w : World)   (R : ByteArray → World → Prop) : Prop :=
  Bm t56 (
    R (ByteArray.mk #[97, 32, 108, 101, 110, 103, 116, 104, 32, 111, 117, 116, 32, 111, 102, 32, 98, 111, 117, 110, 100, 115]) w) (
    LdI .i64 ⟨c, 1, none⟩ w fun x58 =>
    kv_cellFine.L1 c x58 w  R)
theorem kv_cellFine.B4_eq (c : Nat) (t56 : Bool) (w : World)   (R : ByteArray → World → Prop) (sL1 : Nat → Int → World → Prop) :
    (
  Bm t56 (
    R (ByteArray.mk #[97, 32, 108, 101, 110, 103, 116, 104, 32, 111, 117, 116, 32, 111, 102, 32, 98, 111, 117, 110, 100, 115]) w) (
    LdI .i64 ⟨c, 1, none⟩ w fun x58 =>
    sL1 c x58 w)) = kstep Try.prog 79 Try.f67.results.toList (Try.f67.body.getD .skip) (kv_cellFine.RV R) (kvc Try.prog 79 Try.f67.results.toList (Try.f67.body.getD .skip) (kv_cellFine.RV R) [([(0, [1, 1, 1, 1, 1, 0, 1, 0, 0]), (2, [1, 1, 1, 1, 1, 0, 1, 0, 0]), (1, [0]), (0, [1, 1, 1, 1, 1, 1])], fun σ w => dK (slotOf σ 1) fun c_ => dI .i64 (slotOf σ 3) fun i_ => sL1 c_ i_ w)] 2000) [(0, [1, 1, 1, 1, 0, 1]), (0, [1, 1, 1, 1, 1])] [(1, .pointer (some ⟨c, 0, none⟩)), (56, .bool t56)] w := by kernel_rfl
theorem kv_cellFine.B4_sound {R : ByteArray → World → Prop}  (c : Nat) (t56 : Bool) (w : World) (h : kv_cellFine.B4 c t56 w   R) :
    KW Try.prog 67 79 (kv_cellFine.RV R) ([(0, [1, 1, 1, 1, 0, 1]), (0, [1, 1, 1, 1, 1])].map (toItem (Try.f67.body.getD .skip))) [(1, .pointer (some ⟨c, 0, none⟩)), (56, .bool t56)] w := by
  exact block_spec Try.func67 Try.mixed (stops_cons (fun σ w h => by
      obtain ⟨c_, e0, h⟩ := dK_elim h
      obtain ⟨i_, e1, h⟩ := dI_elim h
      exact (kv_cellFine.L1_sound  c_ i_ w h).weaken (Sub.cons (Sub.cons (Sub.nil _) e1) e0)) stops_nil) (Eq.mp (kv_cellFine.B4_eq c t56 w   R (fun c_ i_ w => kv_cellFine.L1 c_ i_ w  R)) h)
def kv_cellFine.B3 (c : Nat) (t38 : Bool) (w : World)   (R : ByteArray → World → Prop) : Prop :=
  Bm t38 (
    R (ByteArray.mk #[97, 32, 99, 101, 108, 108, 32, 116, 104, 97, 116, 32, 105, 115, 32, 110, 111, 116, 32, 108, 105, 118, 101, 32, 104, 111, 108, 100, 115, 32, 115, 111, 109, 101, 116, 104, 105, 110, 103]) w) (
    LdI .i64 ⟨c, 1, none⟩ w fun x40 =>
    Bm (decide (x40 < (0 : Int))) (
      kv_cellFine.B4 c true w  R) (
      LdI .i64 ⟨c, 1, none⟩ w fun x44 =>
      Bm (decide (x44 > (2 : Int))) (
        kv_cellFine.B4 c true w  R) (
        LdI .i64 ⟨c, 4, none⟩ w fun x49 =>
        Bm (decide (x49 < (0 : Int))) (
          kv_cellFine.B4 c true w  R) (
          LdI .i64 ⟨c, 4, none⟩ w fun x54 =>
          kv_cellFine.B4 c (decide (x54 > (3 : Int))) w  R))))
theorem kv_cellFine.B3_eq (c : Nat) (t38 : Bool) (w : World)   (R : ByteArray → World → Prop) (sB4 : Nat → Bool → World → Prop) :
    (
  Bm t38 (
    R (ByteArray.mk #[97, 32, 99, 101, 108, 108, 32, 116, 104, 97, 116, 32, 105, 115, 32, 110, 111, 116, 32, 108, 105, 118, 101, 32, 104, 111, 108, 100, 115, 32, 115, 111, 109, 101, 116, 104, 105, 110, 103]) w) (
    LdI .i64 ⟨c, 1, none⟩ w fun x40 =>
    Bm (decide (x40 < (0 : Int))) (
      sB4 c true w) (
      LdI .i64 ⟨c, 1, none⟩ w fun x44 =>
      Bm (decide (x44 > (2 : Int))) (
        sB4 c true w) (
        LdI .i64 ⟨c, 4, none⟩ w fun x49 =>
        Bm (decide (x49 < (0 : Int))) (
          sB4 c true w) (
          LdI .i64 ⟨c, 4, none⟩ w fun x54 =>
          sB4 c (decide (x54 > (3 : Int))) w))))) = kstep Try.prog 79 Try.f67.results.toList (Try.f67.body.getD .skip) (kv_cellFine.RV R) (kvc Try.prog 79 Try.f67.results.toList (Try.f67.body.getD .skip) (kv_cellFine.RV R) [([(0, [1, 1, 1, 1, 0, 1]), (0, [1, 1, 1, 1, 1])], fun σ w => dK (slotOf σ 1) fun c_ => dB (slotOf σ 56) fun t56_ => sB4 c_ t56_ w)] 2000) [(0, [1, 1, 1, 0, 1]), (0, [1, 1, 1, 1])] [(1, .pointer (some ⟨c, 0, none⟩)), (38, .bool t38)] w := by kernel_rfl
theorem kv_cellFine.B3_sound {R : ByteArray → World → Prop}  (c : Nat) (t38 : Bool) (w : World) (h : kv_cellFine.B3 c t38 w   R) :
    KW Try.prog 67 79 (kv_cellFine.RV R) ([(0, [1, 1, 1, 0, 1]), (0, [1, 1, 1, 1])].map (toItem (Try.f67.body.getD .skip))) [(1, .pointer (some ⟨c, 0, none⟩)), (38, .bool t38)] w := by
  exact block_spec Try.func67 Try.mixed (stops_cons (fun σ w h => by
      obtain ⟨c_, e0, h⟩ := dK_elim h
      obtain ⟨t56_, e1, h⟩ := dB_elim h
      exact (kv_cellFine.B4_sound  c_ t56_ w h).weaken (Sub.cons (Sub.cons (Sub.nil _) e1) e0)) stops_nil) (Eq.mp (kv_cellFine.B3_eq c t38 w   R (fun c_ t56_ w => kv_cellFine.B4 c_ t56_ w  R)) h)
def kv_cellFine.B2 (c : Nat) (t25 : Bool) (w : World)   (R : ByteArray → World → Prop) : Prop :=
  Bm t25 (
    R (ByteArray.mk #[97, 32, 108, 105, 118, 101, 32, 99, 101, 108, 108, 32, 104, 97, 115, 32, 110, 111, 32, 107, 101, 121]) w) (
    LdI .i64 ⟨c, 0, none⟩ w fun x27 =>
    Bm (x27 != (1 : Int)) (
      LdI .i64 ⟨c, 1, none⟩ w fun x31 =>
      Bm (x31 != (0 : Int)) (
        kv_cellFine.B3 c true w  R) (
        LdI .i64 ⟨c, 4, none⟩ w fun x35 =>
        kv_cellFine.B3 c (x35 != (0 : Int)) w  R)) (
      kv_cellFine.B3 c false w  R))
theorem kv_cellFine.B2_eq (c : Nat) (t25 : Bool) (w : World)   (R : ByteArray → World → Prop) (sB3 : Nat → Bool → World → Prop) :
    (
  Bm t25 (
    R (ByteArray.mk #[97, 32, 108, 105, 118, 101, 32, 99, 101, 108, 108, 32, 104, 97, 115, 32, 110, 111, 32, 107, 101, 121]) w) (
    LdI .i64 ⟨c, 0, none⟩ w fun x27 =>
    Bm (x27 != (1 : Int)) (
      LdI .i64 ⟨c, 1, none⟩ w fun x31 =>
      Bm (x31 != (0 : Int)) (
        sB3 c true w) (
        LdI .i64 ⟨c, 4, none⟩ w fun x35 =>
        sB3 c (x35 != (0 : Int)) w)) (
      sB3 c false w))) = kstep Try.prog 79 Try.f67.results.toList (Try.f67.body.getD .skip) (kv_cellFine.RV R) (kvc Try.prog 79 Try.f67.results.toList (Try.f67.body.getD .skip) (kv_cellFine.RV R) [([(0, [1, 1, 1, 0, 1]), (0, [1, 1, 1, 1])], fun σ w => dK (slotOf σ 1) fun c_ => dB (slotOf σ 38) fun t38_ => sB3 c_ t38_ w)] 2000) [(0, [1, 1, 0, 1]), (0, [1, 1, 1])] [(1, .pointer (some ⟨c, 0, none⟩)), (25, .bool t25)] w := by kernel_rfl
theorem kv_cellFine.B2_sound {R : ByteArray → World → Prop}  (c : Nat) (t25 : Bool) (w : World) (h : kv_cellFine.B2 c t25 w   R) :
    KW Try.prog 67 79 (kv_cellFine.RV R) ([(0, [1, 1, 0, 1]), (0, [1, 1, 1])].map (toItem (Try.f67.body.getD .skip))) [(1, .pointer (some ⟨c, 0, none⟩)), (25, .bool t25)] w := by
  exact block_spec Try.func67 Try.mixed (stops_cons (fun σ w h => by
      obtain ⟨c_, e0, h⟩ := dK_elim h
      obtain ⟨t38_, e1, h⟩ := dB_elim h
      exact (kv_cellFine.B3_sound  c_ t38_ w h).weaken (Sub.cons (Sub.cons (Sub.nil _) e1) e0)) stops_nil) (Eq.mp (kv_cellFine.B2_eq c t25 w   R (fun c_ t38_ w => kv_cellFine.B3 c_ t38_ w  R)) h)
def kv_cellFine.B1 (c : Nat) (t17 : Bool) (w : World)   (R : ByteArray → World → Prop) : Prop :=
  Bm t17 (
    R (ByteArray.mk #[97, 32, 99, 101, 108, 108, 39, 115, 32, 115, 116, 97, 116, 101, 32, 105, 115, 32, 110, 111, 110, 101, 32, 111, 102, 32, 116, 104, 101, 32, 116, 104, 114, 101, 101]) w) (
    LdI .i64 ⟨c, 0, none⟩ w fun x19 =>
    Bm (x19 == (1 : Int)) (
      LdI .i64 ⟨c, 1, none⟩ w fun x23 =>
      kv_cellFine.B2 c (decide (x23 < (1 : Int))) w  R) (
      kv_cellFine.B2 c false w  R))
theorem kv_cellFine.B1_eq (c : Nat) (t17 : Bool) (w : World)   (R : ByteArray → World → Prop) (sB2 : Nat → Bool → World → Prop) :
    (
  Bm t17 (
    R (ByteArray.mk #[97, 32, 99, 101, 108, 108, 39, 115, 32, 115, 116, 97, 116, 101, 32, 105, 115, 32, 110, 111, 110, 101, 32, 111, 102, 32, 116, 104, 101, 32, 116, 104, 114, 101, 101]) w) (
    LdI .i64 ⟨c, 0, none⟩ w fun x19 =>
    Bm (x19 == (1 : Int)) (
      LdI .i64 ⟨c, 1, none⟩ w fun x23 =>
      sB2 c (decide (x23 < (1 : Int))) w) (
      sB2 c false w))) = kstep Try.prog 79 Try.f67.results.toList (Try.f67.body.getD .skip) (kv_cellFine.RV R) (kvc Try.prog 79 Try.f67.results.toList (Try.f67.body.getD .skip) (kv_cellFine.RV R) [([(0, [1, 1, 0, 1]), (0, [1, 1, 1])], fun σ w => dK (slotOf σ 1) fun c_ => dB (slotOf σ 25) fun t25_ => sB2 c_ t25_ w)] 2000) [(0, [1, 0, 1]), (0, [1, 1])] [(1, .pointer (some ⟨c, 0, none⟩)), (17, .bool t17)] w := by kernel_rfl
theorem kv_cellFine.B1_sound {R : ByteArray → World → Prop}  (c : Nat) (t17 : Bool) (w : World) (h : kv_cellFine.B1 c t17 w   R) :
    KW Try.prog 67 79 (kv_cellFine.RV R) ([(0, [1, 0, 1]), (0, [1, 1])].map (toItem (Try.f67.body.getD .skip))) [(1, .pointer (some ⟨c, 0, none⟩)), (17, .bool t17)] w := by
  exact block_spec Try.func67 Try.mixed (stops_cons (fun σ w h => by
      obtain ⟨c_, e0, h⟩ := dK_elim h
      obtain ⟨t25_, e1, h⟩ := dB_elim h
      exact (kv_cellFine.B2_sound  c_ t25_ w h).weaken (Sub.cons (Sub.cons (Sub.nil _) e1) e0)) stops_nil) (Eq.mp (kv_cellFine.B1_eq c t17 w   R (fun c_ t25_ w => kv_cellFine.B2 c_ t25_ w  R)) h)
def kv_cellFine.B0 (c_0 c_1 c_2 c_3 c_4 c_5 c_6 c_7 : Int) (w : World)   (R : ByteArray → World → Prop) : Prop :=
  New (.cells #[.int .i64 c_0, .int .i64 c_1, .int .u8 c_2, .int .u8 c_3, .int .i64 c_4, .int .u8 c_5, .int .u8 c_6, .int .u8 c_7] 42) w fun c_ w1 =>
  LdI .i64 ⟨c_, 0, none⟩ w1 fun x6 =>
  Bm (x6 != (0 : Int)) (
    LdI .i64 ⟨c_, 0, none⟩ w1 fun x10 =>
    Bm (x10 != (1 : Int)) (
      LdI .i64 ⟨c_, 0, none⟩ w1 fun x15 =>
      kv_cellFine.B1 c_ (x15 != (2 : Int)) w1  R) (
      kv_cellFine.B1 c_ false w1  R)) (
    kv_cellFine.B1 c_ false w1  R)
theorem kv_cellFine.B0_eq (c_0 c_1 c_2 c_3 c_4 c_5 c_6 c_7 : Int) (w : World)   (R : ByteArray → World → Prop) (sB1 : Nat → Bool → World → Prop) :
    (
  New (.cells #[.int .i64 c_0, .int .i64 c_1, .int .u8 c_2, .int .u8 c_3, .int .i64 c_4, .int .u8 c_5, .int .u8 c_6, .int .u8 c_7] 42) w fun c_ w1 =>
  LdI .i64 ⟨c_, 0, none⟩ w1 fun x6 =>
  Bm (x6 != (0 : Int)) (
    LdI .i64 ⟨c_, 0, none⟩ w1 fun x10 =>
    Bm (x10 != (1 : Int)) (
      LdI .i64 ⟨c_, 0, none⟩ w1 fun x15 =>
      sB1 c_ (x15 != (2 : Int)) w1) (
      sB1 c_ false w1)) (
    sB1 c_ false w1)) = kstep Try.prog 79 Try.f67.results.toList (Try.f67.body.getD .skip) (kv_cellFine.RV R) (kvc Try.prog 79 Try.f67.results.toList (Try.f67.body.getD .skip) (kv_cellFine.RV R) [([(0, [1, 0, 1]), (0, [1, 1])], fun σ w => dK (slotOf σ 1) fun c_ => dB (slotOf σ 17) fun t17_ => sB1 c_ t17_ w)] 2000) [(0, [])] [(0, .agg #[.int .i64 c_0, .int .i64 c_1, .int .u8 c_2, .int .u8 c_3, .int .i64 c_4, .int .u8 c_5, .int .u8 c_6, .int .u8 c_7])] w := by kernel_rfl
theorem kv_cellFine.B0_sound {R : ByteArray → World → Prop}  (c_0 c_1 c_2 c_3 c_4 c_5 c_6 c_7 : Int) (w : World) (h : kv_cellFine.B0 c_0 c_1 c_2 c_3 c_4 c_5 c_6 c_7 w   R) :
    KW Try.prog 67 79 (kv_cellFine.RV R) ([(0, [])].map (toItem (Try.f67.body.getD .skip))) [(0, .agg #[.int .i64 c_0, .int .i64 c_1, .int .u8 c_2, .int .u8 c_3, .int .i64 c_4, .int .u8 c_5, .int .u8 c_6, .int .u8 c_7])] w := by
  exact block_spec Try.func67 Try.mixed (stops_cons (fun σ w h => by
      obtain ⟨c_, e0, h⟩ := dK_elim h
      obtain ⟨t17_, e1, h⟩ := dB_elim h
      exact (kv_cellFine.B1_sound  c_ t17_ w h).weaken (Sub.cons (Sub.cons (Sub.nil _) e1) e0)) stops_nil) (Eq.mp (kv_cellFine.B0_eq c_0 c_1 c_2 c_3 c_4 c_5 c_6 c_7 w   R (fun c_ t17_ w => kv_cellFine.B1 c_ t17_ w  R)) h)
theorem kv_cellFine.sound (c_0 c_1 c_2 c_3 c_4 c_5 c_6 c_7 : Int) (w : World) (R : ByteArray → World → Prop) (h : kv_cellFine.B0 c_0 c_1 c_2 c_3 c_4 c_5 c_6 c_7 w R) : kv_cellFine.Call c_0 c_1 c_2 c_3 c_4 c_5 c_6 c_7 w R := by
  have hc := calls_of_block (args := #[.agg #[.int .i64 c_0, .int .i64 c_1, .int .u8 c_2, .int .u8 c_3, .int .i64 c_4, .int .u8 c_5, .int .u8 c_6, .int .u8 c_7]]) Try.func67 (body := (Try.f67.body.getD .skip)) (by kernel_rfl) (by kernel_rfl) (args_slot _) (kv_cellFine.B0_sound c_0 c_1 c_2 c_3 c_4 c_5 c_6 c_7 w h)
  exact hc.mono fun e w' he => by
    obtain ⟨v, rfl, hv⟩ := he
    exact kv_cellFine.RV_elim hv
def kv_sessionFine.L1b (s : Nat) (i : Int) (w : World)  (N1 : Nat → Int → World → Prop) (R : ByteArray → World → Prop) : Prop :=
  Bm (decide (i < (3 : Int))) (
    (0 ≤ i ∧ i < ((3 : Nat) : Int)) ∧
    LdI .u8 (Addr.add ⟨s, 3, none⟩ (i.toNat * 1)) w fun x37 =>
    Bm (x37 != (0 : Int)) (
      R (ByteArray.mk #[97, 32, 115, 101, 115, 115, 105, 111, 110, 39, 115, 32, 118, 97, 108, 117, 101, 32, 98, 121, 116, 101, 32, 98, 101, 104, 105, 110, 100, 32, 116, 104, 101, 32, 108, 101, 110, 103, 116, 104]) w) (
      N1 s (IntKind.i64.wrap (i + (1 : Int))) w)) (
    R (ByteArray.mk #[]) w)
theorem kv_sessionFine.L1b_eq (s : Nat) (i : Int) (w : World)  (N1 : Nat → Int → World → Prop) (R : ByteArray → World → Prop)  :
    (
  Bm (decide (i < (3 : Int))) (
    (0 ≤ i ∧ i < ((3 : Nat) : Int)) ∧
    LdI .u8 (Addr.add ⟨s, 3, none⟩ (i.toNat * 1)) w fun x37 =>
    Bm (x37 != (0 : Int)) (
      R (ByteArray.mk #[97, 32, 115, 101, 115, 115, 105, 111, 110, 39, 115, 32, 118, 97, 108, 117, 101, 32, 98, 121, 116, 101, 32, 98, 101, 104, 105, 110, 100, 32, 116, 104, 101, 32, 108, 101, 110, 103, 116, 104]) w) (
      N1 s (IntKind.i64.wrap (i + (1 : Int))) w)) (
    R (ByteArray.mk #[]) w)) = kstep Try.prog 39 Try.f68.results.toList (Try.f68.body.getD .skip) (kv_sessionFine.RV R) (kvc Try.prog 39 Try.f68.results.toList (Try.f68.body.getD .skip) (kv_sessionFine.RV R) [([(0, [1, 1, 1, 1, 0, 1, 0, 0]), (2, [1, 1, 1, 1, 0, 1, 0, 0]), (1, [0]), (0, [1, 1, 1, 1, 1])], fun σ w => dK (slotOf σ 1) fun s_ => dI .i64 (slotOf σ 3) fun i_ => N1 s_ i_ w)] 2000) [(0, [1, 1, 1, 1, 0, 1, 0, 0]), (2, [1, 1, 1, 1, 0, 1, 0, 0]), (1, [0]), (0, [1, 1, 1, 1, 1])] [(1, .pointer (some ⟨s, 0, none⟩)), (3, .int .i64 i)] w := by kernel_rfl
theorem kv_sessionFine.L1b_sound {R : ByteArray → World → Prop} {N1 : Nat → Int → World → Prop} (hN1 : ∀ s i w, N1 s i w → KW Try.prog 68 39 (kv_sessionFine.RV R) ([(0, [1, 1, 1, 1, 0, 1, 0, 0]), (2, [1, 1, 1, 1, 0, 1, 0, 0]), (1, [0]), (0, [1, 1, 1, 1, 1])].map (toItem (Try.f68.body.getD .skip))) [(1, .pointer (some ⟨s, 0, none⟩)), (3, .int .i64 i)] w) (s : Nat) (i : Int) (w : World) (h : kv_sessionFine.L1b s i w  N1 R) :
    KW Try.prog 68 39 (kv_sessionFine.RV R) ([(0, [1, 1, 1, 1, 0, 1, 0, 0]), (2, [1, 1, 1, 1, 0, 1, 0, 0]), (1, [0]), (0, [1, 1, 1, 1, 1])].map (toItem (Try.f68.body.getD .skip))) [(1, .pointer (some ⟨s, 0, none⟩)), (3, .int .i64 i)] w := by
  exact block_spec Try.func68 Try.mixed (stops_cons (fun σ w h => by
      obtain ⟨s_, e0, h⟩ := dK_elim h
      obtain ⟨i_, e1, h⟩ := dI_elim h
      exact (hN1 s_ i_ w h).weaken (Sub.cons (Sub.cons (Sub.nil _) e1) e0)) stops_nil) (Eq.mp (kv_sessionFine.L1b_eq s i w  N1 R ) h)
def kv_sessionFine.L1 (s : Nat) (i : Int) (w : World)  (R : ByteArray → World → Prop) : Prop :=
  ∃ (I : Nat → Nat → Int → World → Prop) (m : Nat), I m s i w ∧ ∀ m s i w, I m s i w → kv_sessionFine.L1b s i w  (fun s' i' w' => ∃ m', m' < m ∧ I m' s' i' w') R
theorem kv_sessionFine.L1_sound {R : ByteArray → World → Prop}  (s : Nat) (i : Int) (w : World) (h : kv_sessionFine.L1 s i w  R) :
    KW Try.prog 68 39 (kv_sessionFine.RV R) ([(0, [1, 1, 1, 1, 0, 1, 0, 0]), (2, [1, 1, 1, 1, 0, 1, 0, 0]), (1, [0]), (0, [1, 1, 1, 1, 1])].map (toItem (Try.f68.body.getD .skip))) [(1, .pointer (some ⟨s, 0, none⟩)), (3, .int .i64 i)] w := by
  obtain ⟨I, m, hBase, hr⟩ := h
  refine KW.loop (fun m σ w => ∃ (s : Nat) (i : Int), σ = [(1, .pointer (some ⟨s, 0, none⟩)), (3, .int .i64 i)] ∧ I m s i w) ?_ m _ w ⟨s, i, rfl, hBase⟩
  rintro m ih σ w ⟨s, i, rfl, hI⟩
  exact kv_sessionFine.L1b_sound  (N1 := fun s' i' w' => ∃ m', m' < m ∧ I m' s' i' w') (fun s' i' w' hx => by obtain ⟨m', hlt, hI'⟩ := hx; exact ih m' hlt _ w' ⟨s', i', rfl, hI'⟩) s i w (hr m s i w hI)
def kv_sessionFine.B3 (s : Nat) (t27 : Bool) (w : World)   (R : ByteArray → World → Prop) : Prop :=
  Bm t27 (
    R (ByteArray.mk #[97, 32, 115, 101, 115, 115, 105, 111, 110, 39, 115, 32, 108, 101, 110, 103, 116, 104, 32, 111, 117, 116, 32, 111, 102, 32, 98, 111, 117, 110, 100, 115]) w) (
    LdI .i64 ⟨s, 2, none⟩ w fun x29 =>
    kv_sessionFine.L1 s x29 w  R)
theorem kv_sessionFine.B3_eq (s : Nat) (t27 : Bool) (w : World)   (R : ByteArray → World → Prop) (sL1 : Nat → Int → World → Prop) :
    (
  Bm t27 (
    R (ByteArray.mk #[97, 32, 115, 101, 115, 115, 105, 111, 110, 39, 115, 32, 108, 101, 110, 103, 116, 104, 32, 111, 117, 116, 32, 111, 102, 32, 98, 111, 117, 110, 100, 115]) w) (
    LdI .i64 ⟨s, 2, none⟩ w fun x29 =>
    sL1 s x29 w)) = kstep Try.prog 39 Try.f68.results.toList (Try.f68.body.getD .skip) (kv_sessionFine.RV R) (kvc Try.prog 39 Try.f68.results.toList (Try.f68.body.getD .skip) (kv_sessionFine.RV R) [([(0, [1, 1, 1, 1, 0, 1, 0, 0]), (2, [1, 1, 1, 1, 0, 1, 0, 0]), (1, [0]), (0, [1, 1, 1, 1, 1])], fun σ w => dK (slotOf σ 1) fun s_ => dI .i64 (slotOf σ 3) fun i_ => sL1 s_ i_ w)] 2000) [(0, [1, 1, 1, 0, 1]), (0, [1, 1, 1, 1])] [(1, .pointer (some ⟨s, 0, none⟩)), (27, .bool t27)] w := by kernel_rfl
theorem kv_sessionFine.B3_sound {R : ByteArray → World → Prop}  (s : Nat) (t27 : Bool) (w : World) (h : kv_sessionFine.B3 s t27 w   R) :
    KW Try.prog 68 39 (kv_sessionFine.RV R) ([(0, [1, 1, 1, 0, 1]), (0, [1, 1, 1, 1])].map (toItem (Try.f68.body.getD .skip))) [(1, .pointer (some ⟨s, 0, none⟩)), (27, .bool t27)] w := by
  exact block_spec Try.func68 Try.mixed (stops_cons (fun σ w h => by
      obtain ⟨s_, e0, h⟩ := dK_elim h
      obtain ⟨i_, e1, h⟩ := dI_elim h
      exact (kv_sessionFine.L1_sound  s_ i_ w h).weaken (Sub.cons (Sub.cons (Sub.nil _) e1) e0)) stops_nil) (Eq.mp (kv_sessionFine.B3_eq s t27 w   R (fun s_ i_ w => kv_sessionFine.L1 s_ i_ w  R)) h)
def kv_sessionFine.B2 (s : Nat) (t19 : Bool) (w : World)   (R : ByteArray → World → Prop) : Prop :=
  Bm t19 (
    R (ByteArray.mk #[97, 32, 115, 101, 115, 115, 105, 111, 110, 39, 115, 32, 69, 114, 114, 110, 111, 32, 111, 117, 116, 32, 111, 102, 32, 98, 111, 117, 110, 100, 115]) w) (
    LdI .i64 ⟨s, 2, none⟩ w fun x21 =>
    Bm (decide (x21 < (0 : Int))) (
      kv_sessionFine.B3 s true w  R) (
      LdI .i64 ⟨s, 2, none⟩ w fun x25 =>
      kv_sessionFine.B3 s (decide (x25 > (3 : Int))) w  R))
theorem kv_sessionFine.B2_eq (s : Nat) (t19 : Bool) (w : World)   (R : ByteArray → World → Prop) (sB3 : Nat → Bool → World → Prop) :
    (
  Bm t19 (
    R (ByteArray.mk #[97, 32, 115, 101, 115, 115, 105, 111, 110, 39, 115, 32, 69, 114, 114, 110, 111, 32, 111, 117, 116, 32, 111, 102, 32, 98, 111, 117, 110, 100, 115]) w) (
    LdI .i64 ⟨s, 2, none⟩ w fun x21 =>
    Bm (decide (x21 < (0 : Int))) (
      sB3 s true w) (
      LdI .i64 ⟨s, 2, none⟩ w fun x25 =>
      sB3 s (decide (x25 > (3 : Int))) w))) = kstep Try.prog 39 Try.f68.results.toList (Try.f68.body.getD .skip) (kv_sessionFine.RV R) (kvc Try.prog 39 Try.f68.results.toList (Try.f68.body.getD .skip) (kv_sessionFine.RV R) [([(0, [1, 1, 1, 0, 1]), (0, [1, 1, 1, 1])], fun σ w => dK (slotOf σ 1) fun s_ => dB (slotOf σ 27) fun t27_ => sB3 s_ t27_ w)] 2000) [(0, [1, 1, 0, 1]), (0, [1, 1, 1])] [(1, .pointer (some ⟨s, 0, none⟩)), (19, .bool t19)] w := by kernel_rfl
theorem kv_sessionFine.B2_sound {R : ByteArray → World → Prop}  (s : Nat) (t19 : Bool) (w : World) (h : kv_sessionFine.B2 s t19 w   R) :
    KW Try.prog 68 39 (kv_sessionFine.RV R) ([(0, [1, 1, 0, 1]), (0, [1, 1, 1])].map (toItem (Try.f68.body.getD .skip))) [(1, .pointer (some ⟨s, 0, none⟩)), (19, .bool t19)] w := by
  exact block_spec Try.func68 Try.mixed (stops_cons (fun σ w h => by
      obtain ⟨s_, e0, h⟩ := dK_elim h
      obtain ⟨t27_, e1, h⟩ := dB_elim h
      exact (kv_sessionFine.B3_sound  s_ t27_ w h).weaken (Sub.cons (Sub.cons (Sub.nil _) e1) e0)) stops_nil) (Eq.mp (kv_sessionFine.B2_eq s t19 w   R (fun s_ t27_ w => kv_sessionFine.B3 s_ t27_ w  R)) h)
def kv_sessionFine.B1 (s : Nat) (t11 : Bool) (w : World)   (R : ByteArray → World → Prop) : Prop :=
  Bm t11 (
    R (ByteArray.mk #[97, 32, 115, 101, 115, 115, 105, 111, 110, 39, 115, 32, 115, 101, 113, 117, 101, 110, 99, 101, 32, 110, 117, 109, 98, 101, 114, 32, 111, 117, 116, 32, 111, 102, 32, 98, 111, 117, 110, 100, 115]) w) (
    LdI .i64 ⟨s, 1, none⟩ w fun x13 =>
    Bm (decide (x13 < (0 : Int))) (
      kv_sessionFine.B2 s true w  R) (
      LdI .i64 ⟨s, 1, none⟩ w fun x17 =>
      kv_sessionFine.B2 s (decide (x17 ≥ (16 : Int))) w  R))
theorem kv_sessionFine.B1_eq (s : Nat) (t11 : Bool) (w : World)   (R : ByteArray → World → Prop) (sB2 : Nat → Bool → World → Prop) :
    (
  Bm t11 (
    R (ByteArray.mk #[97, 32, 115, 101, 115, 115, 105, 111, 110, 39, 115, 32, 115, 101, 113, 117, 101, 110, 99, 101, 32, 110, 117, 109, 98, 101, 114, 32, 111, 117, 116, 32, 111, 102, 32, 98, 111, 117, 110, 100, 115]) w) (
    LdI .i64 ⟨s, 1, none⟩ w fun x13 =>
    Bm (decide (x13 < (0 : Int))) (
      sB2 s true w) (
      LdI .i64 ⟨s, 1, none⟩ w fun x17 =>
      sB2 s (decide (x17 ≥ (16 : Int))) w))) = kstep Try.prog 39 Try.f68.results.toList (Try.f68.body.getD .skip) (kv_sessionFine.RV R) (kvc Try.prog 39 Try.f68.results.toList (Try.f68.body.getD .skip) (kv_sessionFine.RV R) [([(0, [1, 1, 0, 1]), (0, [1, 1, 1])], fun σ w => dK (slotOf σ 1) fun s_ => dB (slotOf σ 19) fun t19_ => sB2 s_ t19_ w)] 2000) [(0, [1, 0, 1]), (0, [1, 1])] [(1, .pointer (some ⟨s, 0, none⟩)), (11, .bool t11)] w := by kernel_rfl
theorem kv_sessionFine.B1_sound {R : ByteArray → World → Prop}  (s : Nat) (t11 : Bool) (w : World) (h : kv_sessionFine.B1 s t11 w   R) :
    KW Try.prog 68 39 (kv_sessionFine.RV R) ([(0, [1, 0, 1]), (0, [1, 1])].map (toItem (Try.f68.body.getD .skip))) [(1, .pointer (some ⟨s, 0, none⟩)), (11, .bool t11)] w := by
  exact block_spec Try.func68 Try.mixed (stops_cons (fun σ w h => by
      obtain ⟨s_, e0, h⟩ := dK_elim h
      obtain ⟨t19_, e1, h⟩ := dB_elim h
      exact (kv_sessionFine.B2_sound  s_ t19_ w h).weaken (Sub.cons (Sub.cons (Sub.nil _) e1) e0)) stops_nil) (Eq.mp (kv_sessionFine.B1_eq s t11 w   R (fun s_ t19_ w => kv_sessionFine.B2 s_ t19_ w  R)) h)
def kv_sessionFine.B0 (s_0 s_1 s_2 s_3 s_4 s_5 : Int) (w : World)   (R : ByteArray → World → Prop) : Prop :=
  New (.cells #[.int .i64 s_0, .int .i64 s_1, .int .i64 s_2, .int .u8 s_3, .int .u8 s_4, .int .u8 s_5] 48) w fun s_ w1 =>
  LdI .i64 ⟨s_, 0, none⟩ w1 fun x5 =>
  Bm (decide (x5 < (0 : Int))) (
    kv_sessionFine.B1 s_ true w1  R) (
    LdI .i64 ⟨s_, 0, none⟩ w1 fun x9 =>
    kv_sessionFine.B1 s_ (decide (x9 > (72057594037927936 : Int))) w1  R)
theorem kv_sessionFine.B0_eq (s_0 s_1 s_2 s_3 s_4 s_5 : Int) (w : World)   (R : ByteArray → World → Prop) (sB1 : Nat → Bool → World → Prop) :
    (
  New (.cells #[.int .i64 s_0, .int .i64 s_1, .int .i64 s_2, .int .u8 s_3, .int .u8 s_4, .int .u8 s_5] 48) w fun s_ w1 =>
  LdI .i64 ⟨s_, 0, none⟩ w1 fun x5 =>
  Bm (decide (x5 < (0 : Int))) (
    sB1 s_ true w1) (
    LdI .i64 ⟨s_, 0, none⟩ w1 fun x9 =>
    sB1 s_ (decide (x9 > (72057594037927936 : Int))) w1)) = kstep Try.prog 39 Try.f68.results.toList (Try.f68.body.getD .skip) (kv_sessionFine.RV R) (kvc Try.prog 39 Try.f68.results.toList (Try.f68.body.getD .skip) (kv_sessionFine.RV R) [([(0, [1, 0, 1]), (0, [1, 1])], fun σ w => dK (slotOf σ 1) fun s_ => dB (slotOf σ 11) fun t11_ => sB1 s_ t11_ w)] 2000) [(0, [])] [(0, .agg #[.int .i64 s_0, .int .i64 s_1, .int .i64 s_2, .int .u8 s_3, .int .u8 s_4, .int .u8 s_5])] w := by kernel_rfl
theorem kv_sessionFine.B0_sound {R : ByteArray → World → Prop}  (s_0 s_1 s_2 s_3 s_4 s_5 : Int) (w : World) (h : kv_sessionFine.B0 s_0 s_1 s_2 s_3 s_4 s_5 w   R) :
    KW Try.prog 68 39 (kv_sessionFine.RV R) ([(0, [])].map (toItem (Try.f68.body.getD .skip))) [(0, .agg #[.int .i64 s_0, .int .i64 s_1, .int .i64 s_2, .int .u8 s_3, .int .u8 s_4, .int .u8 s_5])] w := by
  exact block_spec Try.func68 Try.mixed (stops_cons (fun σ w h => by
      obtain ⟨s_, e0, h⟩ := dK_elim h
      obtain ⟨t11_, e1, h⟩ := dB_elim h
      exact (kv_sessionFine.B1_sound  s_ t11_ w h).weaken (Sub.cons (Sub.cons (Sub.nil _) e1) e0)) stops_nil) (Eq.mp (kv_sessionFine.B0_eq s_0 s_1 s_2 s_3 s_4 s_5 w   R (fun s_ t11_ w => kv_sessionFine.B1 s_ t11_ w  R)) h)
theorem kv_sessionFine.sound (s_0 s_1 s_2 s_3 s_4 s_5 : Int) (w : World) (R : ByteArray → World → Prop) (h : kv_sessionFine.B0 s_0 s_1 s_2 s_3 s_4 s_5 w R) : kv_sessionFine.Call s_0 s_1 s_2 s_3 s_4 s_5 w R := by
  have hc := calls_of_block (args := #[.agg #[.int .i64 s_0, .int .i64 s_1, .int .i64 s_2, .int .u8 s_3, .int .u8 s_4, .int .u8 s_5]]) Try.func68 (body := (Try.f68.body.getD .skip)) (by kernel_rfl) (by kernel_rfl) (args_slot _) (kv_sessionFine.B0_sound s_0 s_1 s_2 s_3 s_4 s_5 w h)
  exact hc.mono fun e w' he => by
    obtain ⟨v, rfl, hv⟩ := he
    exact kv_sessionFine.RV_elim hv
def kv_hash.L1b (key : ByteArray) (h0 i : Int) (w : World)  (N1 : ByteArray → Int → Int → World → Prop) (R : Int → World → Prop) : Prop :=
  Bm (decide (i < ((key.size : Nat) : Int))) (
    (0 ≤ i ∧ i < ((key.size : Nat) : Int)) ∧
    N1 key (IntKind.i64.wrap (BitVec.ofInt IntKind.i64.bits (IntKind.i64.wrap ((IntKind.i64.wrap (h0 * (31 : Int))) + (IntKind.i64.wrap (byteAt key i)))) &&& BitVec.ofInt IntKind.i64.bits (65535 : Int)).toNat) (IntKind.i64.wrap (i + (1 : Int))) w) (
    R (IntKind.i64.wrap (BitVec.ofInt IntKind.i64.bits h0 &&& BitVec.ofInt IntKind.i64.bits (7 : Int)).toNat) w)
theorem kv_hash.L1b_eq (key : ByteArray) (h0 i : Int) (w : World)  (N1 : ByteArray → Int → Int → World → Prop) (R : Int → World → Prop)  :
    (
  Bm (decide (i < ((key.size : Nat) : Int))) (
    (0 ≤ i ∧ i < ((key.size : Nat) : Int)) ∧
    N1 key (IntKind.i64.wrap (BitVec.ofInt IntKind.i64.bits (IntKind.i64.wrap ((IntKind.i64.wrap (h0 * (31 : Int))) + (IntKind.i64.wrap (byteAt key i)))) &&& BitVec.ofInt IntKind.i64.bits (65535 : Int)).toNat) (IntKind.i64.wrap (i + (1 : Int))) w) (
    R (IntKind.i64.wrap (BitVec.ofInt IntKind.i64.bits h0 &&& BitVec.ofInt IntKind.i64.bits (7 : Int)).toNat) w)) = kstep Try.prog 23 Try.f69.results.toList (Try.f69.body.getD .skip) (kv_hash.RV R) (kvc Try.prog 23 Try.f69.results.toList (Try.f69.body.getD .skip) (kv_hash.RV R) [([(0, [1, 1, 0, 1, 0, 0]), (2, [1, 1, 0, 1, 0, 0]), (1, [0]), (0, [1, 1, 1])], fun σ w => dS (slotOf σ 0) fun key_ => dI .i64 (slotOf σ 3) fun h0_ => dI .i64 (slotOf σ 4) fun i_ => N1 key_ h0_ i_ w)] 2000) [(0, [1, 1, 0, 1, 0, 0]), (2, [1, 1, 0, 1, 0, 0]), (1, [0]), (0, [1, 1, 1])] [(0, .string key), (3, .int .i64 h0), (4, .int .i64 i)] w := by kernel_rfl
theorem kv_hash.L1b_sound {R : Int → World → Prop} {N1 : ByteArray → Int → Int → World → Prop} (hN1 : ∀ key h0 i w, N1 key h0 i w → KW Try.prog 69 23 (kv_hash.RV R) ([(0, [1, 1, 0, 1, 0, 0]), (2, [1, 1, 0, 1, 0, 0]), (1, [0]), (0, [1, 1, 1])].map (toItem (Try.f69.body.getD .skip))) [(0, .string key), (3, .int .i64 h0), (4, .int .i64 i)] w) (key : ByteArray) (h0 i : Int) (w : World) (h : kv_hash.L1b key h0 i w  N1 R) :
    KW Try.prog 69 23 (kv_hash.RV R) ([(0, [1, 1, 0, 1, 0, 0]), (2, [1, 1, 0, 1, 0, 0]), (1, [0]), (0, [1, 1, 1])].map (toItem (Try.f69.body.getD .skip))) [(0, .string key), (3, .int .i64 h0), (4, .int .i64 i)] w := by
  exact block_spec Try.func69 Try.mixed (stops_cons (fun σ w h => by
      obtain ⟨key_, e0, h⟩ := dS_elim h
      obtain ⟨h0_, e1, h⟩ := dI_elim h
      obtain ⟨i_, e2, h⟩ := dI_elim h
      exact (hN1 key_ h0_ i_ w h).weaken (Sub.cons (Sub.cons (Sub.cons (Sub.nil _) e2) e1) e0)) stops_nil) (Eq.mp (kv_hash.L1b_eq key h0 i w  N1 R ) h)
def kv_hash.L1 (key : ByteArray) (h0 i : Int) (w : World)  (R : Int → World → Prop) : Prop :=
  ∃ (I : Nat → ByteArray → Int → Int → World → Prop) (m : Nat), I m key h0 i w ∧ ∀ m key h0 i w, I m key h0 i w → kv_hash.L1b key h0 i w  (fun key' h0' i' w' => ∃ m', m' < m ∧ I m' key' h0' i' w') R
theorem kv_hash.L1_sound {R : Int → World → Prop}  (key : ByteArray) (h0 i : Int) (w : World) (h : kv_hash.L1 key h0 i w  R) :
    KW Try.prog 69 23 (kv_hash.RV R) ([(0, [1, 1, 0, 1, 0, 0]), (2, [1, 1, 0, 1, 0, 0]), (1, [0]), (0, [1, 1, 1])].map (toItem (Try.f69.body.getD .skip))) [(0, .string key), (3, .int .i64 h0), (4, .int .i64 i)] w := by
  obtain ⟨I, m, hBase, hr⟩ := h
  refine KW.loop (fun m σ w => ∃ (key : ByteArray) (h0 i : Int), σ = [(0, .string key), (3, .int .i64 h0), (4, .int .i64 i)] ∧ I m key h0 i w) ?_ m _ w ⟨key, h0, i, rfl, hBase⟩
  rintro m ih σ w ⟨key, h0, i, rfl, hI⟩
  exact kv_hash.L1b_sound  (N1 := fun key' h0' i' w' => ∃ m', m' < m ∧ I m' key' h0' i' w') (fun key' h0' i' w' hx => by obtain ⟨m', hlt, hI'⟩ := hx; exact ih m' hlt _ w' ⟨key', h0', i', rfl, hI'⟩) key h0 i w (hr m key h0 i w hI)
def kv_hash.B0 (key : ByteArray) (w : World)   (R : Int → World → Prop) : Prop :=
  kv_hash.L1 key ((key.size : Nat) : Int) (0 : Int) w  R
theorem kv_hash.B0_eq (key : ByteArray) (w : World)   (R : Int → World → Prop) (sL1 : ByteArray → Int → Int → World → Prop) :
    (
  sL1 key ((key.size : Nat) : Int) (0 : Int) w) = kstep Try.prog 23 Try.f69.results.toList (Try.f69.body.getD .skip) (kv_hash.RV R) (kvc Try.prog 23 Try.f69.results.toList (Try.f69.body.getD .skip) (kv_hash.RV R) [([(0, [1, 1, 0, 1, 0, 0]), (2, [1, 1, 0, 1, 0, 0]), (1, [0]), (0, [1, 1, 1])], fun σ w => dS (slotOf σ 0) fun key_ => dI .i64 (slotOf σ 3) fun h0_ => dI .i64 (slotOf σ 4) fun i_ => sL1 key_ h0_ i_ w)] 2000) [(0, [])] [(0, .string key)] w := by kernel_rfl
theorem kv_hash.B0_sound {R : Int → World → Prop}  (key : ByteArray) (w : World) (h : kv_hash.B0 key w   R) :
    KW Try.prog 69 23 (kv_hash.RV R) ([(0, [])].map (toItem (Try.f69.body.getD .skip))) [(0, .string key)] w := by
  exact block_spec Try.func69 Try.mixed (stops_cons (fun σ w h => by
      obtain ⟨key_, e0, h⟩ := dS_elim h
      obtain ⟨h0_, e1, h⟩ := dI_elim h
      obtain ⟨i_, e2, h⟩ := dI_elim h
      exact (kv_hash.L1_sound  key_ h0_ i_ w h).weaken (Sub.cons (Sub.cons (Sub.cons (Sub.nil _) e2) e1) e0)) stops_nil) (Eq.mp (kv_hash.B0_eq key w   R (fun key_ h0_ i_ w => kv_hash.L1 key_ h0_ i_ w  R)) h)
theorem kv_hash.sound (key : ByteArray) (w : World) (R : Int → World → Prop) (h : kv_hash.B0 key w R) : kv_hash.Call key w R := by
  have hc := calls_of_block (args := #[.string key]) Try.func69 (body := (Try.f69.body.getD .skip)) (by kernel_rfl) (by kernel_rfl) (args_slot _) (kv_hash.B0_sound key w h)
  exact hc.mono fun e w' he => by
    obtain ⟨v, rfl, hv⟩ := he
    exact kv_hash.RV_elim hv
end Go.Proofs.Qxb6500429a
