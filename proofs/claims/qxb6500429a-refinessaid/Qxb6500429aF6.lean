import Derived.Test.Qxb6500429aSig
set_option maxRecDepth 100000
set_option linter.unusedVariables false
open Go.Vc
namespace Go.Proofs.Qxb6500429a
def kv_KV_Apply.B0 (k : Option Addr) (data : ByteArray) (w : World)   (R : Int → ByteArray → World → Prop) : Prop :=
  New (.cells #[.int .i64 (0 : Int), .string (ByteArray.mk #[])] 54) w fun b4 w1 =>
  api_DecodeCmd.Call data w1 fun r11_0_0 r11_0_1 r11_0_2 r11_0_3 r11_0_4 r11_0_5 r11_1 w2 =>
  New (.cells #[.int .i64 (0 : Int), .int .i64 (0 : Int), .int .i64 (0 : Int), .string (ByteArray.mk #[]), .string (ByteArray.mk #[]), .string (ByteArray.mk #[])] 71) w2 fun c_ w3 =>
  Sts [.int .i64 r11_0_0, .int .i64 r11_0_1, .int .i64 r11_0_2, .string r11_0_3, .string r11_0_4, .string r11_0_5] ⟨c_, 0, none⟩ 0 w3 fun w4 =>
  Bm (r11_1 != (0 : Int)) (
    Sts [.int .i64 (9 : Int), .string (ByteArray.mk #[])] ⟨b4, 0, none⟩ 0 w4 fun w5 =>
    LdI .i64 ⟨b4, 0, none⟩ w5 fun r_0 =>
    LdS ⟨b4, 1, none⟩ w5 fun r_1 =>
    R r_0 r_1 w5) (
    LdI .i64 ⟨c_, 1, none⟩ w4.drew fun x19 =>
    Pn k fun a =>
    (0 ≤ x19 ∧ x19 < ((3 : Nat) : Int)) ∧
    LdI .i64 (Addr.add (a.add 66) (x19.toNat * 6)) w4.drew fun x23_0 =>
    LdI .i64 ((Addr.add (a.add 66) (x19.toNat * 6)).add 1) w4.drew fun x23_1 =>
    LdI .i64 ((Addr.add (a.add 66) (x19.toNat * 6)).add 2) w4.drew fun x23_2 =>
    LdI .u8 ((Addr.add (a.add 66) (x19.toNat * 6)).add 3) w4.drew fun x23_3 =>
    LdI .u8 ((Addr.add (a.add 66) (x19.toNat * 6)).add 4) w4.drew fun x23_4 =>
    LdI .u8 ((Addr.add (a.add 66) (x19.toNat * 6)).add 5) w4.drew fun x23_5 =>
    New (.cells #[.int .i64 (0 : Int), .int .i64 (0 : Int), .int .i64 (0 : Int), .int .u8 (0 : Int), .int .u8 (0 : Int), .int .u8 (0 : Int)] 48) w4.drew fun last_ w6 =>
    w6.cell? (Addr.add (a.add 66) (x19.toNat * 6)) = some (.int .i64 x23_0) ∧
    w6.cell? ((Addr.add (a.add 66) (x19.toNat * 6)).add 1) = some (.int .i64 x23_1) ∧
    w6.cell? ((Addr.add (a.add 66) (x19.toNat * 6)).add 2) = some (.int .i64 x23_2) ∧
    w6.cell? ((Addr.add (a.add 66) (x19.toNat * 6)).add 3) = some (.int .u8 x23_3) ∧
    w6.cell? ((Addr.add (a.add 66) (x19.toNat * 6)).add 4) = some (.int .u8 x23_4) ∧
    w6.cell? ((Addr.add (a.add 66) (x19.toNat * 6)).add 5) = some (.int .u8 x23_5) ∧
    w6.cell? ⟨c_, 1, none⟩ = some (.int .i64 x19) ∧
    Sts [.int .i64 x23_0, .int .i64 x23_1, .int .i64 x23_2, .int .u8 x23_3, .int .u8 x23_4, .int .u8 x23_5] ⟨last_, 0, none⟩ 0 w6 fun w7 =>
    LdI .i64 ⟨c_, 2, none⟩ w7 fun x25 =>
    LdI .i64 ⟨last_, 0, none⟩ w7 fun x27 =>
    Bm (decide (x25 < x27)) (
      Sts [.int .i64 (10 : Int), .string (ByteArray.mk #[])] ⟨b4, 0, none⟩ 0 w7 fun w8 =>
      LdI .i64 ⟨b4, 0, none⟩ w8 fun r_0_1 =>
      LdS ⟨b4, 1, none⟩ w8 fun r_1_1 =>
      R r_0_1 r_1_1 w8) (
      LdI .i64 ⟨c_, 2, none⟩ w7 fun x31 =>
      LdI .i64 ⟨last_, 0, none⟩ w7 fun x33 =>
      Bm (x31 == x33) (
        LdI .i64 ⟨last_, 0, none⟩ w7 fun x35_0 =>
        LdI .i64 ⟨last_, 1, none⟩ w7 fun x35_1 =>
        LdI .i64 ⟨last_, 2, none⟩ w7 fun x35_2 =>
        LdI .u8 ⟨last_, 3, none⟩ w7 fun x35_3 =>
        LdI .u8 ⟨last_, 4, none⟩ w7 fun x35_4 =>
        LdI .u8 ⟨last_, 5, none⟩ w7 fun x35_5 =>
        kv_ansOf.Call x35_0 x35_1 x35_2 x35_3 x35_4 x35_5 w7 fun r36_0 r36_1 w9 =>
        Sts [.int .i64 r36_0, .string r36_1] ⟨b4, 0, none⟩ 0 w9 fun w10 =>
        LdI .i64 ⟨b4, 0, none⟩ w10 fun r_0_2 =>
        LdS ⟨b4, 1, none⟩ w10 fun r_1_2 =>
        R r_0_2 r_1_2 w10) (
        LdI .i64 ⟨c_, 0, none⟩ w7 fun x38_0 =>
        LdI .i64 ⟨c_, 1, none⟩ w7 fun x38_1 =>
        LdI .i64 ⟨c_, 2, none⟩ w7 fun x38_2 =>
        LdS ⟨c_, 3, none⟩ w7 fun x38_3 =>
        LdS ⟨c_, 4, none⟩ w7 fun x38_4 =>
        LdS ⟨c_, 5, none⟩ w7 fun x38_5 =>
        kv_KV_run.Call k x38_0 x38_1 x38_2 x38_3 x38_4 x38_5 w7 fun r39_0 r39_1 w11 =>
        New (.cells #[.int .i64 (0 : Int), .string (ByteArray.mk #[])] 54) w11 fun a_ w12 =>
        Sts [.int .i64 r39_0, .string r39_1] ⟨a_, 0, none⟩ 0 w12 fun w13 =>
        LdI .i64 ⟨c_, 1, none⟩ w13.drew fun x42 =>
        LdI .i64 ⟨c_, 2, none⟩ w13.drew fun x44 =>
        LdI .i64 ⟨a_, 0, none⟩ w13.drew fun x45_0 =>
        LdS ⟨a_, 1, none⟩ w13.drew fun x45_1 =>
        Pn k fun a_1 =>
        kv_mkSession.Call x44 x45_0 x45_1 w13.drew fun r46_0 r46_1 r46_2 r46_3 r46_4 r46_5 w14 =>
        w14.cell? ⟨c_, 1, none⟩ = some (.int .i64 x42) ∧
        (0 ≤ x42 ∧ x42 < ((3 : Nat) : Int)) ∧
        Sts [.int .i64 r46_0, .int .i64 r46_1, .int .i64 r46_2, .int .u8 r46_3, .int .u8 r46_4, .int .u8 r46_5] (Addr.add (a_1.add 66) (x42.toNat * 6)) 0 w14 fun w15 =>
        LdI .i64 ⟨a_, 0, none⟩ w15 fun x50_0 =>
        LdS ⟨a_, 1, none⟩ w15 fun x50_1 =>
        Sts [.int .i64 x50_0, .string x50_1] ⟨b4, 0, none⟩ 0 w15 fun w16 =>
        LdI .i64 ⟨b4, 0, none⟩ w16 fun r_0_3 =>
        LdS ⟨b4, 1, none⟩ w16 fun r_1_3 =>
        R r_0_3 r_1_3 w16)))
theorem kv_KV_Apply.B0_eq (k : Option Addr) (data : ByteArray) (w : World)   (R : Int → ByteArray → World → Prop)  :
    (
  New (.cells #[.int .i64 (0 : Int), .string (ByteArray.mk #[])] 54) w fun b4 w1 =>
  api_DecodeCmd.Call data w1 fun r11_0_0 r11_0_1 r11_0_2 r11_0_3 r11_0_4 r11_0_5 r11_1 w2 =>
  New (.cells #[.int .i64 (0 : Int), .int .i64 (0 : Int), .int .i64 (0 : Int), .string (ByteArray.mk #[]), .string (ByteArray.mk #[]), .string (ByteArray.mk #[])] 71) w2 fun c_ w3 =>
  Sts [.int .i64 r11_0_0, .int .i64 r11_0_1, .int .i64 r11_0_2, .string r11_0_3, .string r11_0_4, .string r11_0_5] ⟨c_, 0, none⟩ 0 w3 fun w4 =>
  Bm (r11_1 != (0 : Int)) (
    Sts [.int .i64 (9 : Int), .string (ByteArray.mk #[])] ⟨b4, 0, none⟩ 0 w4 fun w5 =>
    LdI .i64 ⟨b4, 0, none⟩ w5 fun r_0 =>
    LdS ⟨b4, 1, none⟩ w5 fun r_1 =>
    R r_0 r_1 w5) (
    LdI .i64 ⟨c_, 1, none⟩ w4.drew fun x19 =>
    Pn k fun a =>
    (0 ≤ x19 ∧ x19 < ((3 : Nat) : Int)) ∧
    LdI .i64 (Addr.add (a.add 66) (x19.toNat * 6)) w4.drew fun x23_0 =>
    LdI .i64 ((Addr.add (a.add 66) (x19.toNat * 6)).add 1) w4.drew fun x23_1 =>
    LdI .i64 ((Addr.add (a.add 66) (x19.toNat * 6)).add 2) w4.drew fun x23_2 =>
    LdI .u8 ((Addr.add (a.add 66) (x19.toNat * 6)).add 3) w4.drew fun x23_3 =>
    LdI .u8 ((Addr.add (a.add 66) (x19.toNat * 6)).add 4) w4.drew fun x23_4 =>
    LdI .u8 ((Addr.add (a.add 66) (x19.toNat * 6)).add 5) w4.drew fun x23_5 =>
    New (.cells #[.int .i64 (0 : Int), .int .i64 (0 : Int), .int .i64 (0 : Int), .int .u8 (0 : Int), .int .u8 (0 : Int), .int .u8 (0 : Int)] 48) w4.drew fun last_ w6 =>
    w6.cell? (Addr.add (a.add 66) (x19.toNat * 6)) = some (.int .i64 x23_0) ∧
    w6.cell? ((Addr.add (a.add 66) (x19.toNat * 6)).add 1) = some (.int .i64 x23_1) ∧
    w6.cell? ((Addr.add (a.add 66) (x19.toNat * 6)).add 2) = some (.int .i64 x23_2) ∧
    w6.cell? ((Addr.add (a.add 66) (x19.toNat * 6)).add 3) = some (.int .u8 x23_3) ∧
    w6.cell? ((Addr.add (a.add 66) (x19.toNat * 6)).add 4) = some (.int .u8 x23_4) ∧
    w6.cell? ((Addr.add (a.add 66) (x19.toNat * 6)).add 5) = some (.int .u8 x23_5) ∧
    w6.cell? ⟨c_, 1, none⟩ = some (.int .i64 x19) ∧
    Sts [.int .i64 x23_0, .int .i64 x23_1, .int .i64 x23_2, .int .u8 x23_3, .int .u8 x23_4, .int .u8 x23_5] ⟨last_, 0, none⟩ 0 w6 fun w7 =>
    LdI .i64 ⟨c_, 2, none⟩ w7 fun x25 =>
    LdI .i64 ⟨last_, 0, none⟩ w7 fun x27 =>
    Bm (decide (x25 < x27)) (
      Sts [.int .i64 (10 : Int), .string (ByteArray.mk #[])] ⟨b4, 0, none⟩ 0 w7 fun w8 =>
      LdI .i64 ⟨b4, 0, none⟩ w8 fun r_0_1 =>
      LdS ⟨b4, 1, none⟩ w8 fun r_1_1 =>
      R r_0_1 r_1_1 w8) (
      LdI .i64 ⟨c_, 2, none⟩ w7 fun x31 =>
      LdI .i64 ⟨last_, 0, none⟩ w7 fun x33 =>
      Bm (x31 == x33) (
        LdI .i64 ⟨last_, 0, none⟩ w7 fun x35_0 =>
        LdI .i64 ⟨last_, 1, none⟩ w7 fun x35_1 =>
        LdI .i64 ⟨last_, 2, none⟩ w7 fun x35_2 =>
        LdI .u8 ⟨last_, 3, none⟩ w7 fun x35_3 =>
        LdI .u8 ⟨last_, 4, none⟩ w7 fun x35_4 =>
        LdI .u8 ⟨last_, 5, none⟩ w7 fun x35_5 =>
        kv_ansOf.Call x35_0 x35_1 x35_2 x35_3 x35_4 x35_5 w7 fun r36_0 r36_1 w9 =>
        Sts [.int .i64 r36_0, .string r36_1] ⟨b4, 0, none⟩ 0 w9 fun w10 =>
        LdI .i64 ⟨b4, 0, none⟩ w10 fun r_0_2 =>
        LdS ⟨b4, 1, none⟩ w10 fun r_1_2 =>
        R r_0_2 r_1_2 w10) (
        LdI .i64 ⟨c_, 0, none⟩ w7 fun x38_0 =>
        LdI .i64 ⟨c_, 1, none⟩ w7 fun x38_1 =>
        LdI .i64 ⟨c_, 2, none⟩ w7 fun x38_2 =>
        LdS ⟨c_, 3, none⟩ w7 fun x38_3 =>
        LdS ⟨c_, 4, none⟩ w7 fun x38_4 =>
        LdS ⟨c_, 5, none⟩ w7 fun x38_5 =>
        kv_KV_run.Call k x38_0 x38_1 x38_2 x38_3 x38_4 x38_5 w7 fun r39_0 r39_1 w11 =>
        New (.cells #[.int .i64 (0 : Int), .string (ByteArray.mk #[])] 54) w11 fun a_ w12 =>
        Sts [.int .i64 r39_0, .string r39_1] ⟨a_, 0, none⟩ 0 w12 fun w13 =>
        LdI .i64 ⟨c_, 1, none⟩ w13.drew fun x42 =>
        LdI .i64 ⟨c_, 2, none⟩ w13.drew fun x44 =>
        LdI .i64 ⟨a_, 0, none⟩ w13.drew fun x45_0 =>
        LdS ⟨a_, 1, none⟩ w13.drew fun x45_1 =>
        Pn k fun a_1 =>
        kv_mkSession.Call x44 x45_0 x45_1 w13.drew fun r46_0 r46_1 r46_2 r46_3 r46_4 r46_5 w14 =>
        w14.cell? ⟨c_, 1, none⟩ = some (.int .i64 x42) ∧
        (0 ≤ x42 ∧ x42 < ((3 : Nat) : Int)) ∧
        Sts [.int .i64 r46_0, .int .i64 r46_1, .int .i64 r46_2, .int .u8 r46_3, .int .u8 r46_4, .int .u8 r46_5] (Addr.add (a_1.add 66) (x42.toNat * 6)) 0 w14 fun w15 =>
        LdI .i64 ⟨a_, 0, none⟩ w15 fun x50_0 =>
        LdS ⟨a_, 1, none⟩ w15 fun x50_1 =>
        Sts [.int .i64 x50_0, .string x50_1] ⟨b4, 0, none⟩ 0 w15 fun w16 =>
        LdI .i64 ⟨b4, 0, none⟩ w16 fun r_0_3 =>
        LdS ⟨b4, 1, none⟩ w16 fun r_1_3 =>
        R r_0_3 r_1_3 w16)))) = kstep Try.prog 51 Try.f51.results.toList (Try.f51.body.getD .skip) (kv_KV_Apply.RV R) (kvc Try.prog 51 Try.f51.results.toList (Try.f51.body.getD .skip) (kv_KV_Apply.RV R) [] 2000) [(0, [])] [(0, .pointer k), (1, .string data)] w := by kernel_rfl
theorem kv_KV_Apply.B0_sound {R : Int → ByteArray → World → Prop}  (k : Option Addr) (data : ByteArray) (w : World) (h : kv_KV_Apply.B0 k data w   R) :
    KW Try.prog 51 51 (kv_KV_Apply.RV R) ([(0, [])].map (toItem (Try.f51.body.getD .skip))) [(0, .pointer k), (1, .string data)] w := by
  exact block_spec Try.func51 Try.mixed stops_nil (Eq.mp (kv_KV_Apply.B0_eq k data w   R ) h)
theorem kv_KV_Apply.sound (k : Option Addr) (data : ByteArray) (w : World) (R : Int → ByteArray → World → Prop) (h : kv_KV_Apply.B0 k data w R) : kv_KV_Apply.Call k data w R := by
  have hc := calls_of_block (args := #[.pointer k, .string data]) Try.func51 (body := (Try.f51.body.getD .skip)) (by kernel_rfl) (by kernel_rfl) (args_slot _) (kv_KV_Apply.B0_sound k data w h)
  exact hc.mono fun e w' he => by
    obtain ⟨v, rfl, hv⟩ := he
    exact kv_KV_Apply.RV_elim hv
def kvm_KV_Apply.B0 (k : Option Addr) (data : ByteArray) (w : World)   (R : Int → ByteArray → World → Prop) : Prop :=
  New (.cells #[.int .i64 (0 : Int), .string (ByteArray.mk #[])] 54) w fun b4 w1 =>
  api_DecodeCmd.Call data w1 fun r10_0_0 r10_0_1 r10_0_2 r10_0_3 r10_0_4 r10_0_5 r10_1 w2 =>
  New (.cells #[.int .i64 (0 : Int), .int .i64 (0 : Int), .int .i64 (0 : Int), .string (ByteArray.mk #[]), .string (ByteArray.mk #[]), .string (ByteArray.mk #[])] 71) w2 fun c_ w3 =>
  Sts [.int .i64 r10_0_0, .int .i64 r10_0_1, .int .i64 r10_0_2, .string r10_0_3, .string r10_0_4, .string r10_0_5] ⟨c_, 0, none⟩ 0 w3 fun w4 =>
  Bm (r10_1 != (0 : Int)) (
    Sts [.int .i64 (9 : Int), .string (ByteArray.mk #[])] ⟨b4, 0, none⟩ 0 w4 fun w5 =>
    LdI .i64 ⟨b4, 0, none⟩ w5 fun r_0 =>
    LdS ⟨b4, 1, none⟩ w5 fun r_1 =>
    R r_0 r_1 w5) (
    LdI .i64 ⟨c_, 2, none⟩ w4.drew fun x17 =>
    LdI .i64 ⟨c_, 1, none⟩ w4.drew fun x20 =>
    Pn k fun a =>
    (0 ≤ x20 ∧ x20 < ((3 : Nat) : Int)) ∧
    LdI .i64 (Addr.add (a.add 9) (x20.toNat * 1)) w4.drew fun x24 =>
    Bm (decide (x17 < x24)) (
      Sts [.int .i64 (10 : Int), .string (ByteArray.mk #[])] ⟨b4, 0, none⟩ 0 w4.drew fun w6 =>
      LdI .i64 ⟨b4, 0, none⟩ w6 fun r_0_1 =>
      LdS ⟨b4, 1, none⟩ w6 fun r_1_1 =>
      R r_0_1 r_1_1 w6) (
      LdI .i64 ⟨c_, 2, none⟩ w4.drew.drew fun x28 =>
      LdI .i64 ⟨c_, 1, none⟩ w4.drew.drew fun x31 =>
      Pn k fun a_1 =>
      (0 ≤ x31 ∧ x31 < ((3 : Nat) : Int)) ∧
      LdI .i64 (Addr.add (a_1.add 9) (x31.toNat * 1)) w4.drew.drew fun x35 =>
      Bm (x28 == x35) (
        LdI .i64 ⟨c_, 1, none⟩ w4.drew.drew.drew fun x39 =>
        Pn k fun a_2 =>
        (0 ≤ x39 ∧ x39 < ((3 : Nat) : Int)) ∧
        LdI .i64 (Addr.add (a_2.add 12) (x39.toNat * 2)) w4.drew.drew.drew fun x43_0 =>
        LdS ((Addr.add (a_2.add 12) (x39.toNat * 2)).add 1) w4.drew.drew.drew fun x43_1 =>
        Sts [.int .i64 x43_0, .string x43_1] ⟨b4, 0, none⟩ 0 w4.drew.drew.drew fun w7 =>
        LdI .i64 ⟨b4, 0, none⟩ w7 fun r_0_2 =>
        LdS ⟨b4, 1, none⟩ w7 fun r_1_2 =>
        R r_0_2 r_1_2 w7) (
        LdI .i64 ⟨c_, 0, none⟩ w4.drew.drew fun x45_0 =>
        LdI .i64 ⟨c_, 1, none⟩ w4.drew.drew fun x45_1 =>
        LdI .i64 ⟨c_, 2, none⟩ w4.drew.drew fun x45_2 =>
        LdS ⟨c_, 3, none⟩ w4.drew.drew fun x45_3 =>
        LdS ⟨c_, 4, none⟩ w4.drew.drew fun x45_4 =>
        LdS ⟨c_, 5, none⟩ w4.drew.drew fun x45_5 =>
        kvm_KV_run.Call k x45_0 x45_1 x45_2 x45_3 x45_4 x45_5 w4.drew.drew fun r46_0 r46_1 w8 =>
        New (.cells #[.int .i64 (0 : Int), .string (ByteArray.mk #[])] 54) w8 fun a_ w9 =>
        Sts [.int .i64 r46_0, .string r46_1] ⟨a_, 0, none⟩ 0 w9 fun w10 =>
        LdI .i64 ⟨c_, 1, none⟩ w10.drew fun x49 =>
        LdI .i64 ⟨c_, 1, none⟩ w10.drew fun x52 =>
        LdI .i64 ⟨c_, 2, none⟩ w10.drew fun x54 =>
        LdI .i64 ⟨a_, 0, none⟩ w10.drew fun x55_0 =>
        LdS ⟨a_, 1, none⟩ w10.drew fun x55_1 =>
        Pn k fun a_3 =>
        (0 ≤ x49 ∧ x49 < ((3 : Nat) : Int)) ∧
        Pn k fun a_4 =>
        Sts [.int .i64 x54] (Addr.add (a_3.add 9) (x49.toNat * 1)) 0 w10.drew fun w11 =>
        w11.cell? ⟨a_, 0, none⟩ = some (.int .i64 x55_0) ∧
        w11.cell? ⟨a_, 1, none⟩ = some (.string x55_1) ∧
        w11.cell? ⟨c_, 1, none⟩ = some (.int .i64 x52) ∧
        (0 ≤ x52 ∧ x52 < ((3 : Nat) : Int)) ∧
        Sts [.int .i64 x55_0, .string x55_1] (Addr.add (a_4.add 12) (x52.toNat * 2)) 0 w11 fun w12 =>
        LdI .i64 ⟨a_, 0, none⟩ w12 fun x62_0 =>
        LdS ⟨a_, 1, none⟩ w12 fun x62_1 =>
        Sts [.int .i64 x62_0, .string x62_1] ⟨b4, 0, none⟩ 0 w12 fun w13 =>
        LdI .i64 ⟨b4, 0, none⟩ w13 fun r_0_3 =>
        LdS ⟨b4, 1, none⟩ w13 fun r_1_3 =>
        R r_0_3 r_1_3 w13)))
theorem kvm_KV_Apply.B0_eq (k : Option Addr) (data : ByteArray) (w : World)   (R : Int → ByteArray → World → Prop)  :
    (
  New (.cells #[.int .i64 (0 : Int), .string (ByteArray.mk #[])] 54) w fun b4 w1 =>
  api_DecodeCmd.Call data w1 fun r10_0_0 r10_0_1 r10_0_2 r10_0_3 r10_0_4 r10_0_5 r10_1 w2 =>
  New (.cells #[.int .i64 (0 : Int), .int .i64 (0 : Int), .int .i64 (0 : Int), .string (ByteArray.mk #[]), .string (ByteArray.mk #[]), .string (ByteArray.mk #[])] 71) w2 fun c_ w3 =>
  Sts [.int .i64 r10_0_0, .int .i64 r10_0_1, .int .i64 r10_0_2, .string r10_0_3, .string r10_0_4, .string r10_0_5] ⟨c_, 0, none⟩ 0 w3 fun w4 =>
  Bm (r10_1 != (0 : Int)) (
    Sts [.int .i64 (9 : Int), .string (ByteArray.mk #[])] ⟨b4, 0, none⟩ 0 w4 fun w5 =>
    LdI .i64 ⟨b4, 0, none⟩ w5 fun r_0 =>
    LdS ⟨b4, 1, none⟩ w5 fun r_1 =>
    R r_0 r_1 w5) (
    LdI .i64 ⟨c_, 2, none⟩ w4.drew fun x17 =>
    LdI .i64 ⟨c_, 1, none⟩ w4.drew fun x20 =>
    Pn k fun a =>
    (0 ≤ x20 ∧ x20 < ((3 : Nat) : Int)) ∧
    LdI .i64 (Addr.add (a.add 9) (x20.toNat * 1)) w4.drew fun x24 =>
    Bm (decide (x17 < x24)) (
      Sts [.int .i64 (10 : Int), .string (ByteArray.mk #[])] ⟨b4, 0, none⟩ 0 w4.drew fun w6 =>
      LdI .i64 ⟨b4, 0, none⟩ w6 fun r_0_1 =>
      LdS ⟨b4, 1, none⟩ w6 fun r_1_1 =>
      R r_0_1 r_1_1 w6) (
      LdI .i64 ⟨c_, 2, none⟩ w4.drew.drew fun x28 =>
      LdI .i64 ⟨c_, 1, none⟩ w4.drew.drew fun x31 =>
      Pn k fun a_1 =>
      (0 ≤ x31 ∧ x31 < ((3 : Nat) : Int)) ∧
      LdI .i64 (Addr.add (a_1.add 9) (x31.toNat * 1)) w4.drew.drew fun x35 =>
      Bm (x28 == x35) (
        LdI .i64 ⟨c_, 1, none⟩ w4.drew.drew.drew fun x39 =>
        Pn k fun a_2 =>
        (0 ≤ x39 ∧ x39 < ((3 : Nat) : Int)) ∧
        LdI .i64 (Addr.add (a_2.add 12) (x39.toNat * 2)) w4.drew.drew.drew fun x43_0 =>
        LdS ((Addr.add (a_2.add 12) (x39.toNat * 2)).add 1) w4.drew.drew.drew fun x43_1 =>
        Sts [.int .i64 x43_0, .string x43_1] ⟨b4, 0, none⟩ 0 w4.drew.drew.drew fun w7 =>
        LdI .i64 ⟨b4, 0, none⟩ w7 fun r_0_2 =>
        LdS ⟨b4, 1, none⟩ w7 fun r_1_2 =>
        R r_0_2 r_1_2 w7) (
        LdI .i64 ⟨c_, 0, none⟩ w4.drew.drew fun x45_0 =>
        LdI .i64 ⟨c_, 1, none⟩ w4.drew.drew fun x45_1 =>
        LdI .i64 ⟨c_, 2, none⟩ w4.drew.drew fun x45_2 =>
        LdS ⟨c_, 3, none⟩ w4.drew.drew fun x45_3 =>
        LdS ⟨c_, 4, none⟩ w4.drew.drew fun x45_4 =>
        LdS ⟨c_, 5, none⟩ w4.drew.drew fun x45_5 =>
        kvm_KV_run.Call k x45_0 x45_1 x45_2 x45_3 x45_4 x45_5 w4.drew.drew fun r46_0 r46_1 w8 =>
        New (.cells #[.int .i64 (0 : Int), .string (ByteArray.mk #[])] 54) w8 fun a_ w9 =>
        Sts [.int .i64 r46_0, .string r46_1] ⟨a_, 0, none⟩ 0 w9 fun w10 =>
        LdI .i64 ⟨c_, 1, none⟩ w10.drew fun x49 =>
        LdI .i64 ⟨c_, 1, none⟩ w10.drew fun x52 =>
        LdI .i64 ⟨c_, 2, none⟩ w10.drew fun x54 =>
        LdI .i64 ⟨a_, 0, none⟩ w10.drew fun x55_0 =>
        LdS ⟨a_, 1, none⟩ w10.drew fun x55_1 =>
        Pn k fun a_3 =>
        (0 ≤ x49 ∧ x49 < ((3 : Nat) : Int)) ∧
        Pn k fun a_4 =>
        Sts [.int .i64 x54] (Addr.add (a_3.add 9) (x49.toNat * 1)) 0 w10.drew fun w11 =>
        w11.cell? ⟨a_, 0, none⟩ = some (.int .i64 x55_0) ∧
        w11.cell? ⟨a_, 1, none⟩ = some (.string x55_1) ∧
        w11.cell? ⟨c_, 1, none⟩ = some (.int .i64 x52) ∧
        (0 ≤ x52 ∧ x52 < ((3 : Nat) : Int)) ∧
        Sts [.int .i64 x55_0, .string x55_1] (Addr.add (a_4.add 12) (x52.toNat * 2)) 0 w11 fun w12 =>
        LdI .i64 ⟨a_, 0, none⟩ w12 fun x62_0 =>
        LdS ⟨a_, 1, none⟩ w12 fun x62_1 =>
        Sts [.int .i64 x62_0, .string x62_1] ⟨b4, 0, none⟩ 0 w12 fun w13 =>
        LdI .i64 ⟨b4, 0, none⟩ w13 fun r_0_3 =>
        LdS ⟨b4, 1, none⟩ w13 fun r_1_3 =>
        R r_0_3 r_1_3 w13)))) = kstep Try.prog 63 Try.f52.results.toList (Try.f52.body.getD .skip) (kvm_KV_Apply.RV R) (kvc Try.prog 63 Try.f52.results.toList (Try.f52.body.getD .skip) (kvm_KV_Apply.RV R) [] 2000) [(0, [])] [(0, .pointer k), (1, .string data)] w := by kernel_rfl
theorem kvm_KV_Apply.B0_sound {R : Int → ByteArray → World → Prop}  (k : Option Addr) (data : ByteArray) (w : World) (h : kvm_KV_Apply.B0 k data w   R) :
    KW Try.prog 52 63 (kvm_KV_Apply.RV R) ([(0, [])].map (toItem (Try.f52.body.getD .skip))) [(0, .pointer k), (1, .string data)] w := by
  exact block_spec Try.func52 Try.mixed stops_nil (Eq.mp (kvm_KV_Apply.B0_eq k data w   R ) h)
theorem kvm_KV_Apply.sound (k : Option Addr) (data : ByteArray) (w : World) (R : Int → ByteArray → World → Prop) (h : kvm_KV_Apply.B0 k data w R) : kvm_KV_Apply.Call k data w R := by
  have hc := calls_of_block (args := #[.pointer k, .string data]) Try.func52 (body := (Try.f52.body.getD .skip)) (by kernel_rfl) (by kernel_rfl) (args_slot _) (kvm_KV_Apply.B0_sound k data w h)
  exact hc.mono fun e w' he => by
    obtain ⟨v, rfl, hv⟩ := he
    exact kvm_KV_Apply.RV_elim hv
def kvlaw_SameAns.B0 (a_0 : Int) (a_1 : ByteArray) (b_0 : Int) (b_1 : ByteArray) (w : World)   (R : Bool → World → Prop) : Prop :=
  New (.cells #[.int .i64 a_0, .string a_1] 54) w fun a_ w1 =>
  New (.cells #[.int .i64 b_0, .string b_1] 54) w1 fun b_ w2 =>
  LdI .i64 ⟨a_, 0, none⟩ w2 fun x6 =>
  LdI .i64 ⟨b_, 0, none⟩ w2 fun x8 =>
  Bm (x6 == x8) (
    LdS ⟨a_, 1, none⟩ w2 fun x12 =>
    LdS ⟨b_, 1, none⟩ w2 fun x14 =>
    R (x12.toList == x14.toList) w2) (
    R false w2)
theorem kvlaw_SameAns.B0_eq (a_0 : Int) (a_1 : ByteArray) (b_0 : Int) (b_1 : ByteArray) (w : World)   (R : Bool → World → Prop)  :
    (
  New (.cells #[.int .i64 a_0, .string a_1] 54) w fun a_ w1 =>
  New (.cells #[.int .i64 b_0, .string b_1] 54) w1 fun b_ w2 =>
  LdI .i64 ⟨a_, 0, none⟩ w2 fun x6 =>
  LdI .i64 ⟨b_, 0, none⟩ w2 fun x8 =>
  Bm (x6 == x8) (
    LdS ⟨a_, 1, none⟩ w2 fun x12 =>
    LdS ⟨b_, 1, none⟩ w2 fun x14 =>
    R (x12.toList == x14.toList) w2) (
    R false w2)) = kstep Try.prog 17 Try.f53.results.toList (Try.f53.body.getD .skip) (kvlaw_SameAns.RV R) (kvc Try.prog 17 Try.f53.results.toList (Try.f53.body.getD .skip) (kvlaw_SameAns.RV R) [] 2000) [(0, [])] [(0, .agg #[.int .i64 a_0, .string a_1]), (1, .agg #[.int .i64 b_0, .string b_1])] w := by kernel_rfl
theorem kvlaw_SameAns.B0_sound {R : Bool → World → Prop}  (a_0 : Int) (a_1 : ByteArray) (b_0 : Int) (b_1 : ByteArray) (w : World) (h : kvlaw_SameAns.B0 a_0 a_1 b_0 b_1 w   R) :
    KW Try.prog 53 17 (kvlaw_SameAns.RV R) ([(0, [])].map (toItem (Try.f53.body.getD .skip))) [(0, .agg #[.int .i64 a_0, .string a_1]), (1, .agg #[.int .i64 b_0, .string b_1])] w := by
  exact block_spec Try.func53 Try.mixed stops_nil (Eq.mp (kvlaw_SameAns.B0_eq a_0 a_1 b_0 b_1 w   R ) h)
theorem kvlaw_SameAns.sound (a_0 : Int) (a_1 : ByteArray) (b_0 : Int) (b_1 : ByteArray) (w : World) (R : Bool → World → Prop) (h : kvlaw_SameAns.B0 a_0 a_1 b_0 b_1 w R) : kvlaw_SameAns.Call a_0 a_1 b_0 b_1 w R := by
  have hc := calls_of_block (args := #[.agg #[.int .i64 a_0, .string a_1], .agg #[.int .i64 b_0, .string b_1]]) Try.func53 (body := (Try.f53.body.getD .skip)) (by kernel_rfl) (by kernel_rfl) (args_slot _) (kvlaw_SameAns.B0_sound a_0 a_1 b_0 b_1 w h)
  exact hc.mono fun e w' he => by
    obtain ⟨v, rfl, hv⟩ := he
    exact kvlaw_SameAns.RV_elim hv
def kvlaw_SplitBar.L1b (t : ByteArray) (i : Int) (w : World)  (N1 : ByteArray → Int → World → Prop) (R : ByteArray → ByteArray → World → Prop) : Prop :=
  Bm (decide (i < ((t.size : Nat) : Int))) (
    (0 ≤ i ∧ i < ((t.size : Nat) : Int)) ∧
    Bm ((byteAt t i) == (124 : Int)) (
      (0 ≤ i ∧ i ≤ ((t.size : Nat) : Int)) ∧
      (0 ≤ (IntKind.i64.wrap (i + (1 : Int))) ∧ (IntKind.i64.wrap (i + (1 : Int))) ≤ ((t.size : Nat) : Int)) ∧
      R (t.extract ((0 : Nat) : Int).toNat i.toNat) (t.extract (IntKind.i64.wrap (i + (1 : Int))).toNat ((t.size : Nat) : Int).toNat) w.drew) (
      N1 t (IntKind.i64.wrap (i + (1 : Int))) w)) (
    R t (ByteArray.mk #[]) w)
theorem kvlaw_SplitBar.L1b_eq (t : ByteArray) (i : Int) (w : World)  (N1 : ByteArray → Int → World → Prop) (R : ByteArray → ByteArray → World → Prop)  :
    (
  Bm (decide (i < ((t.size : Nat) : Int))) (
    (0 ≤ i ∧ i < ((t.size : Nat) : Int)) ∧
    Bm ((byteAt t i) == (124 : Int)) (
      (0 ≤ i ∧ i ≤ ((t.size : Nat) : Int)) ∧
      (0 ≤ (IntKind.i64.wrap (i + (1 : Int))) ∧ (IntKind.i64.wrap (i + (1 : Int))) ≤ ((t.size : Nat) : Int)) ∧
      R (t.extract ((0 : Nat) : Int).toNat i.toNat) (t.extract (IntKind.i64.wrap (i + (1 : Int))).toNat ((t.size : Nat) : Int).toNat) w.drew) (
      N1 t (IntKind.i64.wrap (i + (1 : Int))) w)) (
    R t (ByteArray.mk #[]) w)) = kstep Try.prog 23 Try.f54.results.toList (Try.f54.body.getD .skip) (kvlaw_SplitBar.RV R) (kvc Try.prog 23 Try.f54.results.toList (Try.f54.body.getD .skip) (kvlaw_SplitBar.RV R) [([(0, [1, 0, 1, 0, 0]), (2, [1, 0, 1, 0, 0]), (1, [0]), (0, [1, 1])], fun σ w => dS (slotOf σ 0) fun t_ => dI .i64 (slotOf σ 4) fun i_ => N1 t_ i_ w)] 2000) [(0, [1, 0, 1, 0, 0]), (2, [1, 0, 1, 0, 0]), (1, [0]), (0, [1, 1])] [(0, .string t), (4, .int .i64 i)] w := by kernel_rfl
theorem kvlaw_SplitBar.L1b_sound {R : ByteArray → ByteArray → World → Prop} {N1 : ByteArray → Int → World → Prop} (hN1 : ∀ t i w, N1 t i w → KW Try.prog 54 23 (kvlaw_SplitBar.RV R) ([(0, [1, 0, 1, 0, 0]), (2, [1, 0, 1, 0, 0]), (1, [0]), (0, [1, 1])].map (toItem (Try.f54.body.getD .skip))) [(0, .string t), (4, .int .i64 i)] w) (t : ByteArray) (i : Int) (w : World) (h : kvlaw_SplitBar.L1b t i w  N1 R) :
    KW Try.prog 54 23 (kvlaw_SplitBar.RV R) ([(0, [1, 0, 1, 0, 0]), (2, [1, 0, 1, 0, 0]), (1, [0]), (0, [1, 1])].map (toItem (Try.f54.body.getD .skip))) [(0, .string t), (4, .int .i64 i)] w := by
  exact block_spec Try.func54 Try.mixed (stops_cons (fun σ w h => by
      obtain ⟨t_, e0, h⟩ := dS_elim h
      obtain ⟨i_, e1, h⟩ := dI_elim h
      exact (hN1 t_ i_ w h).weaken (Sub.cons (Sub.cons (Sub.nil _) e1) e0)) stops_nil) (Eq.mp (kvlaw_SplitBar.L1b_eq t i w  N1 R ) h)
def kvlaw_SplitBar.L1 (t : ByteArray) (i : Int) (w : World)  (R : ByteArray → ByteArray → World → Prop) : Prop :=
  ∃ (I : Nat → ByteArray → Int → World → Prop) (m : Nat), I m t i w ∧ ∀ m t i w, I m t i w → kvlaw_SplitBar.L1b t i w  (fun t' i' w' => ∃ m', m' < m ∧ I m' t' i' w') R
theorem kvlaw_SplitBar.L1_sound {R : ByteArray → ByteArray → World → Prop}  (t : ByteArray) (i : Int) (w : World) (h : kvlaw_SplitBar.L1 t i w  R) :
    KW Try.prog 54 23 (kvlaw_SplitBar.RV R) ([(0, [1, 0, 1, 0, 0]), (2, [1, 0, 1, 0, 0]), (1, [0]), (0, [1, 1])].map (toItem (Try.f54.body.getD .skip))) [(0, .string t), (4, .int .i64 i)] w := by
  obtain ⟨I, m, hBase, hr⟩ := h
  refine KW.loop (fun m σ w => ∃ (t : ByteArray) (i : Int), σ = [(0, .string t), (4, .int .i64 i)] ∧ I m t i w) ?_ m _ w ⟨t, i, rfl, hBase⟩
  rintro m ih σ w ⟨t, i, rfl, hI⟩
  exact kvlaw_SplitBar.L1b_sound  (N1 := fun t' i' w' => ∃ m', m' < m ∧ I m' t' i' w') (fun t' i' w' hx => by obtain ⟨m', hlt, hI'⟩ := hx; exact ih m' hlt _ w' ⟨t', i', rfl, hI'⟩) t i w (hr m t i w hI)
def kvlaw_SplitBar.B0 (t : ByteArray) (w : World)   (R : ByteArray → ByteArray → World → Prop) : Prop :=
  kvlaw_SplitBar.L1 t (0 : Int) w  R
theorem kvlaw_SplitBar.B0_eq (t : ByteArray) (w : World)   (R : ByteArray → ByteArray → World → Prop) (sL1 : ByteArray → Int → World → Prop) :
    (
  sL1 t (0 : Int) w) = kstep Try.prog 23 Try.f54.results.toList (Try.f54.body.getD .skip) (kvlaw_SplitBar.RV R) (kvc Try.prog 23 Try.f54.results.toList (Try.f54.body.getD .skip) (kvlaw_SplitBar.RV R) [([(0, [1, 0, 1, 0, 0]), (2, [1, 0, 1, 0, 0]), (1, [0]), (0, [1, 1])], fun σ w => dS (slotOf σ 0) fun t_ => dI .i64 (slotOf σ 4) fun i_ => sL1 t_ i_ w)] 2000) [(0, [])] [(0, .string t)] w := by kernel_rfl
theorem kvlaw_SplitBar.B0_sound {R : ByteArray → ByteArray → World → Prop}  (t : ByteArray) (w : World) (h : kvlaw_SplitBar.B0 t w   R) :
    KW Try.prog 54 23 (kvlaw_SplitBar.RV R) ([(0, [])].map (toItem (Try.f54.body.getD .skip))) [(0, .string t)] w := by
  exact block_spec Try.func54 Try.mixed (stops_cons (fun σ w h => by
      obtain ⟨t_, e0, h⟩ := dS_elim h
      obtain ⟨i_, e1, h⟩ := dI_elim h
      exact (kvlaw_SplitBar.L1_sound  t_ i_ w h).weaken (Sub.cons (Sub.cons (Sub.nil _) e1) e0)) stops_nil) (Eq.mp (kvlaw_SplitBar.B0_eq t w   R (fun t_ i_ w => kvlaw_SplitBar.L1 t_ i_ w  R)) h)
theorem kvlaw_SplitBar.sound (t : ByteArray) (w : World) (R : ByteArray → ByteArray → World → Prop) (h : kvlaw_SplitBar.B0 t w R) : kvlaw_SplitBar.Call t w R := by
  have hc := calls_of_block (args := #[.string t]) Try.func54 (body := (Try.f54.body.getD .skip)) (by kernel_rfl) (by kernel_rfl) (args_slot _) (kvlaw_SplitBar.B0_sound t w h)
  exact hc.mono fun e w' he => by
    obtain ⟨v, rfl, hv⟩ := he
    exact kvlaw_SplitBar.RV_elim hv
def api_CmdOK.B3 (c : Nat) (t65 : Bool) (w : World)   (R : Bool → World → Prop) : Prop :=
  Bm t65 (
    R false w) (
    LdI .i64 ⟨c, 0, none⟩ w fun x67 =>
    Bm (x67 == (4 : Int)) (
      R true w) (
      LdS ⟨c, 5, none⟩ w fun x71 =>
      R (x71.toList == (ByteArray.mk #[]).toList) w))
theorem api_CmdOK.B3_eq (c : Nat) (t65 : Bool) (w : World)   (R : Bool → World → Prop)  :
    (
  Bm t65 (
    R false w) (
    LdI .i64 ⟨c, 0, none⟩ w fun x67 =>
    Bm (x67 == (4 : Int)) (
      R true w) (
      LdS ⟨c, 5, none⟩ w fun x71 =>
      R (x71.toList == (ByteArray.mk #[]).toList) w))) = kstep Try.prog 74 Try.f55.results.toList (Try.f55.body.getD .skip) (api_CmdOK.RV R) (kvc Try.prog 74 Try.f55.results.toList (Try.f55.body.getD .skip) (api_CmdOK.RV R) [] 2000) [(0, [1, 1, 1, 0, 1]), (0, [1, 1, 1, 1])] [(1, .pointer (some ⟨c, 0, none⟩)), (65, .bool t65)] w := by kernel_rfl
theorem api_CmdOK.B3_sound {R : Bool → World → Prop}  (c : Nat) (t65 : Bool) (w : World) (h : api_CmdOK.B3 c t65 w   R) :
    KW Try.prog 55 74 (api_CmdOK.RV R) ([(0, [1, 1, 1, 0, 1]), (0, [1, 1, 1, 1])].map (toItem (Try.f55.body.getD .skip))) [(1, .pointer (some ⟨c, 0, none⟩)), (65, .bool t65)] w := by
  exact block_spec Try.func55 Try.mixed stops_nil (Eq.mp (api_CmdOK.B3_eq c t65 w   R ) h)
def api_CmdOK.B2 (c : Nat) (t52 : Bool) (w : World)   (R : Bool → World → Prop) : Prop :=
  Bm t52 (
    R false w) (
    LdI .i64 ⟨c, 0, none⟩ w fun x54 =>
    Bm (x54 == (2 : Int)) (
      LdS ⟨c, 4, none⟩ w fun x63 =>
      api_CmdOK.B3 c (!(x63.toList == (ByteArray.mk #[]).toList)) w  R) (
      LdI .i64 ⟨c, 0, none⟩ w fun x58 =>
      Bm (x58 == (3 : Int)) (
        LdS ⟨c, 4, none⟩ w fun x63_1 =>
        api_CmdOK.B3 c (!(x63_1.toList == (ByteArray.mk #[]).toList)) w  R) (
        api_CmdOK.B3 c false w  R)))
theorem api_CmdOK.B2_eq (c : Nat) (t52 : Bool) (w : World)   (R : Bool → World → Prop) (sB3 : Nat → Bool → World → Prop) :
    (
  Bm t52 (
    R false w) (
    LdI .i64 ⟨c, 0, none⟩ w fun x54 =>
    Bm (x54 == (2 : Int)) (
      LdS ⟨c, 4, none⟩ w fun x63 =>
      sB3 c (!(x63.toList == (ByteArray.mk #[]).toList)) w) (
      LdI .i64 ⟨c, 0, none⟩ w fun x58 =>
      Bm (x58 == (3 : Int)) (
        LdS ⟨c, 4, none⟩ w fun x63_1 =>
        sB3 c (!(x63_1.toList == (ByteArray.mk #[]).toList)) w) (
        sB3 c false w)))) = kstep Try.prog 74 Try.f55.results.toList (Try.f55.body.getD .skip) (api_CmdOK.RV R) (kvc Try.prog 74 Try.f55.results.toList (Try.f55.body.getD .skip) (api_CmdOK.RV R) [([(0, [1, 1, 1, 0, 1]), (0, [1, 1, 1, 1])], fun σ w => dK (slotOf σ 1) fun c_ => dB (slotOf σ 65) fun t65_ => sB3 c_ t65_ w)] 2000) [(0, [1, 1, 0, 1]), (0, [1, 1, 1])] [(1, .pointer (some ⟨c, 0, none⟩)), (52, .bool t52)] w := by kernel_rfl
theorem api_CmdOK.B2_sound {R : Bool → World → Prop}  (c : Nat) (t52 : Bool) (w : World) (h : api_CmdOK.B2 c t52 w   R) :
    KW Try.prog 55 74 (api_CmdOK.RV R) ([(0, [1, 1, 0, 1]), (0, [1, 1, 1])].map (toItem (Try.f55.body.getD .skip))) [(1, .pointer (some ⟨c, 0, none⟩)), (52, .bool t52)] w := by
  exact block_spec Try.func55 Try.mixed (stops_cons (fun σ w h => by
      obtain ⟨c_, e0, h⟩ := dK_elim h
      obtain ⟨t65_, e1, h⟩ := dB_elim h
      exact (api_CmdOK.B3_sound  c_ t65_ w h).weaken (Sub.cons (Sub.cons (Sub.nil _) e1) e0)) stops_nil) (Eq.mp (api_CmdOK.B2_eq c t52 w   R (fun c_ t65_ w => api_CmdOK.B3 c_ t65_ w  R)) h)
def api_CmdOK.B1 (c : Nat) (t30 : Bool) (w : World)   (R : Bool → World → Prop) : Prop :=
  Bm t30 (
    R false w) (
    LdS ⟨c, 3, none⟩ w fun x32 =>
    Bm (decide (((x32.size : Nat) : Int) < (1 : Int))) (
      api_CmdOK.B2 c true w  R) (
      LdS ⟨c, 3, none⟩ w fun x37 =>
      Bm (decide (((x37.size : Nat) : Int) > (2 : Int))) (
        api_CmdOK.B2 c true w  R) (
        LdS ⟨c, 4, none⟩ w fun x43 =>
        Bm (decide (((x43.size : Nat) : Int) > (3 : Int))) (
          api_CmdOK.B2 c true w  R) (
          LdS ⟨c, 5, none⟩ w fun x49 =>
          api_CmdOK.B2 c (decide (((x49.size : Nat) : Int) > (3 : Int))) w  R))))
theorem api_CmdOK.B1_eq (c : Nat) (t30 : Bool) (w : World)   (R : Bool → World → Prop) (sB2 : Nat → Bool → World → Prop) :
    (
  Bm t30 (
    R false w) (
    LdS ⟨c, 3, none⟩ w fun x32 =>
    Bm (decide (((x32.size : Nat) : Int) < (1 : Int))) (
      sB2 c true w) (
      LdS ⟨c, 3, none⟩ w fun x37 =>
      Bm (decide (((x37.size : Nat) : Int) > (2 : Int))) (
        sB2 c true w) (
        LdS ⟨c, 4, none⟩ w fun x43 =>
        Bm (decide (((x43.size : Nat) : Int) > (3 : Int))) (
          sB2 c true w) (
          LdS ⟨c, 5, none⟩ w fun x49 =>
          sB2 c (decide (((x49.size : Nat) : Int) > (3 : Int))) w))))) = kstep Try.prog 74 Try.f55.results.toList (Try.f55.body.getD .skip) (api_CmdOK.RV R) (kvc Try.prog 74 Try.f55.results.toList (Try.f55.body.getD .skip) (api_CmdOK.RV R) [([(0, [1, 1, 0, 1]), (0, [1, 1, 1])], fun σ w => dK (slotOf σ 1) fun c_ => dB (slotOf σ 52) fun t52_ => sB2 c_ t52_ w)] 2000) [(0, [1, 0, 1]), (0, [1, 1])] [(1, .pointer (some ⟨c, 0, none⟩)), (30, .bool t30)] w := by kernel_rfl
theorem api_CmdOK.B1_sound {R : Bool → World → Prop}  (c : Nat) (t30 : Bool) (w : World) (h : api_CmdOK.B1 c t30 w   R) :
    KW Try.prog 55 74 (api_CmdOK.RV R) ([(0, [1, 0, 1]), (0, [1, 1])].map (toItem (Try.f55.body.getD .skip))) [(1, .pointer (some ⟨c, 0, none⟩)), (30, .bool t30)] w := by
  exact block_spec Try.func55 Try.mixed (stops_cons (fun σ w h => by
      obtain ⟨c_, e0, h⟩ := dK_elim h
      obtain ⟨t52_, e1, h⟩ := dB_elim h
      exact (api_CmdOK.B2_sound  c_ t52_ w h).weaken (Sub.cons (Sub.cons (Sub.nil _) e1) e0)) stops_nil) (Eq.mp (api_CmdOK.B1_eq c t30 w   R (fun c_ t52_ w => api_CmdOK.B2 c_ t52_ w  R)) h)
def api_CmdOK.B0 (c_0 c_1 c_2 : Int) (c_3 c_4 c_5 : ByteArray) (w : World)   (R : Bool → World → Prop) : Prop :=
  New (.cells #[.int .i64 c_0, .int .i64 c_1, .int .i64 c_2, .string c_3, .string c_4, .string c_5] 71) w fun c_ w1 =>
  LdI .i64 ⟨c_, 0, none⟩ w1 fun x4 =>
  Bm (decide (x4 < (1 : Int))) (
    api_CmdOK.B1 c_ true w1  R) (
    LdI .i64 ⟨c_, 0, none⟩ w1 fun x8 =>
    Bm (decide (x8 > (4 : Int))) (
      api_CmdOK.B1 c_ true w1  R) (
      LdI .i64 ⟨c_, 1, none⟩ w1 fun x13 =>
      Bm (decide (x13 < (0 : Int))) (
        api_CmdOK.B1 c_ true w1  R) (
        LdI .i64 ⟨c_, 1, none⟩ w1 fun x18 =>
        Bm (decide (x18 ≥ (3 : Int))) (
          api_CmdOK.B1 c_ true w1  R) (
          LdI .i64 ⟨c_, 2, none⟩ w1 fun x23 =>
          Bm (decide (x23 < (1 : Int))) (
            api_CmdOK.B1 c_ true w1  R) (
            LdI .i64 ⟨c_, 2, none⟩ w1 fun x28 =>
            api_CmdOK.B1 c_ (decide (x28 > (72057594037927936 : Int))) w1  R)))))
theorem api_CmdOK.B0_eq (c_0 c_1 c_2 : Int) (c_3 c_4 c_5 : ByteArray) (w : World)   (R : Bool → World → Prop) (sB1 : Nat → Bool → World → Prop) :
    (
  New (.cells #[.int .i64 c_0, .int .i64 c_1, .int .i64 c_2, .string c_3, .string c_4, .string c_5] 71) w fun c_ w1 =>
  LdI .i64 ⟨c_, 0, none⟩ w1 fun x4 =>
  Bm (decide (x4 < (1 : Int))) (
    sB1 c_ true w1) (
    LdI .i64 ⟨c_, 0, none⟩ w1 fun x8 =>
    Bm (decide (x8 > (4 : Int))) (
      sB1 c_ true w1) (
      LdI .i64 ⟨c_, 1, none⟩ w1 fun x13 =>
      Bm (decide (x13 < (0 : Int))) (
        sB1 c_ true w1) (
        LdI .i64 ⟨c_, 1, none⟩ w1 fun x18 =>
        Bm (decide (x18 ≥ (3 : Int))) (
          sB1 c_ true w1) (
          LdI .i64 ⟨c_, 2, none⟩ w1 fun x23 =>
          Bm (decide (x23 < (1 : Int))) (
            sB1 c_ true w1) (
            LdI .i64 ⟨c_, 2, none⟩ w1 fun x28 =>
            sB1 c_ (decide (x28 > (72057594037927936 : Int))) w1)))))) = kstep Try.prog 74 Try.f55.results.toList (Try.f55.body.getD .skip) (api_CmdOK.RV R) (kvc Try.prog 74 Try.f55.results.toList (Try.f55.body.getD .skip) (api_CmdOK.RV R) [([(0, [1, 0, 1]), (0, [1, 1])], fun σ w => dK (slotOf σ 1) fun c_ => dB (slotOf σ 30) fun t30_ => sB1 c_ t30_ w)] 2000) [(0, [])] [(0, .agg #[.int .i64 c_0, .int .i64 c_1, .int .i64 c_2, .string c_3, .string c_4, .string c_5])] w := by kernel_rfl
theorem api_CmdOK.B0_sound {R : Bool → World → Prop}  (c_0 c_1 c_2 : Int) (c_3 c_4 c_5 : ByteArray) (w : World) (h : api_CmdOK.B0 c_0 c_1 c_2 c_3 c_4 c_5 w   R) :
    KW Try.prog 55 74 (api_CmdOK.RV R) ([(0, [])].map (toItem (Try.f55.body.getD .skip))) [(0, .agg #[.int .i64 c_0, .int .i64 c_1, .int .i64 c_2, .string c_3, .string c_4, .string c_5])] w := by
  exact block_spec Try.func55 Try.mixed (stops_cons (fun σ w h => by
      obtain ⟨c_, e0, h⟩ := dK_elim h
      obtain ⟨t30_, e1, h⟩ := dB_elim h
      exact (api_CmdOK.B1_sound  c_ t30_ w h).weaken (Sub.cons (Sub.cons (Sub.nil _) e1) e0)) stops_nil) (Eq.mp (api_CmdOK.B0_eq c_0 c_1 c_2 c_3 c_4 c_5 w   R (fun c_ t30_ w => api_CmdOK.B1 c_ t30_ w  R)) h)
theorem api_CmdOK.sound (c_0 c_1 c_2 : Int) (c_3 c_4 c_5 : ByteArray) (w : World) (R : Bool → World → Prop) (h : api_CmdOK.B0 c_0 c_1 c_2 c_3 c_4 c_5 w R) : api_CmdOK.Call c_0 c_1 c_2 c_3 c_4 c_5 w R := by
  have hc := calls_of_block (args := #[.agg #[.int .i64 c_0, .int .i64 c_1, .int .i64 c_2, .string c_3, .string c_4, .string c_5]]) Try.func55 (body := (Try.f55.body.getD .skip)) (by kernel_rfl) (by kernel_rfl) (args_slot _) (api_CmdOK.B0_sound c_0 c_1 c_2 c_3 c_4 c_5 w h)
  exact hc.mono fun e w' he => by
    obtain ⟨v, rfl, hv⟩ := he
    exact api_CmdOK.RV_elim hv
def api_putStr.L1b (b_b : Option Addr) (b_l b_c : Nat) (s : ByteArray) (i : Int) (w : World)  (N1 : Option Addr → Nat → Nat → ByteArray → Int → World → Prop) (R : Option Addr → Nat → Nat → World → Prop) : Prop :=
  Bm (decide (i < ((s.size : Nat) : Int))) (
    (0 ≤ i ∧ i < ((s.size : Nat) : Int)) ∧
    New (.cells #[.int .u8 (byteAt s i)] 5) w fun b22 w1 =>
    Append 5 (.int .u8 (0 : Int)) 1 1 b_b b_l b_c (some ⟨b22, 0, none⟩) 1 w1 fun b23 c23 w2 =>
    N1 b23 (b_l + 1) c23 s (IntKind.i64.wrap (i + (1 : Int))) w2) (
    R b_b b_l b_c w)
theorem api_putStr.L1b_eq (b_b : Option Addr) (b_l b_c : Nat) (s : ByteArray) (i : Int) (w : World)  (N1 : Option Addr → Nat → Nat → ByteArray → Int → World → Prop) (R : Option Addr → Nat → Nat → World → Prop)  :
    (
  Bm (decide (i < ((s.size : Nat) : Int))) (
    (0 ≤ i ∧ i < ((s.size : Nat) : Int)) ∧
    New (.cells #[.int .u8 (byteAt s i)] 5) w fun b22 w1 =>
    Append 5 (.int .u8 (0 : Int)) 1 1 b_b b_l b_c (some ⟨b22, 0, none⟩) 1 w1 fun b23 c23 w2 =>
    N1 b23 (b_l + 1) c23 s (IntKind.i64.wrap (i + (1 : Int))) w2) (
    R b_b b_l b_c w)) = kstep Try.prog 25 Try.f56.results.toList (Try.f56.body.getD .skip) (api_putStr.RV R) (kvc Try.prog 25 Try.f56.results.toList (Try.f56.body.getD .skip) (api_putStr.RV R) [([(0, [1, 1, 0, 1, 0, 0]), (2, [1, 1, 0, 1, 0, 0]), (1, [0]), (0, [1, 1, 1])], fun σ w => dL (slotOf σ 0) fun b_b_ b_l_ b_c_ => dS (slotOf σ 1) fun s_ => dI .i64 (slotOf σ 5) fun i_ => N1 b_b_ b_l_ b_c_ s_ i_ w)] 2000) [(0, [1, 1, 0, 1, 0, 0]), (2, [1, 1, 0, 1, 0, 0]), (1, [0]), (0, [1, 1, 1])] [(0, .slice b_b b_l b_c), (1, .string s), (5, .int .i64 i)] w := by kernel_rfl
theorem api_putStr.L1b_sound {R : Option Addr → Nat → Nat → World → Prop} {N1 : Option Addr → Nat → Nat → ByteArray → Int → World → Prop} (hN1 : ∀ b_b b_l b_c s i w, N1 b_b b_l b_c s i w → KW Try.prog 56 25 (api_putStr.RV R) ([(0, [1, 1, 0, 1, 0, 0]), (2, [1, 1, 0, 1, 0, 0]), (1, [0]), (0, [1, 1, 1])].map (toItem (Try.f56.body.getD .skip))) [(0, .slice b_b b_l b_c), (1, .string s), (5, .int .i64 i)] w) (b_b : Option Addr) (b_l b_c : Nat) (s : ByteArray) (i : Int) (w : World) (h : api_putStr.L1b b_b b_l b_c s i w  N1 R) :
    KW Try.prog 56 25 (api_putStr.RV R) ([(0, [1, 1, 0, 1, 0, 0]), (2, [1, 1, 0, 1, 0, 0]), (1, [0]), (0, [1, 1, 1])].map (toItem (Try.f56.body.getD .skip))) [(0, .slice b_b b_l b_c), (1, .string s), (5, .int .i64 i)] w := by
  exact block_spec Try.func56 Try.mixed (stops_cons (fun σ w h => by
      obtain ⟨b_b_, b_l_, b_c_, e0, h⟩ := dL_elim h
      obtain ⟨s_, e1, h⟩ := dS_elim h
      obtain ⟨i_, e2, h⟩ := dI_elim h
      exact (hN1 b_b_ b_l_ b_c_ s_ i_ w h).weaken (Sub.cons (Sub.cons (Sub.cons (Sub.nil _) e2) e1) e0)) stops_nil) (Eq.mp (api_putStr.L1b_eq b_b b_l b_c s i w  N1 R ) h)
def api_putStr.L1 (b_b : Option Addr) (b_l b_c : Nat) (s : ByteArray) (i : Int) (w : World)  (R : Option Addr → Nat → Nat → World → Prop) : Prop :=
  ∃ (I : Nat → Option Addr → Nat → Nat → ByteArray → Int → World → Prop) (m : Nat), I m b_b b_l b_c s i w ∧ ∀ m b_b b_l b_c s i w, I m b_b b_l b_c s i w → api_putStr.L1b b_b b_l b_c s i w  (fun b_b' b_l' b_c' s' i' w' => ∃ m', m' < m ∧ I m' b_b' b_l' b_c' s' i' w') R
theorem api_putStr.L1_sound {R : Option Addr → Nat → Nat → World → Prop}  (b_b : Option Addr) (b_l b_c : Nat) (s : ByteArray) (i : Int) (w : World) (h : api_putStr.L1 b_b b_l b_c s i w  R) :
    KW Try.prog 56 25 (api_putStr.RV R) ([(0, [1, 1, 0, 1, 0, 0]), (2, [1, 1, 0, 1, 0, 0]), (1, [0]), (0, [1, 1, 1])].map (toItem (Try.f56.body.getD .skip))) [(0, .slice b_b b_l b_c), (1, .string s), (5, .int .i64 i)] w := by
  obtain ⟨I, m, hBase, hr⟩ := h
  refine KW.loop (fun m σ w => ∃ (b_b : Option Addr) (b_l b_c : Nat) (s : ByteArray) (i : Int), σ = [(0, .slice b_b b_l b_c), (1, .string s), (5, .int .i64 i)] ∧ I m b_b b_l b_c s i w) ?_ m _ w ⟨b_b, b_l, b_c, s, i, rfl, hBase⟩
  rintro m ih σ w ⟨b_b, b_l, b_c, s, i, rfl, hI⟩
  exact api_putStr.L1b_sound  (N1 := fun b_b' b_l' b_c' s' i' w' => ∃ m', m' < m ∧ I m' b_b' b_l' b_c' s' i' w') (fun b_b' b_l' b_c' s' i' w' hx => by obtain ⟨m', hlt, hI'⟩ := hx; exact ih m' hlt _ w' ⟨b_b', b_l', b_c', s', i', rfl, hI'⟩) b_b b_l b_c s i w (hr m b_b b_l b_c s i w hI)
def api_putStr.B0 (b_b : Option Addr) (b_l b_c : Nat) (s : ByteArray) (w : World)   (R : Option Addr → Nat → Nat → World → Prop) : Prop :=
  New (.cells #[.int .u8 (IntKind.u8.wrap ((s.size : Nat) : Int))] 5) w fun b10 w1 =>
  Append 5 (.int .u8 (0 : Int)) 1 1 b_b b_l b_c (some ⟨b10, 0, none⟩) 1 w1 fun b11 c11 w2 =>
  api_putStr.L1 b11 (b_l + 1) c11 s (0 : Int) w2  R
theorem api_putStr.B0_eq (b_b : Option Addr) (b_l b_c : Nat) (s : ByteArray) (w : World)   (R : Option Addr → Nat → Nat → World → Prop) (sL1 : Option Addr → Nat → Nat → ByteArray → Int → World → Prop) :
    (
  New (.cells #[.int .u8 (IntKind.u8.wrap ((s.size : Nat) : Int))] 5) w fun b10 w1 =>
  Append 5 (.int .u8 (0 : Int)) 1 1 b_b b_l b_c (some ⟨b10, 0, none⟩) 1 w1 fun b11 c11 w2 =>
  sL1 b11 (b_l + 1) c11 s (0 : Int) w2) = kstep Try.prog 25 Try.f56.results.toList (Try.f56.body.getD .skip) (api_putStr.RV R) (kvc Try.prog 25 Try.f56.results.toList (Try.f56.body.getD .skip) (api_putStr.RV R) [([(0, [1, 1, 0, 1, 0, 0]), (2, [1, 1, 0, 1, 0, 0]), (1, [0]), (0, [1, 1, 1])], fun σ w => dL (slotOf σ 0) fun b_b_ b_l_ b_c_ => dS (slotOf σ 1) fun s_ => dI .i64 (slotOf σ 5) fun i_ => sL1 b_b_ b_l_ b_c_ s_ i_ w)] 2000) [(0, [])] [(0, .slice b_b b_l b_c), (1, .string s)] w := by kernel_rfl
theorem api_putStr.B0_sound {R : Option Addr → Nat → Nat → World → Prop}  (b_b : Option Addr) (b_l b_c : Nat) (s : ByteArray) (w : World) (h : api_putStr.B0 b_b b_l b_c s w   R) :
    KW Try.prog 56 25 (api_putStr.RV R) ([(0, [])].map (toItem (Try.f56.body.getD .skip))) [(0, .slice b_b b_l b_c), (1, .string s)] w := by
  exact block_spec Try.func56 Try.mixed (stops_cons (fun σ w h => by
      obtain ⟨b_b_, b_l_, b_c_, e0, h⟩ := dL_elim h
      obtain ⟨s_, e1, h⟩ := dS_elim h
      obtain ⟨i_, e2, h⟩ := dI_elim h
      exact (api_putStr.L1_sound  b_b_ b_l_ b_c_ s_ i_ w h).weaken (Sub.cons (Sub.cons (Sub.cons (Sub.nil _) e2) e1) e0)) stops_nil) (Eq.mp (api_putStr.B0_eq b_b b_l b_c s w   R (fun b_b_ b_l_ b_c_ s_ i_ w => api_putStr.L1 b_b_ b_l_ b_c_ s_ i_ w  R)) h)
theorem api_putStr.sound (b_b : Option Addr) (b_l b_c : Nat) (s : ByteArray) (w : World) (R : Option Addr → Nat → Nat → World → Prop) (h : api_putStr.B0 b_b b_l b_c s w R) : api_putStr.Call b_b b_l b_c s w R := by
  have hc := calls_of_block (args := #[.slice b_b b_l b_c, .string s]) Try.func56 (body := (Try.f56.body.getD .skip)) (by kernel_rfl) (by kernel_rfl) (args_slot _) (api_putStr.B0_sound b_b b_l b_c s w h)
  exact hc.mono fun e w' he => by
    obtain ⟨v, rfl, hv⟩ := he
    exact api_putStr.RV_elim hv
def kv_KV_KeyAt.B1 (k : Option Addr) (i : Int) (t20 : Bool) (w : World)   (R : ByteArray → World → Prop) : Prop :=
  Bm t20 (
    R (ByteArray.mk #[]) w) (
    Pn k fun a =>
    kv_table_sorted.Call (some a) w fun r24_0 r24_1 r24_2 r24_3 w1 =>
    New (.cells #[.int .i64 (0 : Int), .int .i64 (0 : Int), .int .i64 (0 : Int), .int .i64 (0 : Int)] 61) w1 fun at0_ w2 =>
    Sts [.int .i64 r24_0, .int .i64 r24_1, .int .i64 r24_2, .int .i64 r24_3] ⟨at0_, 0, none⟩ 0 w2 fun w3 =>
    (0 ≤ i ∧ i < ((4 : Nat) : Int)) ∧
    LdI .i64 (Addr.add ⟨at0_, 0, none⟩ (i.toNat * 1)) w3.drew fun x28 =>
    Pn k fun a_1 =>
    (0 ≤ x28 ∧ x28 < ((8 : Nat) : Int)) ∧
    LdI .i64 (Addr.add a_1 (x28.toNat * 8)) w3.drew fun x33_0 =>
    LdI .i64 ((Addr.add a_1 (x28.toNat * 8)).add 1) w3.drew fun x33_1 =>
    LdI .u8 ((Addr.add a_1 (x28.toNat * 8)).add 2) w3.drew fun x33_2 =>
    LdI .u8 ((Addr.add a_1 (x28.toNat * 8)).add 3) w3.drew fun x33_3 =>
    LdI .i64 ((Addr.add a_1 (x28.toNat * 8)).add 4) w3.drew fun x33_4 =>
    LdI .u8 ((Addr.add a_1 (x28.toNat * 8)).add 5) w3.drew fun x33_5 =>
    LdI .u8 ((Addr.add a_1 (x28.toNat * 8)).add 6) w3.drew fun x33_6 =>
    LdI .u8 ((Addr.add a_1 (x28.toNat * 8)).add 7) w3.drew fun x33_7 =>
    kv_keyOf.Call x33_0 x33_1 x33_2 x33_3 x33_4 x33_5 x33_6 x33_7 w3.drew fun r34 w4 =>
    R r34 w4)
theorem kv_KV_KeyAt.B1_eq (k : Option Addr) (i : Int) (t20 : Bool) (w : World)   (R : ByteArray → World → Prop)  :
    (
  Bm t20 (
    R (ByteArray.mk #[]) w) (
    Pn k fun a =>
    kv_table_sorted.Call (some a) w fun r24_0 r24_1 r24_2 r24_3 w1 =>
    New (.cells #[.int .i64 (0 : Int), .int .i64 (0 : Int), .int .i64 (0 : Int), .int .i64 (0 : Int)] 61) w1 fun at0_ w2 =>
    Sts [.int .i64 r24_0, .int .i64 r24_1, .int .i64 r24_2, .int .i64 r24_3] ⟨at0_, 0, none⟩ 0 w2 fun w3 =>
    (0 ≤ i ∧ i < ((4 : Nat) : Int)) ∧
    LdI .i64 (Addr.add ⟨at0_, 0, none⟩ (i.toNat * 1)) w3.drew fun x28 =>
    Pn k fun a_1 =>
    (0 ≤ x28 ∧ x28 < ((8 : Nat) : Int)) ∧
    LdI .i64 (Addr.add a_1 (x28.toNat * 8)) w3.drew fun x33_0 =>
    LdI .i64 ((Addr.add a_1 (x28.toNat * 8)).add 1) w3.drew fun x33_1 =>
    LdI .u8 ((Addr.add a_1 (x28.toNat * 8)).add 2) w3.drew fun x33_2 =>
    LdI .u8 ((Addr.add a_1 (x28.toNat * 8)).add 3) w3.drew fun x33_3 =>
    LdI .i64 ((Addr.add a_1 (x28.toNat * 8)).add 4) w3.drew fun x33_4 =>
    LdI .u8 ((Addr.add a_1 (x28.toNat * 8)).add 5) w3.drew fun x33_5 =>
    LdI .u8 ((Addr.add a_1 (x28.toNat * 8)).add 6) w3.drew fun x33_6 =>
    LdI .u8 ((Addr.add a_1 (x28.toNat * 8)).add 7) w3.drew fun x33_7 =>
    kv_keyOf.Call x33_0 x33_1 x33_2 x33_3 x33_4 x33_5 x33_6 x33_7 w3.drew fun r34 w4 =>
    R r34 w4)) = kstep Try.prog 35 Try.f57.results.toList (Try.f57.body.getD .skip) (kv_KV_KeyAt.RV R) (kvc Try.prog 35 Try.f57.results.toList (Try.f57.body.getD .skip) (kv_KV_KeyAt.RV R) [] 2000) [(0, [1, 0, 1]), (0, [1, 1])] [(0, .pointer k), (1, .int .i64 i), (20, .bool t20)] w := by kernel_rfl
theorem kv_KV_KeyAt.B1_sound {R : ByteArray → World → Prop}  (k : Option Addr) (i : Int) (t20 : Bool) (w : World) (h : kv_KV_KeyAt.B1 k i t20 w   R) :
    KW Try.prog 57 35 (kv_KV_KeyAt.RV R) ([(0, [1, 0, 1]), (0, [1, 1])].map (toItem (Try.f57.body.getD .skip))) [(0, .pointer k), (1, .int .i64 i), (20, .bool t20)] w := by
  exact block_spec Try.func57 Try.mixed stops_nil (Eq.mp (kv_KV_KeyAt.B1_eq k i t20 w   R ) h)
def kv_KV_KeyAt.B0 (k : Option Addr) (i : Int) (w : World)   (R : ByteArray → World → Prop) : Prop :=
  Bm (decide (i < (0 : Int))) (
    kv_KV_KeyAt.B1 k i true w  R) (
    Pn k fun a =>
    LdI .i64 (a.add 64) w fun x14 =>
    Bm (decide (i ≥ x14)) (
      kv_KV_KeyAt.B1 k i true w  R) (
      kv_KV_KeyAt.B1 k i (decide (i ≥ (4 : Int))) w  R))
theorem kv_KV_KeyAt.B0_eq (k : Option Addr) (i : Int) (w : World)   (R : ByteArray → World → Prop) (sB1 : Option Addr → Int → Bool → World → Prop) :
    (
  Bm (decide (i < (0 : Int))) (
    sB1 k i true w) (
    Pn k fun a =>
    LdI .i64 (a.add 64) w fun x14 =>
    Bm (decide (i ≥ x14)) (
      sB1 k i true w) (
      sB1 k i (decide (i ≥ (4 : Int))) w))) = kstep Try.prog 35 Try.f57.results.toList (Try.f57.body.getD .skip) (kv_KV_KeyAt.RV R) (kvc Try.prog 35 Try.f57.results.toList (Try.f57.body.getD .skip) (kv_KV_KeyAt.RV R) [([(0, [1, 0, 1]), (0, [1, 1])], fun σ w => dP (slotOf σ 0) fun k_ => dI .i64 (slotOf σ 1) fun i_ => dB (slotOf σ 20) fun t20_ => sB1 k_ i_ t20_ w)] 2000) [(0, [])] [(0, .pointer k), (1, .int .i64 i)] w := by kernel_rfl
theorem kv_KV_KeyAt.B0_sound {R : ByteArray → World → Prop}  (k : Option Addr) (i : Int) (w : World) (h : kv_KV_KeyAt.B0 k i w   R) :
    KW Try.prog 57 35 (kv_KV_KeyAt.RV R) ([(0, [])].map (toItem (Try.f57.body.getD .skip))) [(0, .pointer k), (1, .int .i64 i)] w := by
  exact block_spec Try.func57 Try.mixed (stops_cons (fun σ w h => by
      obtain ⟨k_, e0, h⟩ := dP_elim h
      obtain ⟨i_, e1, h⟩ := dI_elim h
      obtain ⟨t20_, e2, h⟩ := dB_elim h
      exact (kv_KV_KeyAt.B1_sound  k_ i_ t20_ w h).weaken (Sub.cons (Sub.cons (Sub.cons (Sub.nil _) e2) e1) e0)) stops_nil) (Eq.mp (kv_KV_KeyAt.B0_eq k i w   R (fun k_ i_ t20_ w => kv_KV_KeyAt.B1 k_ i_ t20_ w  R)) h)
theorem kv_KV_KeyAt.sound (k : Option Addr) (i : Int) (w : World) (R : ByteArray → World → Prop) (h : kv_KV_KeyAt.B0 k i w R) : kv_KV_KeyAt.Call k i w R := by
  have hc := calls_of_block (args := #[.pointer k, .int .i64 i]) Try.func57 (body := (Try.f57.body.getD .skip)) (by kernel_rfl) (by kernel_rfl) (args_slot _) (kv_KV_KeyAt.B0_sound k i w h)
  exact hc.mono fun e w' he => by
    obtain ⟨v, rfl, hv⟩ := he
    exact kv_KV_KeyAt.RV_elim hv
def kv_KV_Len.B0 (k : Option Addr) (w : World)   (R : Int → World → Prop) : Prop :=
  Pn k fun a =>
  LdI .i64 (a.add 64) w fun x7 =>
  R x7 w
theorem kv_KV_Len.B0_eq (k : Option Addr) (w : World)   (R : Int → World → Prop)  :
    (
  Pn k fun a =>
  LdI .i64 (a.add 64) w fun x7 =>
  R x7 w) = kstep Try.prog 8 Try.f58.results.toList (Try.f58.body.getD .skip) (kv_KV_Len.RV R) (kvc Try.prog 8 Try.f58.results.toList (Try.f58.body.getD .skip) (kv_KV_Len.RV R) [] 2000) [(0, [])] [(0, .pointer k)] w := by kernel_rfl
theorem kv_KV_Len.B0_sound {R : Int → World → Prop}  (k : Option Addr) (w : World) (h : kv_KV_Len.B0 k w   R) :
    KW Try.prog 58 8 (kv_KV_Len.RV R) ([(0, [])].map (toItem (Try.f58.body.getD .skip))) [(0, .pointer k)] w := by
  exact block_spec Try.func58 Try.mixed stops_nil (Eq.mp (kv_KV_Len.B0_eq k w   R ) h)
theorem kv_KV_Len.sound (k : Option Addr) (w : World) (R : Int → World → Prop) (h : kv_KV_Len.B0 k w R) : kv_KV_Len.Call k w R := by
  have hc := calls_of_block (args := #[.pointer k]) Try.func58 (body := (Try.f58.body.getD .skip)) (by kernel_rfl) (by kernel_rfl) (args_slot _) (kv_KV_Len.B0_sound k w h)
  exact hc.mono fun e w' he => by
    obtain ⟨v, rfl, hv⟩ := he
    exact kv_KV_Len.RV_elim hv
def kv_KV_Check.B3 (k : Option Addr) (live tombs i : Int) (w : World) (N1 : Option Addr → Int → Int → Int → World → Prop)  (R : ByteArray → World → Prop) : Prop :=
  N1 k live tombs (IntKind.i64.wrap (i + (1 : Int))) w
theorem kv_KV_Check.B3_eq (k : Option Addr) (live tombs i : Int) (w : World) (N1 : Option Addr → Int → Int → Int → World → Prop)  (R : ByteArray → World → Prop)  :
    (
  N1 k live tombs (IntKind.i64.wrap (i + (1 : Int))) w) = kstep Try.prog 86 Try.f59.results.toList (Try.f59.body.getD .skip) (kv_KV_Check.RV R) (kvc Try.prog 86 Try.f59.results.toList (Try.f59.body.getD .skip) (kv_KV_Check.RV R) [([(0, [1, 1, 0, 1, 0, 0]), (2, [1, 1, 0, 1, 0, 0]), (1, [0]), (0, [1, 1, 1])], fun σ w => dP (slotOf σ 0) fun k_ => dI .i64 (slotOf σ 3) fun live_ => dI .i64 (slotOf σ 4) fun tombs_ => dI .i64 (slotOf σ 5) fun i_ => N1 k_ live_ tombs_ i_ w)] 2000) [(0, [1, 1, 0, 1, 0, 0, 1, 1]), (2, [1, 1, 0, 1, 0, 0]), (1, [0]), (0, [1, 1, 1])] [(0, .pointer k), (3, .int .i64 live), (4, .int .i64 tombs), (5, .int .i64 i)] w := by kernel_rfl
theorem kv_KV_Check.B3_sound {R : ByteArray → World → Prop} {N1 : Option Addr → Int → Int → Int → World → Prop} (hN1 : ∀ k live tombs i w, N1 k live tombs i w → KW Try.prog 59 86 (kv_KV_Check.RV R) ([(0, [1, 1, 0, 1, 0, 0]), (2, [1, 1, 0, 1, 0, 0]), (1, [0]), (0, [1, 1, 1])].map (toItem (Try.f59.body.getD .skip))) [(0, .pointer k), (3, .int .i64 live), (4, .int .i64 tombs), (5, .int .i64 i)] w) (k : Option Addr) (live tombs i : Int) (w : World) (h : kv_KV_Check.B3 k live tombs i w N1  R) :
    KW Try.prog 59 86 (kv_KV_Check.RV R) ([(0, [1, 1, 0, 1, 0, 0, 1, 1]), (2, [1, 1, 0, 1, 0, 0]), (1, [0]), (0, [1, 1, 1])].map (toItem (Try.f59.body.getD .skip))) [(0, .pointer k), (3, .int .i64 live), (4, .int .i64 tombs), (5, .int .i64 i)] w := by
  exact block_spec Try.func59 Try.mixed (stops_cons (fun σ w h => by
      obtain ⟨k_, e0, h⟩ := dP_elim h
      obtain ⟨live_, e1, h⟩ := dI_elim h
      obtain ⟨tombs_, e2, h⟩ := dI_elim h
      obtain ⟨i_, e3, h⟩ := dI_elim h
      exact (hN1 k_ live_ tombs_ i_ w h).weaken (Sub.cons (Sub.cons (Sub.cons (Sub.cons (Sub.nil _) e3) e2) e1) e0)) stops_nil) (Eq.mp (kv_KV_Check.B3_eq k live tombs i w N1  R ) h)
def kv_KV_Check.B1 (k : Option Addr) (live tombs i : Int) (c : Nat) (w : World) (N1 : Option Addr → Int → Int → Int → World → Prop)  (R : ByteArray → World → Prop) : Prop :=
  LdI .i64 ⟨c, 0, none⟩ w fun x34 =>
  Bm (x34 == (1 : Int)) (
    LdI .i64 ⟨c, 0, none⟩ w fun x38_0 =>
    LdI .i64 ⟨c, 1, none⟩ w fun x38_1 =>
    LdI .u8 ⟨c, 2, none⟩ w fun x38_2 =>
    LdI .u8 ⟨c, 3, none⟩ w fun x38_3 =>
    LdI .i64 ⟨c, 4, none⟩ w fun x38_4 =>
    LdI .u8 ⟨c, 5, none⟩ w fun x38_5 =>
    LdI .u8 ⟨c, 6, none⟩ w fun x38_6 =>
    LdI .u8 ⟨c, 7, none⟩ w fun x38_7 =>
    kv_keyOf.Call x38_0 x38_1 x38_2 x38_3 x38_4 x38_5 x38_6 x38_7 w fun r39 w1 =>
    Pn k fun a =>
    kv_table_find.Call (some a) r39 w1 fun r44 w2 =>
    Bm (r44 != i) (
      R (ByteArray.mk #[97, 32, 108, 105, 118, 101, 32, 107, 101, 121, 32, 105, 115, 32, 110, 111, 116, 32, 102, 111, 117, 110, 100, 32, 98, 121, 32, 105, 116, 115, 32, 119, 97, 108, 107]) w2) (
      kv_KV_Check.B3 k (IntKind.i64.wrap (live + (1 : Int))) tombs i w2 N1 R)) (
    kv_KV_Check.B3 k live tombs i w N1 R)
theorem kv_KV_Check.B1_eq (k : Option Addr) (live tombs i : Int) (c : Nat) (w : World) (N1 : Option Addr → Int → Int → Int → World → Prop)  (R : ByteArray → World → Prop) (sB3 : Option Addr → Int → Int → Int → World → Prop) :
    (
  LdI .i64 ⟨c, 0, none⟩ w fun x34 =>
  Bm (x34 == (1 : Int)) (
    LdI .i64 ⟨c, 0, none⟩ w fun x38_0 =>
    LdI .i64 ⟨c, 1, none⟩ w fun x38_1 =>
    LdI .u8 ⟨c, 2, none⟩ w fun x38_2 =>
    LdI .u8 ⟨c, 3, none⟩ w fun x38_3 =>
    LdI .i64 ⟨c, 4, none⟩ w fun x38_4 =>
    LdI .u8 ⟨c, 5, none⟩ w fun x38_5 =>
    LdI .u8 ⟨c, 6, none⟩ w fun x38_6 =>
    LdI .u8 ⟨c, 7, none⟩ w fun x38_7 =>
    kv_keyOf.Call x38_0 x38_1 x38_2 x38_3 x38_4 x38_5 x38_6 x38_7 w fun r39 w1 =>
    Pn k fun a =>
    kv_table_find.Call (some a) r39 w1 fun r44 w2 =>
    Bm (r44 != i) (
      R (ByteArray.mk #[97, 32, 108, 105, 118, 101, 32, 107, 101, 121, 32, 105, 115, 32, 110, 111, 116, 32, 102, 111, 117, 110, 100, 32, 98, 121, 32, 105, 116, 115, 32, 119, 97, 108, 107]) w2) (
      sB3 k (IntKind.i64.wrap (live + (1 : Int))) tombs i w2)) (
    sB3 k live tombs i w)) = kstep Try.prog 86 Try.f59.results.toList (Try.f59.body.getD .skip) (kv_KV_Check.RV R) (kvc Try.prog 86 Try.f59.results.toList (Try.f59.body.getD .skip) (kv_KV_Check.RV R) [([(0, [1, 1, 0, 1, 0, 0, 1, 1]), (2, [1, 1, 0, 1, 0, 0]), (1, [0]), (0, [1, 1, 1])], fun σ w => dP (slotOf σ 0) fun k_ => dI .i64 (slotOf σ 3) fun live_ => dI .i64 (slotOf σ 4) fun tombs_ => dI .i64 (slotOf σ 5) fun i_ => sB3 k_ live_ tombs_ i_ w)] 2000) [(0, [1, 1, 0, 1, 0, 0, 1, 0, 0, 1, 1, 1, 1]), (1, [1]), (0, [1, 1, 0, 1, 0, 0, 1, 1]), (2, [1, 1, 0, 1, 0, 0]), (1, [0]), (0, [1, 1, 1])] [(0, .pointer k), (3, .int .i64 live), (4, .int .i64 tombs), (5, .int .i64 i), (6, .pointer (some ⟨c, 0, none⟩))] w := by kernel_rfl
theorem kv_KV_Check.B1_sound {R : ByteArray → World → Prop} {N1 : Option Addr → Int → Int → Int → World → Prop} (hN1 : ∀ k live tombs i w, N1 k live tombs i w → KW Try.prog 59 86 (kv_KV_Check.RV R) ([(0, [1, 1, 0, 1, 0, 0]), (2, [1, 1, 0, 1, 0, 0]), (1, [0]), (0, [1, 1, 1])].map (toItem (Try.f59.body.getD .skip))) [(0, .pointer k), (3, .int .i64 live), (4, .int .i64 tombs), (5, .int .i64 i)] w) (k : Option Addr) (live tombs i : Int) (c : Nat) (w : World) (h : kv_KV_Check.B1 k live tombs i c w N1  R) :
    KW Try.prog 59 86 (kv_KV_Check.RV R) ([(0, [1, 1, 0, 1, 0, 0, 1, 0, 0, 1, 1, 1, 1]), (1, [1]), (0, [1, 1, 0, 1, 0, 0, 1, 1]), (2, [1, 1, 0, 1, 0, 0]), (1, [0]), (0, [1, 1, 1])].map (toItem (Try.f59.body.getD .skip))) [(0, .pointer k), (3, .int .i64 live), (4, .int .i64 tombs), (5, .int .i64 i), (6, .pointer (some ⟨c, 0, none⟩))] w := by
  exact block_spec Try.func59 Try.mixed (stops_cons (fun σ w h => by
      obtain ⟨k_, e0, h⟩ := dP_elim h
      obtain ⟨live_, e1, h⟩ := dI_elim h
      obtain ⟨tombs_, e2, h⟩ := dI_elim h
      obtain ⟨i_, e3, h⟩ := dI_elim h
      exact (kv_KV_Check.B3_sound hN1 k_ live_ tombs_ i_ w h).weaken (Sub.cons (Sub.cons (Sub.cons (Sub.cons (Sub.nil _) e3) e2) e1) e0)) stops_nil) (Eq.mp (kv_KV_Check.B1_eq k live tombs i c w N1  R (fun k_ live_ tombs_ i_ w => kv_KV_Check.B3 k_ live_ tombs_ i_ w N1 R)) h)
def kv_KV_Check.L2b (k : Option Addr) (c : Int) (w : World)  (N2 : Option Addr → Int → World → Prop) (R : ByteArray → World → Prop) : Prop :=
  Bm (decide (c < (3 : Int))) (
    Pn k fun a =>
    (0 ≤ c ∧ c < ((3 : Nat) : Int)) ∧
    LdI .i64 (Addr.add (a.add 66) (c.toNat * 6)) w fun x81_0 =>
    LdI .i64 ((Addr.add (a.add 66) (c.toNat * 6)).add 1) w fun x81_1 =>
    LdI .i64 ((Addr.add (a.add 66) (c.toNat * 6)).add 2) w fun x81_2 =>
    LdI .u8 ((Addr.add (a.add 66) (c.toNat * 6)).add 3) w fun x81_3 =>
    LdI .u8 ((Addr.add (a.add 66) (c.toNat * 6)).add 4) w fun x81_4 =>
    LdI .u8 ((Addr.add (a.add 66) (c.toNat * 6)).add 5) w fun x81_5 =>
    kv_sessionFine.Call x81_0 x81_1 x81_2 x81_3 x81_4 x81_5 w fun r82 w1 =>
    Bm (!(r82.toList == (ByteArray.mk #[]).toList)) (
      R r82 w1) (
      N2 k (IntKind.i64.wrap (c + (1 : Int))) w1)) (
    R (ByteArray.mk #[]) w)
theorem kv_KV_Check.L2b_eq (k : Option Addr) (c : Int) (w : World)  (N2 : Option Addr → Int → World → Prop) (R : ByteArray → World → Prop)  :
    (
  Bm (decide (c < (3 : Int))) (
    Pn k fun a =>
    (0 ≤ c ∧ c < ((3 : Nat) : Int)) ∧
    LdI .i64 (Addr.add (a.add 66) (c.toNat * 6)) w fun x81_0 =>
    LdI .i64 ((Addr.add (a.add 66) (c.toNat * 6)).add 1) w fun x81_1 =>
    LdI .i64 ((Addr.add (a.add 66) (c.toNat * 6)).add 2) w fun x81_2 =>
    LdI .u8 ((Addr.add (a.add 66) (c.toNat * 6)).add 3) w fun x81_3 =>
    LdI .u8 ((Addr.add (a.add 66) (c.toNat * 6)).add 4) w fun x81_4 =>
    LdI .u8 ((Addr.add (a.add 66) (c.toNat * 6)).add 5) w fun x81_5 =>
    kv_sessionFine.Call x81_0 x81_1 x81_2 x81_3 x81_4 x81_5 w fun r82 w1 =>
    Bm (!(r82.toList == (ByteArray.mk #[]).toList)) (
      R r82 w1) (
      N2 k (IntKind.i64.wrap (c + (1 : Int))) w1)) (
    R (ByteArray.mk #[]) w)) = kstep Try.prog 86 Try.f59.results.toList (Try.f59.body.getD .skip) (kv_KV_Check.RV R) (kvc Try.prog 86 Try.f59.results.toList (Try.f59.body.getD .skip) (kv_KV_Check.RV R) [([(0, [1, 1, 1, 1, 1, 0, 1, 0, 0]), (2, [1, 1, 1, 1, 1, 0, 1, 0, 0]), (1, [2]), (0, [1, 1, 1, 1, 1, 1])], fun σ w => dP (slotOf σ 0) fun k_ => dI .i64 (slotOf σ 10) fun c_ => N2 k_ c_ w)] 2000) [(0, [1, 1, 1, 1, 1, 0, 1, 0, 0]), (2, [1, 1, 1, 1, 1, 0, 1, 0, 0]), (1, [2]), (0, [1, 1, 1, 1, 1, 1])] [(0, .pointer k), (10, .int .i64 c)] w := by kernel_rfl
theorem kv_KV_Check.L2b_sound {R : ByteArray → World → Prop} {N2 : Option Addr → Int → World → Prop} (hN2 : ∀ k c w, N2 k c w → KW Try.prog 59 86 (kv_KV_Check.RV R) ([(0, [1, 1, 1, 1, 1, 0, 1, 0, 0]), (2, [1, 1, 1, 1, 1, 0, 1, 0, 0]), (1, [2]), (0, [1, 1, 1, 1, 1, 1])].map (toItem (Try.f59.body.getD .skip))) [(0, .pointer k), (10, .int .i64 c)] w) (k : Option Addr) (c : Int) (w : World) (h : kv_KV_Check.L2b k c w  N2 R) :
    KW Try.prog 59 86 (kv_KV_Check.RV R) ([(0, [1, 1, 1, 1, 1, 0, 1, 0, 0]), (2, [1, 1, 1, 1, 1, 0, 1, 0, 0]), (1, [2]), (0, [1, 1, 1, 1, 1, 1])].map (toItem (Try.f59.body.getD .skip))) [(0, .pointer k), (10, .int .i64 c)] w := by
  exact block_spec Try.func59 Try.mixed (stops_cons (fun σ w h => by
      obtain ⟨k_, e0, h⟩ := dP_elim h
      obtain ⟨c_, e1, h⟩ := dI_elim h
      exact (hN2 k_ c_ w h).weaken (Sub.cons (Sub.cons (Sub.nil _) e1) e0)) stops_nil) (Eq.mp (kv_KV_Check.L2b_eq k c w  N2 R ) h)
def kv_KV_Check.L2 (k : Option Addr) (c : Int) (w : World)  (R : ByteArray → World → Prop) : Prop :=
  ∃ (I : Nat → Option Addr → Int → World → Prop) (m : Nat), I m k c w ∧ ∀ m k c w, I m k c w → kv_KV_Check.L2b k c w  (fun k' c' w' => ∃ m', m' < m ∧ I m' k' c' w') R
theorem kv_KV_Check.L2_sound {R : ByteArray → World → Prop}  (k : Option Addr) (c : Int) (w : World) (h : kv_KV_Check.L2 k c w  R) :
    KW Try.prog 59 86 (kv_KV_Check.RV R) ([(0, [1, 1, 1, 1, 1, 0, 1, 0, 0]), (2, [1, 1, 1, 1, 1, 0, 1, 0, 0]), (1, [2]), (0, [1, 1, 1, 1, 1, 1])].map (toItem (Try.f59.body.getD .skip))) [(0, .pointer k), (10, .int .i64 c)] w := by
  obtain ⟨I, m, hBase, hr⟩ := h
  refine KW.loop (fun m σ w => ∃ (k : Option Addr) (c : Int), σ = [(0, .pointer k), (10, .int .i64 c)] ∧ I m k c w) ?_ m _ w ⟨k, c, rfl, hBase⟩
  rintro m ih σ w ⟨k, c, rfl, hI⟩
  exact kv_KV_Check.L2b_sound  (N2 := fun k' c' w' => ∃ m', m' < m ∧ I m' k' c' w') (fun k' c' w' hx => by obtain ⟨m', hlt, hI'⟩ := hx; exact ih m' hlt _ w' ⟨k', c', rfl, hI'⟩) k c w (hr m k c w hI)
def kv_KV_Check.B4 (k : Option Addr) (t71 : Bool) (w : World)   (R : ByteArray → World → Prop) : Prop :=
  Bm t71 (
    R (ByteArray.mk #[116, 111, 111, 32, 109, 97, 110, 121, 32, 99, 101, 108, 108, 115, 32, 105, 110, 32, 117, 115, 101]) w) (
    kv_KV_Check.L2 k (0 : Int) w  R)
theorem kv_KV_Check.B4_eq (k : Option Addr) (t71 : Bool) (w : World)   (R : ByteArray → World → Prop) (sL2 : Option Addr → Int → World → Prop) :
    (
  Bm t71 (
    R (ByteArray.mk #[116, 111, 111, 32, 109, 97, 110, 121, 32, 99, 101, 108, 108, 115, 32, 105, 110, 32, 117, 115, 101]) w) (
    sL2 k (0 : Int) w)) = kstep Try.prog 86 Try.f59.results.toList (Try.f59.body.getD .skip) (kv_KV_Check.RV R) (kvc Try.prog 86 Try.f59.results.toList (Try.f59.body.getD .skip) (kv_KV_Check.RV R) [([(0, [1, 1, 1, 1, 1, 0, 1, 0, 0]), (2, [1, 1, 1, 1, 1, 0, 1, 0, 0]), (1, [2]), (0, [1, 1, 1, 1, 1, 1])], fun σ w => dP (slotOf σ 0) fun k_ => dI .i64 (slotOf σ 10) fun c_ => sL2 k_ c_ w)] 2000) [(0, [1, 1, 1, 1, 0, 1]), (0, [1, 1, 1, 1, 1])] [(0, .pointer k), (71, .bool t71)] w := by kernel_rfl
theorem kv_KV_Check.B4_sound {R : ByteArray → World → Prop}  (k : Option Addr) (t71 : Bool) (w : World) (h : kv_KV_Check.B4 k t71 w   R) :
    KW Try.prog 59 86 (kv_KV_Check.RV R) ([(0, [1, 1, 1, 1, 0, 1]), (0, [1, 1, 1, 1, 1])].map (toItem (Try.f59.body.getD .skip))) [(0, .pointer k), (71, .bool t71)] w := by
  exact block_spec Try.func59 Try.mixed (stops_cons (fun σ w h => by
      obtain ⟨k_, e0, h⟩ := dP_elim h
      obtain ⟨c_, e1, h⟩ := dI_elim h
      exact (kv_KV_Check.L2_sound  k_ c_ w h).weaken (Sub.cons (Sub.cons (Sub.nil _) e1) e0)) stops_nil) (Eq.mp (kv_KV_Check.B4_eq k t71 w   R (fun k_ c_ w => kv_KV_Check.L2 k_ c_ w  R)) h)
def kv_KV_Check.B2 (k : Option Addr) (live tombs : Int) (t63 : Bool) (w : World)   (R : ByteArray → World → Prop) : Prop :=
  Bm t63 (
    R (ByteArray.mk #[116, 104, 101, 32, 99, 111, 117, 110, 116, 115, 32, 100, 111, 32, 110, 111, 116, 32, 116, 101, 108, 108, 32, 116, 104, 101, 32, 99, 101, 108, 108, 115]) w) (
    Bm (decide (live > (4 : Int))) (
      kv_KV_Check.B4 k true w  R) (
      kv_KV_Check.B4 k (decide ((IntKind.i64.wrap (live + tombs)) ≥ (6 : Int))) w  R))
theorem kv_KV_Check.B2_eq (k : Option Addr) (live tombs : Int) (t63 : Bool) (w : World)   (R : ByteArray → World → Prop) (sB4 : Option Addr → Bool → World → Prop) :
    (
  Bm t63 (
    R (ByteArray.mk #[116, 104, 101, 32, 99, 111, 117, 110, 116, 115, 32, 100, 111, 32, 110, 111, 116, 32, 116, 101, 108, 108, 32, 116, 104, 101, 32, 99, 101, 108, 108, 115]) w) (
    Bm (decide (live > (4 : Int))) (
      sB4 k true w) (
      sB4 k (decide ((IntKind.i64.wrap (live + tombs)) ≥ (6 : Int))) w))) = kstep Try.prog 86 Try.f59.results.toList (Try.f59.body.getD .skip) (kv_KV_Check.RV R) (kvc Try.prog 86 Try.f59.results.toList (Try.f59.body.getD .skip) (kv_KV_Check.RV R) [([(0, [1, 1, 1, 1, 0, 1]), (0, [1, 1, 1, 1, 1])], fun σ w => dP (slotOf σ 0) fun k_ => dB (slotOf σ 71) fun t71_ => sB4 k_ t71_ w)] 2000) [(0, [1, 1, 1, 0, 1]), (0, [1, 1, 1, 1])] [(0, .pointer k), (3, .int .i64 live), (4, .int .i64 tombs), (63, .bool t63)] w := by kernel_rfl
theorem kv_KV_Check.B2_sound {R : ByteArray → World → Prop}  (k : Option Addr) (live tombs : Int) (t63 : Bool) (w : World) (h : kv_KV_Check.B2 k live tombs t63 w   R) :
    KW Try.prog 59 86 (kv_KV_Check.RV R) ([(0, [1, 1, 1, 0, 1]), (0, [1, 1, 1, 1])].map (toItem (Try.f59.body.getD .skip))) [(0, .pointer k), (3, .int .i64 live), (4, .int .i64 tombs), (63, .bool t63)] w := by
  exact block_spec Try.func59 Try.mixed (stops_cons (fun σ w h => by
      obtain ⟨k_, e0, h⟩ := dP_elim h
      obtain ⟨t71_, e1, h⟩ := dB_elim h
      exact (kv_KV_Check.B4_sound  k_ t71_ w h).weaken (Sub.cons (Sub.cons (Sub.nil _) e1) e0)) stops_nil) (Eq.mp (kv_KV_Check.B2_eq k live tombs t63 w   R (fun k_ t71_ w => kv_KV_Check.B4 k_ t71_ w  R)) h)
def kv_KV_Check.L1b (k : Option Addr) (live tombs i : Int) (w : World)  (N1 : Option Addr → Int → Int → Int → World → Prop) (R : ByteArray → World → Prop) : Prop :=
  Bm (decide (i < (8 : Int))) (
    Pn k fun a =>
    (0 ≤ i ∧ i < ((8 : Nat) : Int)) ∧
    LdI .i64 (Addr.add a (i.toNat * 8)) w fun x22_0 =>
    LdI .i64 ((Addr.add a (i.toNat * 8)).add 1) w fun x22_1 =>
    LdI .u8 ((Addr.add a (i.toNat * 8)).add 2) w fun x22_2 =>
    LdI .u8 ((Addr.add a (i.toNat * 8)).add 3) w fun x22_3 =>
    LdI .i64 ((Addr.add a (i.toNat * 8)).add 4) w fun x22_4 =>
    LdI .u8 ((Addr.add a (i.toNat * 8)).add 5) w fun x22_5 =>
    LdI .u8 ((Addr.add a (i.toNat * 8)).add 6) w fun x22_6 =>
    LdI .u8 ((Addr.add a (i.toNat * 8)).add 7) w fun x22_7 =>
    New (.cells #[.int .i64 (0 : Int), .int .i64 (0 : Int), .int .u8 (0 : Int), .int .u8 (0 : Int), .int .i64 (0 : Int), .int .u8 (0 : Int), .int .u8 (0 : Int), .int .u8 (0 : Int)] 42) w fun c_ w1 =>
    Sts [.int .i64 x22_0, .int .i64 x22_1, .int .u8 x22_2, .int .u8 x22_3, .int .i64 x22_4, .int .u8 x22_5, .int .u8 x22_6, .int .u8 x22_7] ⟨c_, 0, none⟩ 0 w1 fun w2 =>
    LdI .i64 ⟨c_, 0, none⟩ w2 fun x23_0 =>
    LdI .i64 ⟨c_, 1, none⟩ w2 fun x23_1 =>
    LdI .u8 ⟨c_, 2, none⟩ w2 fun x23_2 =>
    LdI .u8 ⟨c_, 3, none⟩ w2 fun x23_3 =>
    LdI .i64 ⟨c_, 4, none⟩ w2 fun x23_4 =>
    LdI .u8 ⟨c_, 5, none⟩ w2 fun x23_5 =>
    LdI .u8 ⟨c_, 6, none⟩ w2 fun x23_6 =>
    LdI .u8 ⟨c_, 7, none⟩ w2 fun x23_7 =>
    kv_cellFine.Call x23_0 x23_1 x23_2 x23_3 x23_4 x23_5 x23_6 x23_7 w2 fun r24 w3 =>
    Bm (!(r24.toList == (ByteArray.mk #[]).toList)) (
      R r24 w3) (
      LdI .i64 ⟨c_, 0, none⟩ w3 fun x29 =>
      Bm (x29 == (2 : Int)) (
        kv_KV_Check.B1 k live (IntKind.i64.wrap (tombs + (1 : Int))) i c_ w3 N1 R) (
        kv_KV_Check.B1 k live tombs i c_ w3 N1 R))) (
    Pn k fun a_1 =>
    LdI .i64 (a_1.add 64) w fun x53 =>
    Bm (live != x53) (
      kv_KV_Check.B2 k live tombs true w  R) (
      Pn k fun a_2 =>
      LdI .i64 (a_2.add 65) w fun x61 =>
      kv_KV_Check.B2 k live tombs (tombs != x61) w  R))
theorem kv_KV_Check.L1b_eq (k : Option Addr) (live tombs i : Int) (w : World)  (N1 : Option Addr → Int → Int → Int → World → Prop) (R : ByteArray → World → Prop) (sB1 : Option Addr → Int → Int → Int → Nat → World → Prop) (sB2 : Option Addr → Int → Int → Bool → World → Prop) :
    (
  Bm (decide (i < (8 : Int))) (
    Pn k fun a =>
    (0 ≤ i ∧ i < ((8 : Nat) : Int)) ∧
    LdI .i64 (Addr.add a (i.toNat * 8)) w fun x22_0 =>
    LdI .i64 ((Addr.add a (i.toNat * 8)).add 1) w fun x22_1 =>
    LdI .u8 ((Addr.add a (i.toNat * 8)).add 2) w fun x22_2 =>
    LdI .u8 ((Addr.add a (i.toNat * 8)).add 3) w fun x22_3 =>
    LdI .i64 ((Addr.add a (i.toNat * 8)).add 4) w fun x22_4 =>
    LdI .u8 ((Addr.add a (i.toNat * 8)).add 5) w fun x22_5 =>
    LdI .u8 ((Addr.add a (i.toNat * 8)).add 6) w fun x22_6 =>
    LdI .u8 ((Addr.add a (i.toNat * 8)).add 7) w fun x22_7 =>
    New (.cells #[.int .i64 (0 : Int), .int .i64 (0 : Int), .int .u8 (0 : Int), .int .u8 (0 : Int), .int .i64 (0 : Int), .int .u8 (0 : Int), .int .u8 (0 : Int), .int .u8 (0 : Int)] 42) w fun c_ w1 =>
    Sts [.int .i64 x22_0, .int .i64 x22_1, .int .u8 x22_2, .int .u8 x22_3, .int .i64 x22_4, .int .u8 x22_5, .int .u8 x22_6, .int .u8 x22_7] ⟨c_, 0, none⟩ 0 w1 fun w2 =>
    LdI .i64 ⟨c_, 0, none⟩ w2 fun x23_0 =>
    LdI .i64 ⟨c_, 1, none⟩ w2 fun x23_1 =>
    LdI .u8 ⟨c_, 2, none⟩ w2 fun x23_2 =>
    LdI .u8 ⟨c_, 3, none⟩ w2 fun x23_3 =>
    LdI .i64 ⟨c_, 4, none⟩ w2 fun x23_4 =>
    LdI .u8 ⟨c_, 5, none⟩ w2 fun x23_5 =>
    LdI .u8 ⟨c_, 6, none⟩ w2 fun x23_6 =>
    LdI .u8 ⟨c_, 7, none⟩ w2 fun x23_7 =>
    kv_cellFine.Call x23_0 x23_1 x23_2 x23_3 x23_4 x23_5 x23_6 x23_7 w2 fun r24 w3 =>
    Bm (!(r24.toList == (ByteArray.mk #[]).toList)) (
      R r24 w3) (
      LdI .i64 ⟨c_, 0, none⟩ w3 fun x29 =>
      Bm (x29 == (2 : Int)) (
        sB1 k live (IntKind.i64.wrap (tombs + (1 : Int))) i c_ w3) (
        sB1 k live tombs i c_ w3))) (
    Pn k fun a_1 =>
    LdI .i64 (a_1.add 64) w fun x53 =>
    Bm (live != x53) (
      sB2 k live tombs true w) (
      Pn k fun a_2 =>
      LdI .i64 (a_2.add 65) w fun x61 =>
      sB2 k live tombs (tombs != x61) w))) = kstep Try.prog 86 Try.f59.results.toList (Try.f59.body.getD .skip) (kv_KV_Check.RV R) (kvc Try.prog 86 Try.f59.results.toList (Try.f59.body.getD .skip) (kv_KV_Check.RV R) [([(0, [1, 1, 0, 1, 0, 0, 1, 0, 0, 1, 1, 1, 1]), (1, [1]), (0, [1, 1, 0, 1, 0, 0, 1, 1]), (2, [1, 1, 0, 1, 0, 0]), (1, [0]), (0, [1, 1, 1])], fun σ w => dP (slotOf σ 0) fun k_ => dI .i64 (slotOf σ 3) fun live_ => dI .i64 (slotOf σ 4) fun tombs_ => dI .i64 (slotOf σ 5) fun i_ => dK (slotOf σ 6) fun c_ => sB1 k_ live_ tombs_ i_ c_ w),
    ([(0, [1, 1, 1, 0, 1]), (0, [1, 1, 1, 1])], fun σ w => dP (slotOf σ 0) fun k_ => dI .i64 (slotOf σ 3) fun live_ => dI .i64 (slotOf σ 4) fun tombs_ => dB (slotOf σ 63) fun t63_ => sB2 k_ live_ tombs_ t63_ w)] 2000) [(0, [1, 1, 0, 1, 0, 0]), (2, [1, 1, 0, 1, 0, 0]), (1, [0]), (0, [1, 1, 1])] [(0, .pointer k), (3, .int .i64 live), (4, .int .i64 tombs), (5, .int .i64 i)] w := by kernel_rfl
theorem kv_KV_Check.L1b_sound {R : ByteArray → World → Prop} {N1 : Option Addr → Int → Int → Int → World → Prop} (hN1 : ∀ k live tombs i w, N1 k live tombs i w → KW Try.prog 59 86 (kv_KV_Check.RV R) ([(0, [1, 1, 0, 1, 0, 0]), (2, [1, 1, 0, 1, 0, 0]), (1, [0]), (0, [1, 1, 1])].map (toItem (Try.f59.body.getD .skip))) [(0, .pointer k), (3, .int .i64 live), (4, .int .i64 tombs), (5, .int .i64 i)] w) (k : Option Addr) (live tombs i : Int) (w : World) (h : kv_KV_Check.L1b k live tombs i w  N1 R) :
    KW Try.prog 59 86 (kv_KV_Check.RV R) ([(0, [1, 1, 0, 1, 0, 0]), (2, [1, 1, 0, 1, 0, 0]), (1, [0]), (0, [1, 1, 1])].map (toItem (Try.f59.body.getD .skip))) [(0, .pointer k), (3, .int .i64 live), (4, .int .i64 tombs), (5, .int .i64 i)] w := by
  exact block_spec Try.func59 Try.mixed (stops_cons (fun σ w h => by
      obtain ⟨k_, e0, h⟩ := dP_elim h
      obtain ⟨live_, e1, h⟩ := dI_elim h
      obtain ⟨tombs_, e2, h⟩ := dI_elim h
      obtain ⟨i_, e3, h⟩ := dI_elim h
      obtain ⟨c_, e4, h⟩ := dK_elim h
      exact (kv_KV_Check.B1_sound hN1 k_ live_ tombs_ i_ c_ w h).weaken (Sub.cons (Sub.cons (Sub.cons (Sub.cons (Sub.cons (Sub.nil _) e4) e3) e2) e1) e0)) (stops_cons (fun σ w h => by
      obtain ⟨k_, e0, h⟩ := dP_elim h
      obtain ⟨live_, e1, h⟩ := dI_elim h
      obtain ⟨tombs_, e2, h⟩ := dI_elim h
      obtain ⟨t63_, e3, h⟩ := dB_elim h
      exact (kv_KV_Check.B2_sound  k_ live_ tombs_ t63_ w h).weaken (Sub.cons (Sub.cons (Sub.cons (Sub.cons (Sub.nil _) e3) e2) e1) e0)) stops_nil)) (Eq.mp (kv_KV_Check.L1b_eq k live tombs i w  N1 R (fun k_ live_ tombs_ i_ c_ w => kv_KV_Check.B1 k_ live_ tombs_ i_ c_ w N1 R) (fun k_ live_ tombs_ t63_ w => kv_KV_Check.B2 k_ live_ tombs_ t63_ w  R)) h)
def kv_KV_Check.L1 (k : Option Addr) (live tombs i : Int) (w : World)  (R : ByteArray → World → Prop) : Prop :=
  ∃ (I : Nat → Option Addr → Int → Int → Int → World → Prop) (m : Nat), I m k live tombs i w ∧ ∀ m k live tombs i w, I m k live tombs i w → kv_KV_Check.L1b k live tombs i w  (fun k' live' tombs' i' w' => ∃ m', m' < m ∧ I m' k' live' tombs' i' w') R
theorem kv_KV_Check.L1_sound {R : ByteArray → World → Prop}  (k : Option Addr) (live tombs i : Int) (w : World) (h : kv_KV_Check.L1 k live tombs i w  R) :
    KW Try.prog 59 86 (kv_KV_Check.RV R) ([(0, [1, 1, 0, 1, 0, 0]), (2, [1, 1, 0, 1, 0, 0]), (1, [0]), (0, [1, 1, 1])].map (toItem (Try.f59.body.getD .skip))) [(0, .pointer k), (3, .int .i64 live), (4, .int .i64 tombs), (5, .int .i64 i)] w := by
  obtain ⟨I, m, hBase, hr⟩ := h
  refine KW.loop (fun m σ w => ∃ (k : Option Addr) (live tombs i : Int), σ = [(0, .pointer k), (3, .int .i64 live), (4, .int .i64 tombs), (5, .int .i64 i)] ∧ I m k live tombs i w) ?_ m _ w ⟨k, live, tombs, i, rfl, hBase⟩
  rintro m ih σ w ⟨k, live, tombs, i, rfl, hI⟩
  exact kv_KV_Check.L1b_sound  (N1 := fun k' live' tombs' i' w' => ∃ m', m' < m ∧ I m' k' live' tombs' i' w') (fun k' live' tombs' i' w' hx => by obtain ⟨m', hlt, hI'⟩ := hx; exact ih m' hlt _ w' ⟨k', live', tombs', i', rfl, hI'⟩) k live tombs i w (hr m k live tombs i w hI)
def kv_KV_Check.B0 (k : Option Addr) (w : World)   (R : ByteArray → World → Prop) : Prop :=
  kv_KV_Check.L1 k (0 : Int) (0 : Int) (0 : Int) w  R
theorem kv_KV_Check.B0_eq (k : Option Addr) (w : World)   (R : ByteArray → World → Prop) (sL1 : Option Addr → Int → Int → Int → World → Prop) :
    (
  sL1 k (0 : Int) (0 : Int) (0 : Int) w) = kstep Try.prog 86 Try.f59.results.toList (Try.f59.body.getD .skip) (kv_KV_Check.RV R) (kvc Try.prog 86 Try.f59.results.toList (Try.f59.body.getD .skip) (kv_KV_Check.RV R) [([(0, [1, 1, 0, 1, 0, 0]), (2, [1, 1, 0, 1, 0, 0]), (1, [0]), (0, [1, 1, 1])], fun σ w => dP (slotOf σ 0) fun k_ => dI .i64 (slotOf σ 3) fun live_ => dI .i64 (slotOf σ 4) fun tombs_ => dI .i64 (slotOf σ 5) fun i_ => sL1 k_ live_ tombs_ i_ w)] 2000) [(0, [])] [(0, .pointer k)] w := by kernel_rfl
theorem kv_KV_Check.B0_sound {R : ByteArray → World → Prop}  (k : Option Addr) (w : World) (h : kv_KV_Check.B0 k w   R) :
    KW Try.prog 59 86 (kv_KV_Check.RV R) ([(0, [])].map (toItem (Try.f59.body.getD .skip))) [(0, .pointer k)] w := by
  exact block_spec Try.func59 Try.mixed (stops_cons (fun σ w h => by
      obtain ⟨k_, e0, h⟩ := dP_elim h
      obtain ⟨live_, e1, h⟩ := dI_elim h
      obtain ⟨tombs_, e2, h⟩ := dI_elim h
      obtain ⟨i_, e3, h⟩ := dI_elim h
      exact (kv_KV_Check.L1_sound  k_ live_ tombs_ i_ w h).weaken (Sub.cons (Sub.cons (Sub.cons (Sub.cons (Sub.nil _) e3) e2) e1) e0)) stops_nil) (Eq.mp (kv_KV_Check.B0_eq k w   R (fun k_ live_ tombs_ i_ w => kv_KV_Check.L1 k_ live_ tombs_ i_ w  R)) h)
theorem kv_KV_Check.sound (k : Option Addr) (w : World) (R : ByteArray → World → Prop) (h : kv_KV_Check.B0 k w R) : kv_KV_Check.Call k w R := by
  have hc := calls_of_block (args := #[.pointer k]) Try.func59 (body := (Try.f59.body.getD .skip)) (by kernel_rfl) (by kernel_rfl) (args_slot _) (kv_KV_Check.B0_sound k w h)
  exact hc.mono fun e w' he => by
    obtain ⟨v, rfl, hv⟩ := he
    exact kv_KV_Check.RV_elim hv
end Go.Proofs.Qxb6500429a
