import Derived.Test.Qxb6500430aGreatSig
set_option maxRecDepth 100000
set_option linter.unusedVariables false
open Go.Vc
namespace Go.Proofs.Qxb6500430aGreat
def syncm_Sync_Compact.B0 (s : Option Addr) (upTo : Int) (snap : ByteArray) (w : World)   (R : Int → World → Prop) : Prop :=
  Pn s fun a =>
  LdI .i64 (a.add 2) w fun x11 =>
  Bm (decide (upTo > x11)) (
    R (1 : Int) w) (
    Pn s fun a_1 =>
    LdP a_1 w fun x16 =>
    rlogm_Log_Compact.Call x16 upTo snap w fun r19 w1 =>
    R r19 w1)
theorem syncm_Sync_Compact.B0_eq (s : Option Addr) (upTo : Int) (snap : ByteArray) (w : World)   (R : Int → World → Prop)  :
    (
  Pn s fun a =>
  LdI .i64 (a.add 2) w fun x11 =>
  Bm (decide (upTo > x11)) (
    R (1 : Int) w) (
    Pn s fun a_1 =>
    LdP a_1 w fun x16 =>
    rlogm_Log_Compact.Call x16 upTo snap w fun r19 w1 =>
    R r19 w1)) = kstep Tryz.prog 20 Tryz.f168.results.toList (Tryz.f168.body.getD .skip) (syncm_Sync_Compact.RV R) (kvc Tryz.prog 20 Tryz.f168.results.toList (Tryz.f168.body.getD .skip) (syncm_Sync_Compact.RV R) [] 2000) [(0, [])] [(0, .pointer s), (1, .int .i64 upTo), (2, .string snap)] w := by kernel_rfl
theorem syncm_Sync_Compact.B0_sound {R : Int → World → Prop}  (s : Option Addr) (upTo : Int) (snap : ByteArray) (w : World) (h : syncm_Sync_Compact.B0 s upTo snap w   R) :
    KW Tryz.prog 168 20 (syncm_Sync_Compact.RV R) ([(0, [])].map (toItem (Tryz.f168.body.getD .skip))) [(0, .pointer s), (1, .int .i64 upTo), (2, .string snap)] w := by
  exact block_spec Tryz.func168 Tryz.mixed stops_nil (Eq.mp (syncm_Sync_Compact.B0_eq s upTo snap w   R ) h)
theorem syncm_Sync_Compact.sound (s : Option Addr) (upTo : Int) (snap : ByteArray) (w : World) (R : Int → World → Prop) (h : syncm_Sync_Compact.B0 s upTo snap w R) : syncm_Sync_Compact.Call s upTo snap w R := by
  have hc := calls_of_block (args := #[.pointer s, .int .i64 upTo, .string snap]) Tryz.func168 (body := (Tryz.f168.body.getD .skip)) (by kernel_rfl) (by kernel_rfl) (args_slot _) (syncm_Sync_Compact.B0_sound s upTo snap w h)
  exact hc.mono fun e w' he => by
    obtain ⟨v, rfl, hv⟩ := he
    exact syncm_Sync_Compact.RV_elim hv
def syncm_Sync_At.B0 (s : Option Addr) (i : Int) (w : World)   (R : Int → ByteArray → Int → World → Prop) : Prop :=
  New (.cells #[.int .i64 (0 : Int), .string (ByteArray.mk #[])] 155) w fun b4 w1 =>
  Pn s fun a =>
  LdP a w1 fun x9 =>
  rlogm_Log_At.Call x9 i w1 fun r11_0_0 r11_0_1 r11_1 w2 =>
  Sts [.int .i64 r11_0_0, .string r11_0_1] ⟨b4, 0, none⟩ 0 w2 fun w3 =>
  LdI .i64 ⟨b4, 0, none⟩ w3 fun r_0 =>
  LdS ⟨b4, 1, none⟩ w3 fun r_1 =>
  R r_0 r_1 r11_1 w3
theorem syncm_Sync_At.B0_eq (s : Option Addr) (i : Int) (w : World)   (R : Int → ByteArray → Int → World → Prop)  :
    (
  New (.cells #[.int .i64 (0 : Int), .string (ByteArray.mk #[])] 155) w fun b4 w1 =>
  Pn s fun a =>
  LdP a w1 fun x9 =>
  rlogm_Log_At.Call x9 i w1 fun r11_0_0 r11_0_1 r11_1 w2 =>
  Sts [.int .i64 r11_0_0, .string r11_0_1] ⟨b4, 0, none⟩ 0 w2 fun w3 =>
  LdI .i64 ⟨b4, 0, none⟩ w3 fun r_0 =>
  LdS ⟨b4, 1, none⟩ w3 fun r_1 =>
  R r_0 r_1 r11_1 w3) = kstep Tryz.prog 14 Tryz.f169.results.toList (Tryz.f169.body.getD .skip) (syncm_Sync_At.RV R) (kvc Tryz.prog 14 Tryz.f169.results.toList (Tryz.f169.body.getD .skip) (syncm_Sync_At.RV R) [] 2000) [(0, [])] [(0, .pointer s), (1, .int .i64 i)] w := by kernel_rfl
theorem syncm_Sync_At.B0_sound {R : Int → ByteArray → Int → World → Prop}  (s : Option Addr) (i : Int) (w : World) (h : syncm_Sync_At.B0 s i w   R) :
    KW Tryz.prog 169 14 (syncm_Sync_At.RV R) ([(0, [])].map (toItem (Tryz.f169.body.getD .skip))) [(0, .pointer s), (1, .int .i64 i)] w := by
  exact block_spec Tryz.func169 Tryz.mixed stops_nil (Eq.mp (syncm_Sync_At.B0_eq s i w   R ) h)
theorem syncm_Sync_At.sound (s : Option Addr) (i : Int) (w : World) (R : Int → ByteArray → Int → World → Prop) (h : syncm_Sync_At.B0 s i w R) : syncm_Sync_At.Call s i w R := by
  have hc := calls_of_block (args := #[.pointer s, .int .i64 i]) Tryz.func169 (body := (Tryz.f169.body.getD .skip)) (by kernel_rfl) (by kernel_rfl) (args_slot _) (syncm_Sync_At.B0_sound s i w h)
  exact hc.mono fun e w' he => by
    obtain ⟨v, rfl, hv⟩ := he
    exact syncm_Sync_At.RV_elim hv
def kvm_KV_Apply.B0 (k : Option Addr) (data : ByteArray) (w : World)   (R : Int → ByteArray → World → Prop) : Prop :=
  New (.cells #[.int .i64 (0 : Int), .string (ByteArray.mk #[])] 93) w fun b4 w1 =>
  api_DecodeCmd.Call data w1 fun r10_0_0 r10_0_1 r10_0_2 r10_0_3 r10_0_4 r10_0_5 r10_1 w2 =>
  New (.cells #[.int .i64 (0 : Int), .int .i64 (0 : Int), .int .i64 (0 : Int), .string (ByteArray.mk #[]), .string (ByteArray.mk #[]), .string (ByteArray.mk #[])] 87) w2 fun c_ w3 =>
  Sts [.int .i64 r10_0_0, .int .i64 r10_0_1, .int .i64 r10_0_2, .string r10_0_3, .string r10_0_4, .string r10_0_5] ⟨c_, 0, none⟩ 0 w3 fun w4 =>
  Bm (r10_1 != (0 : Int)) (
    Sts [.int .i64 (9 : Int), .string (ByteArray.mk #[])] ⟨b4, 0, none⟩ 0 w4 fun w5 =>
    LdI .i64 ⟨b4, 0, none⟩ w5 fun r_0 =>
    LdS ⟨b4, 1, none⟩ w5 fun r_1 =>
    R r_0 r_1 w5) (
    LdI .i64 ⟨c_, 2, none⟩ w4.drew fun x17 =>
    LdI .i64 ⟨c_, 1, none⟩ w4.drew fun x20 =>
    Pn k fun a =>
    (0 ≤ x20 ∧ x20 < ((3 : Nat) : Int)) ∧
    LdI .i64 (Addr.add (a.add 9) (x20.toNat * 1)) w4.drew fun x24 =>
    Bm (decide (x17 < x24)) (
      Sts [.int .i64 (10 : Int), .string (ByteArray.mk #[])] ⟨b4, 0, none⟩ 0 w4.drew fun w6 =>
      LdI .i64 ⟨b4, 0, none⟩ w6 fun r_0_1 =>
      LdS ⟨b4, 1, none⟩ w6 fun r_1_1 =>
      R r_0_1 r_1_1 w6) (
      LdI .i64 ⟨c_, 2, none⟩ w4.drew.drew fun x28 =>
      LdI .i64 ⟨c_, 1, none⟩ w4.drew.drew fun x31 =>
      Pn k fun a_1 =>
      (0 ≤ x31 ∧ x31 < ((3 : Nat) : Int)) ∧
      LdI .i64 (Addr.add (a_1.add 9) (x31.toNat * 1)) w4.drew.drew fun x35 =>
      Bm (x28 == x35) (
        LdI .i64 ⟨c_, 1, none⟩ w4.drew.drew.drew fun x39 =>
        Pn k fun a_2 =>
        (0 ≤ x39 ∧ x39 < ((3 : Nat) : Int)) ∧
        LdI .i64 (Addr.add (a_2.add 12) (x39.toNat * 2)) w4.drew.drew.drew fun x43_0 =>
        LdS ((Addr.add (a_2.add 12) (x39.toNat * 2)).add 1) w4.drew.drew.drew fun x43_1 =>
        Sts [.int .i64 x43_0, .string x43_1] ⟨b4, 0, none⟩ 0 w4.drew.drew.drew fun w7 =>
        LdI .i64 ⟨b4, 0, none⟩ w7 fun r_0_2 =>
        LdS ⟨b4, 1, none⟩ w7 fun r_1_2 =>
        R r_0_2 r_1_2 w7) (
        LdI .i64 ⟨c_, 0, none⟩ w4.drew.drew fun x45_0 =>
        LdI .i64 ⟨c_, 1, none⟩ w4.drew.drew fun x45_1 =>
        LdI .i64 ⟨c_, 2, none⟩ w4.drew.drew fun x45_2 =>
        LdS ⟨c_, 3, none⟩ w4.drew.drew fun x45_3 =>
        LdS ⟨c_, 4, none⟩ w4.drew.drew fun x45_4 =>
        LdS ⟨c_, 5, none⟩ w4.drew.drew fun x45_5 =>
        kvm_KV_run.Call k x45_0 x45_1 x45_2 x45_3 x45_4 x45_5 w4.drew.drew fun r46_0 r46_1 w8 =>
        New (.cells #[.int .i64 (0 : Int), .string (ByteArray.mk #[])] 93) w8 fun a_ w9 =>
        Sts [.int .i64 r46_0, .string r46_1] ⟨a_, 0, none⟩ 0 w9 fun w10 =>
        LdI .i64 ⟨c_, 1, none⟩ w10.drew fun x49 =>
        LdI .i64 ⟨c_, 1, none⟩ w10.drew fun x52 =>
        LdI .i64 ⟨c_, 2, none⟩ w10.drew fun x54 =>
        LdI .i64 ⟨a_, 0, none⟩ w10.drew fun x55_0 =>
        LdS ⟨a_, 1, none⟩ w10.drew fun x55_1 =>
        Pn k fun a_3 =>
        (0 ≤ x49 ∧ x49 < ((3 : Nat) : Int)) ∧
        Pn k fun a_4 =>
        Sts [.int .i64 x54] (Addr.add (a_3.add 9) (x49.toNat * 1)) 0 w10.drew fun w11 =>
        w11.cell? ⟨a_, 0, none⟩ = some (.int .i64 x55_0) ∧
        w11.cell? ⟨a_, 1, none⟩ = some (.string x55_1) ∧
        w11.cell? ⟨c_, 1, none⟩ = some (.int .i64 x52) ∧
        (0 ≤ x52 ∧ x52 < ((3 : Nat) : Int)) ∧
        Sts [.int .i64 x55_0, .string x55_1] (Addr.add (a_4.add 12) (x52.toNat * 2)) 0 w11 fun w12 =>
        LdI .i64 ⟨a_, 0, none⟩ w12 fun x62_0 =>
        LdS ⟨a_, 1, none⟩ w12 fun x62_1 =>
        Sts [.int .i64 x62_0, .string x62_1] ⟨b4, 0, none⟩ 0 w12 fun w13 =>
        LdI .i64 ⟨b4, 0, none⟩ w13 fun r_0_3 =>
        LdS ⟨b4, 1, none⟩ w13 fun r_1_3 =>
        R r_0_3 r_1_3 w13)))
theorem kvm_KV_Apply.B0_eq (k : Option Addr) (data : ByteArray) (w : World)   (R : Int → ByteArray → World → Prop)  :
    (
  New (.cells #[.int .i64 (0 : Int), .string (ByteArray.mk #[])] 93) w fun b4 w1 =>
  api_DecodeCmd.Call data w1 fun r10_0_0 r10_0_1 r10_0_2 r10_0_3 r10_0_4 r10_0_5 r10_1 w2 =>
  New (.cells #[.int .i64 (0 : Int), .int .i64 (0 : Int), .int .i64 (0 : Int), .string (ByteArray.mk #[]), .string (ByteArray.mk #[]), .string (ByteArray.mk #[])] 87) w2 fun c_ w3 =>
  Sts [.int .i64 r10_0_0, .int .i64 r10_0_1, .int .i64 r10_0_2, .string r10_0_3, .string r10_0_4, .string r10_0_5] ⟨c_, 0, none⟩ 0 w3 fun w4 =>
  Bm (r10_1 != (0 : Int)) (
    Sts [.int .i64 (9 : Int), .string (ByteArray.mk #[])] ⟨b4, 0, none⟩ 0 w4 fun w5 =>
    LdI .i64 ⟨b4, 0, none⟩ w5 fun r_0 =>
    LdS ⟨b4, 1, none⟩ w5 fun r_1 =>
    R r_0 r_1 w5) (
    LdI .i64 ⟨c_, 2, none⟩ w4.drew fun x17 =>
    LdI .i64 ⟨c_, 1, none⟩ w4.drew fun x20 =>
    Pn k fun a =>
    (0 ≤ x20 ∧ x20 < ((3 : Nat) : Int)) ∧
    LdI .i64 (Addr.add (a.add 9) (x20.toNat * 1)) w4.drew fun x24 =>
    Bm (decide (x17 < x24)) (
      Sts [.int .i64 (10 : Int), .string (ByteArray.mk #[])] ⟨b4, 0, none⟩ 0 w4.drew fun w6 =>
      LdI .i64 ⟨b4, 0, none⟩ w6 fun r_0_1 =>
      LdS ⟨b4, 1, none⟩ w6 fun r_1_1 =>
      R r_0_1 r_1_1 w6) (
      LdI .i64 ⟨c_, 2, none⟩ w4.drew.drew fun x28 =>
      LdI .i64 ⟨c_, 1, none⟩ w4.drew.drew fun x31 =>
      Pn k fun a_1 =>
      (0 ≤ x31 ∧ x31 < ((3 : Nat) : Int)) ∧
      LdI .i64 (Addr.add (a_1.add 9) (x31.toNat * 1)) w4.drew.drew fun x35 =>
      Bm (x28 == x35) (
        LdI .i64 ⟨c_, 1, none⟩ w4.drew.drew.drew fun x39 =>
        Pn k fun a_2 =>
        (0 ≤ x39 ∧ x39 < ((3 : Nat) : Int)) ∧
        LdI .i64 (Addr.add (a_2.add 12) (x39.toNat * 2)) w4.drew.drew.drew fun x43_0 =>
        LdS ((Addr.add (a_2.add 12) (x39.toNat * 2)).add 1) w4.drew.drew.drew fun x43_1 =>
        Sts [.int .i64 x43_0, .string x43_1] ⟨b4, 0, none⟩ 0 w4.drew.drew.drew fun w7 =>
        LdI .i64 ⟨b4, 0, none⟩ w7 fun r_0_2 =>
        LdS ⟨b4, 1, none⟩ w7 fun r_1_2 =>
        R r_0_2 r_1_2 w7) (
        LdI .i64 ⟨c_, 0, none⟩ w4.drew.drew fun x45_0 =>
        LdI .i64 ⟨c_, 1, none⟩ w4.drew.drew fun x45_1 =>
        LdI .i64 ⟨c_, 2, none⟩ w4.drew.drew fun x45_2 =>
        LdS ⟨c_, 3, none⟩ w4.drew.drew fun x45_3 =>
        LdS ⟨c_, 4, none⟩ w4.drew.drew fun x45_4 =>
        LdS ⟨c_, 5, none⟩ w4.drew.drew fun x45_5 =>
        kvm_KV_run.Call k x45_0 x45_1 x45_2 x45_3 x45_4 x45_5 w4.drew.drew fun r46_0 r46_1 w8 =>
        New (.cells #[.int .i64 (0 : Int), .string (ByteArray.mk #[])] 93) w8 fun a_ w9 =>
        Sts [.int .i64 r46_0, .string r46_1] ⟨a_, 0, none⟩ 0 w9 fun w10 =>
        LdI .i64 ⟨c_, 1, none⟩ w10.drew fun x49 =>
        LdI .i64 ⟨c_, 1, none⟩ w10.drew fun x52 =>
        LdI .i64 ⟨c_, 2, none⟩ w10.drew fun x54 =>
        LdI .i64 ⟨a_, 0, none⟩ w10.drew fun x55_0 =>
        LdS ⟨a_, 1, none⟩ w10.drew fun x55_1 =>
        Pn k fun a_3 =>
        (0 ≤ x49 ∧ x49 < ((3 : Nat) : Int)) ∧
        Pn k fun a_4 =>
        Sts [.int .i64 x54] (Addr.add (a_3.add 9) (x49.toNat * 1)) 0 w10.drew fun w11 =>
        w11.cell? ⟨a_, 0, none⟩ = some (.int .i64 x55_0) ∧
        w11.cell? ⟨a_, 1, none⟩ = some (.string x55_1) ∧
        w11.cell? ⟨c_, 1, none⟩ = some (.int .i64 x52) ∧
        (0 ≤ x52 ∧ x52 < ((3 : Nat) : Int)) ∧
        Sts [.int .i64 x55_0, .string x55_1] (Addr.add (a_4.add 12) (x52.toNat * 2)) 0 w11 fun w12 =>
        LdI .i64 ⟨a_, 0, none⟩ w12 fun x62_0 =>
        LdS ⟨a_, 1, none⟩ w12 fun x62_1 =>
        Sts [.int .i64 x62_0, .string x62_1] ⟨b4, 0, none⟩ 0 w12 fun w13 =>
        LdI .i64 ⟨b4, 0, none⟩ w13 fun r_0_3 =>
        LdS ⟨b4, 1, none⟩ w13 fun r_1_3 =>
        R r_0_3 r_1_3 w13)))) = kstep Tryz.prog 63 Tryz.f170.results.toList (Tryz.f170.body.getD .skip) (kvm_KV_Apply.RV R) (kvc Tryz.prog 63 Tryz.f170.results.toList (Tryz.f170.body.getD .skip) (kvm_KV_Apply.RV R) [] 2000) [(0, [])] [(0, .pointer k), (1, .string data)] w := by kernel_rfl
theorem kvm_KV_Apply.B0_sound {R : Int → ByteArray → World → Prop}  (k : Option Addr) (data : ByteArray) (w : World) (h : kvm_KV_Apply.B0 k data w   R) :
    KW Tryz.prog 170 63 (kvm_KV_Apply.RV R) ([(0, [])].map (toItem (Tryz.f170.body.getD .skip))) [(0, .pointer k), (1, .string data)] w := by
  exact block_spec Tryz.func170 Tryz.mixed stops_nil (Eq.mp (kvm_KV_Apply.B0_eq k data w   R ) h)
theorem kvm_KV_Apply.sound (k : Option Addr) (data : ByteArray) (w : World) (R : Int → ByteArray → World → Prop) (h : kvm_KV_Apply.B0 k data w R) : kvm_KV_Apply.Call k data w R := by
  have hc := calls_of_block (args := #[.pointer k, .string data]) Tryz.func170 (body := (Tryz.f170.body.getD .skip)) (by kernel_rfl) (by kernel_rfl) (args_slot _) (kvm_KV_Apply.B0_sound k data w h)
  exact hc.mono fun e w' he => by
    obtain ⟨v, rfl, hv⟩ := he
    exact kvm_KV_Apply.RV_elim hv
def api_DecodeCmd.B1 (s : ByteArray) (t2 c : Nat) (p f n : Int) (w : World) (N1 : ByteArray → Nat → Nat → Int → Int → World → Prop)  (R : Int → Int → Int → ByteArray → ByteArray → ByteArray → Int → World → Prop) : Prop :=
  N1 s t2 c (IntKind.i64.wrap (p + (IntKind.i64.wrap ((1 : Int) + n)))) (IntKind.i64.wrap (f + (1 : Int))) w
theorem api_DecodeCmd.B1_eq (s : ByteArray) (t2 c : Nat) (p f n : Int) (w : World) (N1 : ByteArray → Nat → Nat → Int → Int → World → Prop)  (R : Int → Int → Int → ByteArray → ByteArray → ByteArray → Int → World → Prop)  :
    (
  N1 s t2 c (IntKind.i64.wrap (p + (IntKind.i64.wrap ((1 : Int) + n)))) (IntKind.i64.wrap (f + (1 : Int))) w) = kstep Tryz.prog 78 Tryz.f171.results.toList (Tryz.f171.body.getD .skip) (api_DecodeCmd.RV R) (kvc Tryz.prog 78 Tryz.f171.results.toList (Tryz.f171.body.getD .skip) (api_DecodeCmd.RV R) [([(0, [1, 1, 1, 1, 1, 0, 1, 0, 0]), (2, [1, 1, 1, 1, 1, 0, 1, 0, 0]), (1, [0]), (0, [1, 1, 1, 1, 1, 1])], fun σ w => dS (slotOf σ 0) fun s_ => dK (slotOf σ 2) fun t2_ => dK (slotOf σ 4) fun c_ => dI .i64 (slotOf σ 5) fun p_ => dI .i64 (slotOf σ 6) fun f_ => N1 s_ t2_ c_ p_ f_ w)] 2000) [(0, [1, 1, 1, 1, 1, 0, 1, 0, 0, 1, 0, 0, 1, 1, 1, 1, 1]), (1, [1]), (0, [1, 1, 1, 1, 1, 0, 1, 0, 0, 1, 1]), (2, [1, 1, 1, 1, 1, 0, 1, 0, 0]), (1, [0]), (0, [1, 1, 1, 1, 1, 1])] [(0, .string s), (2, .pointer (some ⟨t2, 0, none⟩)), (4, .pointer (some ⟨c, 0, none⟩)), (5, .int .i64 p), (6, .int .i64 f), (7, .int .i64 n)] w := by kernel_rfl
theorem api_DecodeCmd.B1_sound {R : Int → Int → Int → ByteArray → ByteArray → ByteArray → Int → World → Prop} {N1 : ByteArray → Nat → Nat → Int → Int → World → Prop} (hN1 : ∀ s t2 c p f w, N1 s t2 c p f w → KW Tryz.prog 171 78 (api_DecodeCmd.RV R) ([(0, [1, 1, 1, 1, 1, 0, 1, 0, 0]), (2, [1, 1, 1, 1, 1, 0, 1, 0, 0]), (1, [0]), (0, [1, 1, 1, 1, 1, 1])].map (toItem (Tryz.f171.body.getD .skip))) [(0, .string s), (2, .pointer (some ⟨t2, 0, none⟩)), (4, .pointer (some ⟨c, 0, none⟩)), (5, .int .i64 p), (6, .int .i64 f)] w) (s : ByteArray) (t2 c : Nat) (p f n : Int) (w : World) (h : api_DecodeCmd.B1 s t2 c p f n w N1  R) :
    KW Tryz.prog 171 78 (api_DecodeCmd.RV R) ([(0, [1, 1, 1, 1, 1, 0, 1, 0, 0, 1, 0, 0, 1, 1, 1, 1, 1]), (1, [1]), (0, [1, 1, 1, 1, 1, 0, 1, 0, 0, 1, 1]), (2, [1, 1, 1, 1, 1, 0, 1, 0, 0]), (1, [0]), (0, [1, 1, 1, 1, 1, 1])].map (toItem (Tryz.f171.body.getD .skip))) [(0, .string s), (2, .pointer (some ⟨t2, 0, none⟩)), (4, .pointer (some ⟨c, 0, none⟩)), (5, .int .i64 p), (6, .int .i64 f), (7, .int .i64 n)] w := by
  exact block_spec Tryz.func171 Tryz.mixed (stops_cons (fun σ w h => by
      obtain ⟨s_, e0, h⟩ := dS_elim h
      obtain ⟨t2_, e1, h⟩ := dK_elim h
      obtain ⟨c_, e2, h⟩ := dK_elim h
      obtain ⟨p_, e3, h⟩ := dI_elim h
      obtain ⟨f_, e4, h⟩ := dI_elim h
      exact (hN1 s_ t2_ c_ p_ f_ w h).weaken (Sub.cons (Sub.cons (Sub.cons (Sub.cons (Sub.cons (Sub.nil _) e4) e3) e2) e1) e0)) stops_nil) (Eq.mp (api_DecodeCmd.B1_eq s t2 c p f n w N1  R ) h)
def api_DecodeCmd.B2 (t2 c : Nat) (t75 : Bool) (w : World)   (R : Int → Int → Int → ByteArray → ByteArray → ByteArray → Int → World → Prop) : Prop :=
  Bm t75 (
    Sts [.int .i64 (0 : Int), .int .i64 (0 : Int), .int .i64 (0 : Int), .string (ByteArray.mk #[]), .string (ByteArray.mk #[]), .string (ByteArray.mk #[])] ⟨t2, 0, none⟩ 0 w fun w1 =>
    LdI .i64 ⟨t2, 0, none⟩ w1 fun r_0 =>
    LdI .i64 ⟨t2, 1, none⟩ w1 fun r_1 =>
    LdI .i64 ⟨t2, 2, none⟩ w1 fun r_2 =>
    LdS ⟨t2, 3, none⟩ w1 fun r_3 =>
    LdS ⟨t2, 4, none⟩ w1 fun r_4 =>
    LdS ⟨t2, 5, none⟩ w1 fun r_5 =>
    R r_0 r_1 r_2 r_3 r_4 r_5 (9 : Int) w1) (
    LdI .i64 ⟨c, 0, none⟩ w fun x77_0 =>
    LdI .i64 ⟨c, 1, none⟩ w fun x77_1 =>
    LdI .i64 ⟨c, 2, none⟩ w fun x77_2 =>
    LdS ⟨c, 3, none⟩ w fun x77_3 =>
    LdS ⟨c, 4, none⟩ w fun x77_4 =>
    LdS ⟨c, 5, none⟩ w fun x77_5 =>
    Sts [.int .i64 x77_0, .int .i64 x77_1, .int .i64 x77_2, .string x77_3, .string x77_4, .string x77_5] ⟨t2, 0, none⟩ 0 w fun w2 =>
    LdI .i64 ⟨t2, 0, none⟩ w2 fun r_0_1 =>
    LdI .i64 ⟨t2, 1, none⟩ w2 fun r_1_1 =>
    LdI .i64 ⟨t2, 2, none⟩ w2 fun r_2_1 =>
    LdS ⟨t2, 3, none⟩ w2 fun r_3_1 =>
    LdS ⟨t2, 4, none⟩ w2 fun r_4_1 =>
    LdS ⟨t2, 5, none⟩ w2 fun r_5_1 =>
    R r_0_1 r_1_1 r_2_1 r_3_1 r_4_1 r_5_1 (0 : Int) w2)
theorem api_DecodeCmd.B2_eq (t2 c : Nat) (t75 : Bool) (w : World)   (R : Int → Int → Int → ByteArray → ByteArray → ByteArray → Int → World → Prop)  :
    (
  Bm t75 (
    Sts [.int .i64 (0 : Int), .int .i64 (0 : Int), .int .i64 (0 : Int), .string (ByteArray.mk #[]), .string (ByteArray.mk #[]), .string (ByteArray.mk #[])] ⟨t2, 0, none⟩ 0 w fun w1 =>
    LdI .i64 ⟨t2, 0, none⟩ w1 fun r_0 =>
    LdI .i64 ⟨t2, 1, none⟩ w1 fun r_1 =>
    LdI .i64 ⟨t2, 2, none⟩ w1 fun r_2 =>
    LdS ⟨t2, 3, none⟩ w1 fun r_3 =>
    LdS ⟨t2, 4, none⟩ w1 fun r_4 =>
    LdS ⟨t2, 5, none⟩ w1 fun r_5 =>
    R r_0 r_1 r_2 r_3 r_4 r_5 (9 : Int) w1) (
    LdI .i64 ⟨c, 0, none⟩ w fun x77_0 =>
    LdI .i64 ⟨c, 1, none⟩ w fun x77_1 =>
    LdI .i64 ⟨c, 2, none⟩ w fun x77_2 =>
    LdS ⟨c, 3, none⟩ w fun x77_3 =>
    LdS ⟨c, 4, none⟩ w fun x77_4 =>
    LdS ⟨c, 5, none⟩ w fun x77_5 =>
    Sts [.int .i64 x77_0, .int .i64 x77_1, .int .i64 x77_2, .string x77_3, .string x77_4, .string x77_5] ⟨t2, 0, none⟩ 0 w fun w2 =>
    LdI .i64 ⟨t2, 0, none⟩ w2 fun r_0_1 =>
    LdI .i64 ⟨t2, 1, none⟩ w2 fun r_1_1 =>
    LdI .i64 ⟨t2, 2, none⟩ w2 fun r_2_1 =>
    LdS ⟨t2, 3, none⟩ w2 fun r_3_1 =>
    LdS ⟨t2, 4, none⟩ w2 fun r_4_1 =>
    LdS ⟨t2, 5, none⟩ w2 fun r_5_1 =>
    R r_0_1 r_1_1 r_2_1 r_3_1 r_4_1 r_5_1 (0 : Int) w2)) = kstep Tryz.prog 78 Tryz.f171.results.toList (Tryz.f171.body.getD .skip) (api_DecodeCmd.RV R) (kvc Tryz.prog 78 Tryz.f171.results.toList (Tryz.f171.body.getD .skip) (api_DecodeCmd.RV R) [] 2000) [(0, [1, 1, 1, 1, 1, 1, 0, 1]), (0, [1, 1, 1, 1, 1, 1, 1])] [(2, .pointer (some ⟨t2, 0, none⟩)), (4, .pointer (some ⟨c, 0, none⟩)), (75, .bool t75)] w := by kernel_rfl
theorem api_DecodeCmd.B2_sound {R : Int → Int → Int → ByteArray → ByteArray → ByteArray → Int → World → Prop}  (t2 c : Nat) (t75 : Bool) (w : World) (h : api_DecodeCmd.B2 t2 c t75 w   R) :
    KW Tryz.prog 171 78 (api_DecodeCmd.RV R) ([(0, [1, 1, 1, 1, 1, 1, 0, 1]), (0, [1, 1, 1, 1, 1, 1, 1])].map (toItem (Tryz.f171.body.getD .skip))) [(2, .pointer (some ⟨t2, 0, none⟩)), (4, .pointer (some ⟨c, 0, none⟩)), (75, .bool t75)] w := by
  exact block_spec Tryz.func171 Tryz.mixed stops_nil (Eq.mp (api_DecodeCmd.B2_eq t2 c t75 w   R ) h)
def api_DecodeCmd.L1b (s : ByteArray) (t2 c : Nat) (p f : Int) (w : World)  (N1 : ByteArray → Nat → Nat → Int → Int → World → Prop) (R : Int → Int → Int → ByteArray → ByteArray → ByteArray → Int → World → Prop) : Prop :=
  Bm (decide (f < (3 : Int))) (
    Bm (decide (p ≥ ((s.size : Nat) : Int))) (
      Sts [.int .i64 (0 : Int), .int .i64 (0 : Int), .int .i64 (0 : Int), .string (ByteArray.mk #[]), .string (ByteArray.mk #[]), .string (ByteArray.mk #[])] ⟨t2, 0, none⟩ 0 w fun w1 =>
      LdI .i64 ⟨t2, 0, none⟩ w1 fun r_0 =>
      LdI .i64 ⟨t2, 1, none⟩ w1 fun r_1 =>
      LdI .i64 ⟨t2, 2, none⟩ w1 fun r_2 =>
      LdS ⟨t2, 3, none⟩ w1 fun r_3 =>
      LdS ⟨t2, 4, none⟩ w1 fun r_4 =>
      LdS ⟨t2, 5, none⟩ w1 fun r_5 =>
      R r_0 r_1 r_2 r_3 r_4 r_5 (9 : Int) w1) (
      (0 ≤ p ∧ p < ((s.size : Nat) : Int)) ∧
      Bm (decide ((IntKind.i64.wrap ((IntKind.i64.wrap (p + (1 : Int))) + (IntKind.i64.wrap (byteAt s p)))) > ((s.size : Nat) : Int))) (
        Sts [.int .i64 (0 : Int), .int .i64 (0 : Int), .int .i64 (0 : Int), .string (ByteArray.mk #[]), .string (ByteArray.mk #[]), .string (ByteArray.mk #[])] ⟨t2, 0, none⟩ 0 w fun w2 =>
        LdI .i64 ⟨t2, 0, none⟩ w2 fun r_0_1 =>
        LdI .i64 ⟨t2, 1, none⟩ w2 fun r_1_1 =>
        LdI .i64 ⟨t2, 2, none⟩ w2 fun r_2_1 =>
        LdS ⟨t2, 3, none⟩ w2 fun r_3_1 =>
        LdS ⟨t2, 4, none⟩ w2 fun r_4_1 =>
        LdS ⟨t2, 5, none⟩ w2 fun r_5_1 =>
        R r_0_1 r_1_1 r_2_1 r_3_1 r_4_1 r_5_1 (9 : Int) w2) (
        (0 ≤ (IntKind.i64.wrap ((IntKind.i64.wrap (p + (1 : Int))) + (IntKind.i64.wrap (byteAt s p)))) ∧ (IntKind.i64.wrap ((IntKind.i64.wrap (p + (1 : Int))) + (IntKind.i64.wrap (byteAt s p)))) ≤ ((s.size : Nat) : Int)) ∧
        (0 ≤ (IntKind.i64.wrap (p + (1 : Int))) ∧ (IntKind.i64.wrap (p + (1 : Int))) ≤ (IntKind.i64.wrap ((IntKind.i64.wrap (p + (1 : Int))) + (IntKind.i64.wrap (byteAt s p))))) ∧
        Bm (f == (0 : Int)) (
          Sts [.string (s.extract (IntKind.i64.wrap (p + (1 : Int))).toNat (IntKind.i64.wrap ((IntKind.i64.wrap (p + (1 : Int))) + (IntKind.i64.wrap (byteAt s p)))).toNat)] ⟨c, 3, none⟩ 0 w fun w3 =>
          api_DecodeCmd.B1 s t2 c p f (IntKind.i64.wrap (byteAt s p)) w3 N1 R) (
          Bm (f == (1 : Int)) (
            Sts [.string (s.extract (IntKind.i64.wrap (p + (1 : Int))).toNat (IntKind.i64.wrap ((IntKind.i64.wrap (p + (1 : Int))) + (IntKind.i64.wrap (byteAt s p)))).toNat)] ⟨c, 4, none⟩ 0 w fun w4 =>
            api_DecodeCmd.B1 s t2 c p f (IntKind.i64.wrap (byteAt s p)) w4 N1 R) (
            Sts [.string (s.extract (IntKind.i64.wrap (p + (1 : Int))).toNat (IntKind.i64.wrap ((IntKind.i64.wrap (p + (1 : Int))) + (IntKind.i64.wrap (byteAt s p)))).toNat)] ⟨c, 5, none⟩ 0 w fun w5 =>
            api_DecodeCmd.B1 s t2 c p f (IntKind.i64.wrap (byteAt s p)) w5 N1 R))))) (
    Bm (p != ((s.size : Nat) : Int)) (
      api_DecodeCmd.B2 t2 c true w  R) (
      LdI .i64 ⟨c, 0, none⟩ w fun x72_0 =>
      LdI .i64 ⟨c, 1, none⟩ w fun x72_1 =>
      LdI .i64 ⟨c, 2, none⟩ w fun x72_2 =>
      LdS ⟨c, 3, none⟩ w fun x72_3 =>
      LdS ⟨c, 4, none⟩ w fun x72_4 =>
      LdS ⟨c, 5, none⟩ w fun x72_5 =>
      api_CmdOK.Call x72_0 x72_1 x72_2 x72_3 x72_4 x72_5 w fun r73 w6 =>
      api_DecodeCmd.B2 t2 c (!r73) w6  R))
theorem api_DecodeCmd.L1b_eq (s : ByteArray) (t2 c : Nat) (p f : Int) (w : World)  (N1 : ByteArray → Nat → Nat → Int → Int → World → Prop) (R : Int → Int → Int → ByteArray → ByteArray → ByteArray → Int → World → Prop) (sB1 : ByteArray → Nat → Nat → Int → Int → Int → World → Prop) (sB2 : Nat → Nat → Bool → World → Prop) :
    (
  Bm (decide (f < (3 : Int))) (
    Bm (decide (p ≥ ((s.size : Nat) : Int))) (
      Sts [.int .i64 (0 : Int), .int .i64 (0 : Int), .int .i64 (0 : Int), .string (ByteArray.mk #[]), .string (ByteArray.mk #[]), .string (ByteArray.mk #[])] ⟨t2, 0, none⟩ 0 w fun w1 =>
      LdI .i64 ⟨t2, 0, none⟩ w1 fun r_0 =>
      LdI .i64 ⟨t2, 1, none⟩ w1 fun r_1 =>
      LdI .i64 ⟨t2, 2, none⟩ w1 fun r_2 =>
      LdS ⟨t2, 3, none⟩ w1 fun r_3 =>
      LdS ⟨t2, 4, none⟩ w1 fun r_4 =>
      LdS ⟨t2, 5, none⟩ w1 fun r_5 =>
      R r_0 r_1 r_2 r_3 r_4 r_5 (9 : Int) w1) (
      (0 ≤ p ∧ p < ((s.size : Nat) : Int)) ∧
      Bm (decide ((IntKind.i64.wrap ((IntKind.i64.wrap (p + (1 : Int))) + (IntKind.i64.wrap (byteAt s p)))) > ((s.size : Nat) : Int))) (
        Sts [.int .i64 (0 : Int), .int .i64 (0 : Int), .int .i64 (0 : Int), .string (ByteArray.mk #[]), .string (ByteArray.mk #[]), .string (ByteArray.mk #[])] ⟨t2, 0, none⟩ 0 w fun w2 =>
        LdI .i64 ⟨t2, 0, none⟩ w2 fun r_0_1 =>
        LdI .i64 ⟨t2, 1, none⟩ w2 fun r_1_1 =>
        LdI .i64 ⟨t2, 2, none⟩ w2 fun r_2_1 =>
        LdS ⟨t2, 3, none⟩ w2 fun r_3_1 =>
        LdS ⟨t2, 4, none⟩ w2 fun r_4_1 =>
        LdS ⟨t2, 5, none⟩ w2 fun r_5_1 =>
        R r_0_1 r_1_1 r_2_1 r_3_1 r_4_1 r_5_1 (9 : Int) w2) (
        (0 ≤ (IntKind.i64.wrap ((IntKind.i64.wrap (p + (1 : Int))) + (IntKind.i64.wrap (byteAt s p)))) ∧ (IntKind.i64.wrap ((IntKind.i64.wrap (p + (1 : Int))) + (IntKind.i64.wrap (byteAt s p)))) ≤ ((s.size : Nat) : Int)) ∧
        (0 ≤ (IntKind.i64.wrap (p + (1 : Int))) ∧ (IntKind.i64.wrap (p + (1 : Int))) ≤ (IntKind.i64.wrap ((IntKind.i64.wrap (p + (1 : Int))) + (IntKind.i64.wrap (byteAt s p))))) ∧
        Bm (f == (0 : Int)) (
          Sts [.string (s.extract (IntKind.i64.wrap (p + (1 : Int))).toNat (IntKind.i64.wrap ((IntKind.i64.wrap (p + (1 : Int))) + (IntKind.i64.wrap (byteAt s p)))).toNat)] ⟨c, 3, none⟩ 0 w fun w3 =>
          sB1 s t2 c p f (IntKind.i64.wrap (byteAt s p)) w3) (
          Bm (f == (1 : Int)) (
            Sts [.string (s.extract (IntKind.i64.wrap (p + (1 : Int))).toNat (IntKind.i64.wrap ((IntKind.i64.wrap (p + (1 : Int))) + (IntKind.i64.wrap (byteAt s p)))).toNat)] ⟨c, 4, none⟩ 0 w fun w4 =>
            sB1 s t2 c p f (IntKind.i64.wrap (byteAt s p)) w4) (
            Sts [.string (s.extract (IntKind.i64.wrap (p + (1 : Int))).toNat (IntKind.i64.wrap ((IntKind.i64.wrap (p + (1 : Int))) + (IntKind.i64.wrap (byteAt s p)))).toNat)] ⟨c, 5, none⟩ 0 w fun w5 =>
            sB1 s t2 c p f (IntKind.i64.wrap (byteAt s p)) w5))))) (
    Bm (p != ((s.size : Nat) : Int)) (
      sB2 t2 c true w) (
      LdI .i64 ⟨c, 0, none⟩ w fun x72_0 =>
      LdI .i64 ⟨c, 1, none⟩ w fun x72_1 =>
      LdI .i64 ⟨c, 2, none⟩ w fun x72_2 =>
      LdS ⟨c, 3, none⟩ w fun x72_3 =>
      LdS ⟨c, 4, none⟩ w fun x72_4 =>
      LdS ⟨c, 5, none⟩ w fun x72_5 =>
      api_CmdOK.Call x72_0 x72_1 x72_2 x72_3 x72_4 x72_5 w fun r73 w6 =>
      sB2 t2 c (!r73) w6))) = kstep Tryz.prog 78 Tryz.f171.results.toList (Tryz.f171.body.getD .skip) (api_DecodeCmd.RV R) (kvc Tryz.prog 78 Tryz.f171.results.toList (Tryz.f171.body.getD .skip) (api_DecodeCmd.RV R) [([(0, [1, 1, 1, 1, 1, 0, 1, 0, 0, 1, 0, 0, 1, 1, 1, 1, 1]), (1, [1]), (0, [1, 1, 1, 1, 1, 0, 1, 0, 0, 1, 1]), (2, [1, 1, 1, 1, 1, 0, 1, 0, 0]), (1, [0]), (0, [1, 1, 1, 1, 1, 1])], fun σ w => dS (slotOf σ 0) fun s_ => dK (slotOf σ 2) fun t2_ => dK (slotOf σ 4) fun c_ => dI .i64 (slotOf σ 5) fun p_ => dI .i64 (slotOf σ 6) fun f_ => dI .i64 (slotOf σ 7) fun n_ => sB1 s_ t2_ c_ p_ f_ n_ w),
    ([(0, [1, 1, 1, 1, 1, 1, 0, 1]), (0, [1, 1, 1, 1, 1, 1, 1])], fun σ w => dK (slotOf σ 2) fun t2_ => dK (slotOf σ 4) fun c_ => dB (slotOf σ 75) fun t75_ => sB2 t2_ c_ t75_ w)] 2000) [(0, [1, 1, 1, 1, 1, 0, 1, 0, 0]), (2, [1, 1, 1, 1, 1, 0, 1, 0, 0]), (1, [0]), (0, [1, 1, 1, 1, 1, 1])] [(0, .string s), (2, .pointer (some ⟨t2, 0, none⟩)), (4, .pointer (some ⟨c, 0, none⟩)), (5, .int .i64 p), (6, .int .i64 f)] w := by kernel_rfl
theorem api_DecodeCmd.L1b_sound {R : Int → Int → Int → ByteArray → ByteArray → ByteArray → Int → World → Prop} {N1 : ByteArray → Nat → Nat → Int → Int → World → Prop} (hN1 : ∀ s t2 c p f w, N1 s t2 c p f w → KW Tryz.prog 171 78 (api_DecodeCmd.RV R) ([(0, [1, 1, 1, 1, 1, 0, 1, 0, 0]), (2, [1, 1, 1, 1, 1, 0, 1, 0, 0]), (1, [0]), (0, [1, 1, 1, 1, 1, 1])].map (toItem (Tryz.f171.body.getD .skip))) [(0, .string s), (2, .pointer (some ⟨t2, 0, none⟩)), (4, .pointer (some ⟨c, 0, none⟩)), (5, .int .i64 p), (6, .int .i64 f)] w) (s : ByteArray) (t2 c : Nat) (p f : Int) (w : World) (h : api_DecodeCmd.L1b s t2 c p f w  N1 R) :
    KW Tryz.prog 171 78 (api_DecodeCmd.RV R) ([(0, [1, 1, 1, 1, 1, 0, 1, 0, 0]), (2, [1, 1, 1, 1, 1, 0, 1, 0, 0]), (1, [0]), (0, [1, 1, 1, 1, 1, 1])].map (toItem (Tryz.f171.body.getD .skip))) [(0, .string s), (2, .pointer (some ⟨t2, 0, none⟩)), (4, .pointer (some ⟨c, 0, none⟩)), (5, .int .i64 p), (6, .int .i64 f)] w := by
  exact block_spec Tryz.func171 Tryz.mixed (stops_cons (fun σ w h => by
      obtain ⟨s_, e0, h⟩ := dS_elim h
      obtain ⟨t2_, e1, h⟩ := dK_elim h
      obtain ⟨c_, e2, h⟩ := dK_elim h
      obtain ⟨p_, e3, h⟩ := dI_elim h
      obtain ⟨f_, e4, h⟩ := dI_elim h
      obtain ⟨n_, e5, h⟩ := dI_elim h
      exact (api_DecodeCmd.B1_sound hN1 s_ t2_ c_ p_ f_ n_ w h).weaken (Sub.cons (Sub.cons (Sub.cons (Sub.cons (Sub.cons (Sub.cons (Sub.nil _) e5) e4) e3) e2) e1) e0)) (stops_cons (fun σ w h => by
      obtain ⟨t2_, e0, h⟩ := dK_elim h
      obtain ⟨c_, e1, h⟩ := dK_elim h
      obtain ⟨t75_, e2, h⟩ := dB_elim h
      exact (api_DecodeCmd.B2_sound  t2_ c_ t75_ w h).weaken (Sub.cons (Sub.cons (Sub.cons (Sub.nil _) e2) e1) e0)) stops_nil)) (Eq.mp (api_DecodeCmd.L1b_eq s t2 c p f w  N1 R (fun s_ t2_ c_ p_ f_ n_ w => api_DecodeCmd.B1 s_ t2_ c_ p_ f_ n_ w N1 R) (fun t2_ c_ t75_ w => api_DecodeCmd.B2 t2_ c_ t75_ w  R)) h)
def api_DecodeCmd.L1 (s : ByteArray) (t2 c : Nat) (p f : Int) (w : World)  (R : Int → Int → Int → ByteArray → ByteArray → ByteArray → Int → World → Prop) : Prop :=
  ∃ (I : Nat → ByteArray → Nat → Nat → Int → Int → World → Prop) (m : Nat), I m s t2 c p f w ∧ ∀ m s t2 c p f w, I m s t2 c p f w → api_DecodeCmd.L1b s t2 c p f w  (fun s' t2' c' p' f' w' => ∃ m', m' < m ∧ I m' s' t2' c' p' f' w') R
theorem api_DecodeCmd.L1_sound {R : Int → Int → Int → ByteArray → ByteArray → ByteArray → Int → World → Prop}  (s : ByteArray) (t2 c : Nat) (p f : Int) (w : World) (h : api_DecodeCmd.L1 s t2 c p f w  R) :
    KW Tryz.prog 171 78 (api_DecodeCmd.RV R) ([(0, [1, 1, 1, 1, 1, 0, 1, 0, 0]), (2, [1, 1, 1, 1, 1, 0, 1, 0, 0]), (1, [0]), (0, [1, 1, 1, 1, 1, 1])].map (toItem (Tryz.f171.body.getD .skip))) [(0, .string s), (2, .pointer (some ⟨t2, 0, none⟩)), (4, .pointer (some ⟨c, 0, none⟩)), (5, .int .i64 p), (6, .int .i64 f)] w := by
  obtain ⟨I, m, hBase, hr⟩ := h
  refine KW.loop (fun m σ w => ∃ (s : ByteArray) (t2 c : Nat) (p f : Int), σ = [(0, .string s), (2, .pointer (some ⟨t2, 0, none⟩)), (4, .pointer (some ⟨c, 0, none⟩)), (5, .int .i64 p), (6, .int .i64 f)] ∧ I m s t2 c p f w) ?_ m _ w ⟨s, t2, c, p, f, rfl, hBase⟩
  rintro m ih σ w ⟨s, t2, c, p, f, rfl, hI⟩
  exact api_DecodeCmd.L1b_sound  (N1 := fun s' t2' c' p' f' w' => ∃ m', m' < m ∧ I m' s' t2' c' p' f' w') (fun s' t2' c' p' f' w' hx => by obtain ⟨m', hlt, hI'⟩ := hx; exact ih m' hlt _ w' ⟨s', t2', c', p', f', rfl, hI'⟩) s t2 c p f w (hr m s t2 c p f w hI)
def api_DecodeCmd.B0 (s : ByteArray) (w : World)   (R : Int → Int → Int → ByteArray → ByteArray → ByteArray → Int → World → Prop) : Prop :=
  New (.cells #[.int .i64 (0 : Int), .int .i64 (0 : Int), .int .i64 (0 : Int), .string (ByteArray.mk #[]), .string (ByteArray.mk #[]), .string (ByteArray.mk #[])] 87) w fun b2 w1 =>
  New (.cells #[.int .i64 (0 : Int), .int .i64 (0 : Int), .int .i64 (0 : Int), .string (ByteArray.mk #[]), .string (ByteArray.mk #[]), .string (ByteArray.mk #[])] 87) w1 fun c_ w2 =>
  Bm (decide (((s.size : Nat) : Int) < (13 : Int))) (
    Sts [.int .i64 (0 : Int), .int .i64 (0 : Int), .int .i64 (0 : Int), .string (ByteArray.mk #[]), .string (ByteArray.mk #[]), .string (ByteArray.mk #[])] ⟨b2, 0, none⟩ 0 w2 fun w3 =>
    LdI .i64 ⟨b2, 0, none⟩ w3 fun r_0 =>
    LdI .i64 ⟨b2, 1, none⟩ w3 fun r_1 =>
    LdI .i64 ⟨b2, 2, none⟩ w3 fun r_2 =>
    LdS ⟨b2, 3, none⟩ w3 fun r_3 =>
    LdS ⟨b2, 4, none⟩ w3 fun r_4 =>
    LdS ⟨b2, 5, none⟩ w3 fun r_5 =>
    R r_0 r_1 r_2 r_3 r_4 r_5 (9 : Int) w3) (
    (0 ≤ (0 : Int) ∧ (0 : Int) < ((s.size : Nat) : Int)) ∧
    (0 ≤ (1 : Int) ∧ (1 : Int) < ((s.size : Nat) : Int)) ∧
    api_GetU64.Call s (2 : Int) w2.drew fun r20 w4 =>
    Sts [.int .i64 (IntKind.i64.wrap (byteAt s (0 : Int)))] ⟨c_, 0, none⟩ 0 w4 fun w5 =>
    Sts [.int .i64 (IntKind.i64.wrap (byteAt s (1 : Int)))] ⟨c_, 1, none⟩ 0 w5 fun w6 =>
    Sts [.int .i64 r20] ⟨c_, 2, none⟩ 0 w6 fun w7 =>
    api_DecodeCmd.L1 s b2 c_ (10 : Int) (0 : Int) w7  R)
theorem api_DecodeCmd.B0_eq (s : ByteArray) (w : World)   (R : Int → Int → Int → ByteArray → ByteArray → ByteArray → Int → World → Prop) (sL1 : ByteArray → Nat → Nat → Int → Int → World → Prop) :
    (
  New (.cells #[.int .i64 (0 : Int), .int .i64 (0 : Int), .int .i64 (0 : Int), .string (ByteArray.mk #[]), .string (ByteArray.mk #[]), .string (ByteArray.mk #[])] 87) w fun b2 w1 =>
  New (.cells #[.int .i64 (0 : Int), .int .i64 (0 : Int), .int .i64 (0 : Int), .string (ByteArray.mk #[]), .string (ByteArray.mk #[]), .string (ByteArray.mk #[])] 87) w1 fun c_ w2 =>
  Bm (decide (((s.size : Nat) : Int) < (13 : Int))) (
    Sts [.int .i64 (0 : Int), .int .i64 (0 : Int), .int .i64 (0 : Int), .string (ByteArray.mk #[]), .string (ByteArray.mk #[]), .string (ByteArray.mk #[])] ⟨b2, 0, none⟩ 0 w2 fun w3 =>
    LdI .i64 ⟨b2, 0, none⟩ w3 fun r_0 =>
    LdI .i64 ⟨b2, 1, none⟩ w3 fun r_1 =>
    LdI .i64 ⟨b2, 2, none⟩ w3 fun r_2 =>
    LdS ⟨b2, 3, none⟩ w3 fun r_3 =>
    LdS ⟨b2, 4, none⟩ w3 fun r_4 =>
    LdS ⟨b2, 5, none⟩ w3 fun r_5 =>
    R r_0 r_1 r_2 r_3 r_4 r_5 (9 : Int) w3) (
    (0 ≤ (0 : Int) ∧ (0 : Int) < ((s.size : Nat) : Int)) ∧
    (0 ≤ (1 : Int) ∧ (1 : Int) < ((s.size : Nat) : Int)) ∧
    api_GetU64.Call s (2 : Int) w2.drew fun r20 w4 =>
    Sts [.int .i64 (IntKind.i64.wrap (byteAt s (0 : Int)))] ⟨c_, 0, none⟩ 0 w4 fun w5 =>
    Sts [.int .i64 (IntKind.i64.wrap (byteAt s (1 : Int)))] ⟨c_, 1, none⟩ 0 w5 fun w6 =>
    Sts [.int .i64 r20] ⟨c_, 2, none⟩ 0 w6 fun w7 =>
    sL1 s b2 c_ (10 : Int) (0 : Int) w7)) = kstep Tryz.prog 78 Tryz.f171.results.toList (Tryz.f171.body.getD .skip) (api_DecodeCmd.RV R) (kvc Tryz.prog 78 Tryz.f171.results.toList (Tryz.f171.body.getD .skip) (api_DecodeCmd.RV R) [([(0, [1, 1, 1, 1, 1, 0, 1, 0, 0]), (2, [1, 1, 1, 1, 1, 0, 1, 0, 0]), (1, [0]), (0, [1, 1, 1, 1, 1, 1])], fun σ w => dS (slotOf σ 0) fun s_ => dK (slotOf σ 2) fun t2_ => dK (slotOf σ 4) fun c_ => dI .i64 (slotOf σ 5) fun p_ => dI .i64 (slotOf σ 6) fun f_ => sL1 s_ t2_ c_ p_ f_ w)] 2000) [(0, [])] [(0, .string s)] w := by kernel_rfl
theorem api_DecodeCmd.B0_sound {R : Int → Int → Int → ByteArray → ByteArray → ByteArray → Int → World → Prop}  (s : ByteArray) (w : World) (h : api_DecodeCmd.B0 s w   R) :
    KW Tryz.prog 171 78 (api_DecodeCmd.RV R) ([(0, [])].map (toItem (Tryz.f171.body.getD .skip))) [(0, .string s)] w := by
  exact block_spec Tryz.func171 Tryz.mixed (stops_cons (fun σ w h => by
      obtain ⟨s_, e0, h⟩ := dS_elim h
      obtain ⟨t2_, e1, h⟩ := dK_elim h
      obtain ⟨c_, e2, h⟩ := dK_elim h
      obtain ⟨p_, e3, h⟩ := dI_elim h
      obtain ⟨f_, e4, h⟩ := dI_elim h
      exact (api_DecodeCmd.L1_sound  s_ t2_ c_ p_ f_ w h).weaken (Sub.cons (Sub.cons (Sub.cons (Sub.cons (Sub.cons (Sub.nil _) e4) e3) e2) e1) e0)) stops_nil) (Eq.mp (api_DecodeCmd.B0_eq s w   R (fun s_ t2_ c_ p_ f_ w => api_DecodeCmd.L1 s_ t2_ c_ p_ f_ w  R)) h)
theorem api_DecodeCmd.sound (s : ByteArray) (w : World) (R : Int → Int → Int → ByteArray → ByteArray → ByteArray → Int → World → Prop) (h : api_DecodeCmd.B0 s w R) : api_DecodeCmd.Call s w R := by
  have hc := calls_of_block (args := #[.string s]) Tryz.func171 (body := (Tryz.f171.body.getD .skip)) (by kernel_rfl) (by kernel_rfl) (args_slot _) (api_DecodeCmd.B0_sound s w h)
  exact hc.mono fun e w' he => by
    obtain ⟨v, rfl, hv⟩ := he
    exact api_DecodeCmd.RV_elim hv
def api_Sum16.L1b (b_b : Option Addr) (b_l b_c : Nat) (s i : Int) (w : World)  (N1 : Option Addr → Nat → Nat → Int → Int → World → Prop) (R : Int → World → Prop) : Prop :=
  Bm (decide (i < ((b_l : Nat) : Int))) (
    Pn b_b fun a =>
    (0 ≤ i ∧ i < ((b_l : Nat) : Int)) ∧
    LdI .u8 (Addr.add a (i.toNat * 1)) w fun x16 =>
    N1 b_b b_l b_c (IntKind.i64.wrap (BitVec.ofInt IntKind.i64.bits (IntKind.i64.wrap ((IntKind.i64.wrap ((IntKind.i64.wrap (s * (31 : Int))) + (IntKind.i64.wrap x16))) + (1 : Int))) &&& BitVec.ofInt IntKind.i64.bits (65535 : Int)).toNat) (IntKind.i64.wrap (i + (1 : Int))) w) (
    R s w)
theorem api_Sum16.L1b_eq (b_b : Option Addr) (b_l b_c : Nat) (s i : Int) (w : World)  (N1 : Option Addr → Nat → Nat → Int → Int → World → Prop) (R : Int → World → Prop)  :
    (
  Bm (decide (i < ((b_l : Nat) : Int))) (
    Pn b_b fun a =>
    (0 ≤ i ∧ i < ((b_l : Nat) : Int)) ∧
    LdI .u8 (Addr.add a (i.toNat * 1)) w fun x16 =>
    N1 b_b b_l b_c (IntKind.i64.wrap (BitVec.ofInt IntKind.i64.bits (IntKind.i64.wrap ((IntKind.i64.wrap ((IntKind.i64.wrap (s * (31 : Int))) + (IntKind.i64.wrap x16))) + (1 : Int))) &&& BitVec.ofInt IntKind.i64.bits (65535 : Int)).toNat) (IntKind.i64.wrap (i + (1 : Int))) w) (
    R s w)) = kstep Tryz.prog 22 Tryz.f172.results.toList (Tryz.f172.body.getD .skip) (api_Sum16.RV R) (kvc Tryz.prog 22 Tryz.f172.results.toList (Tryz.f172.body.getD .skip) (api_Sum16.RV R) [([(0, [1, 1, 0, 1, 0, 0]), (2, [1, 1, 0, 1, 0, 0]), (1, [0]), (0, [1, 1, 1])], fun σ w => dL (slotOf σ 0) fun b_b_ b_l_ b_c_ => dI .i64 (slotOf σ 3) fun s_ => dI .i64 (slotOf σ 4) fun i_ => N1 b_b_ b_l_ b_c_ s_ i_ w)] 2000) [(0, [1, 1, 0, 1, 0, 0]), (2, [1, 1, 0, 1, 0, 0]), (1, [0]), (0, [1, 1, 1])] [(0, .slice b_b b_l b_c), (3, .int .i64 s), (4, .int .i64 i)] w := by kernel_rfl
theorem api_Sum16.L1b_sound {R : Int → World → Prop} {N1 : Option Addr → Nat → Nat → Int → Int → World → Prop} (hN1 : ∀ b_b b_l b_c s i w, N1 b_b b_l b_c s i w → KW Tryz.prog 172 22 (api_Sum16.RV R) ([(0, [1, 1, 0, 1, 0, 0]), (2, [1, 1, 0, 1, 0, 0]), (1, [0]), (0, [1, 1, 1])].map (toItem (Tryz.f172.body.getD .skip))) [(0, .slice b_b b_l b_c), (3, .int .i64 s), (4, .int .i64 i)] w) (b_b : Option Addr) (b_l b_c : Nat) (s i : Int) (w : World) (h : api_Sum16.L1b b_b b_l b_c s i w  N1 R) :
    KW Tryz.prog 172 22 (api_Sum16.RV R) ([(0, [1, 1, 0, 1, 0, 0]), (2, [1, 1, 0, 1, 0, 0]), (1, [0]), (0, [1, 1, 1])].map (toItem (Tryz.f172.body.getD .skip))) [(0, .slice b_b b_l b_c), (3, .int .i64 s), (4, .int .i64 i)] w := by
  exact block_spec Tryz.func172 Tryz.mixed (stops_cons (fun σ w h => by
      obtain ⟨b_b_, b_l_, b_c_, e0, h⟩ := dL_elim h
      obtain ⟨s_, e1, h⟩ := dI_elim h
      obtain ⟨i_, e2, h⟩ := dI_elim h
      exact (hN1 b_b_ b_l_ b_c_ s_ i_ w h).weaken (Sub.cons (Sub.cons (Sub.cons (Sub.nil _) e2) e1) e0)) stops_nil) (Eq.mp (api_Sum16.L1b_eq b_b b_l b_c s i w  N1 R ) h)
def api_Sum16.L1 (b_b : Option Addr) (b_l b_c : Nat) (s i : Int) (w : World)  (R : Int → World → Prop) : Prop :=
  ∃ (I : Nat → Option Addr → Nat → Nat → Int → Int → World → Prop) (m : Nat), I m b_b b_l b_c s i w ∧ ∀ m b_b b_l b_c s i w, I m b_b b_l b_c s i w → api_Sum16.L1b b_b b_l b_c s i w  (fun b_b' b_l' b_c' s' i' w' => ∃ m', m' < m ∧ I m' b_b' b_l' b_c' s' i' w') R
theorem api_Sum16.L1_sound {R : Int → World → Prop}  (b_b : Option Addr) (b_l b_c : Nat) (s i : Int) (w : World) (h : api_Sum16.L1 b_b b_l b_c s i w  R) :
    KW Tryz.prog 172 22 (api_Sum16.RV R) ([(0, [1, 1, 0, 1, 0, 0]), (2, [1, 1, 0, 1, 0, 0]), (1, [0]), (0, [1, 1, 1])].map (toItem (Tryz.f172.body.getD .skip))) [(0, .slice b_b b_l b_c), (3, .int .i64 s), (4, .int .i64 i)] w := by
  obtain ⟨I, m, hBase, hr⟩ := h
  refine KW.loop (fun m σ w => ∃ (b_b : Option Addr) (b_l b_c : Nat) (s i : Int), σ = [(0, .slice b_b b_l b_c), (3, .int .i64 s), (4, .int .i64 i)] ∧ I m b_b b_l b_c s i w) ?_ m _ w ⟨b_b, b_l, b_c, s, i, rfl, hBase⟩
  rintro m ih σ w ⟨b_b, b_l, b_c, s, i, rfl, hI⟩
  exact api_Sum16.L1b_sound  (N1 := fun b_b' b_l' b_c' s' i' w' => ∃ m', m' < m ∧ I m' b_b' b_l' b_c' s' i' w') (fun b_b' b_l' b_c' s' i' w' hx => by obtain ⟨m', hlt, hI'⟩ := hx; exact ih m' hlt _ w' ⟨b_b', b_l', b_c', s', i', rfl, hI'⟩) b_b b_l b_c s i w (hr m b_b b_l b_c s i w hI)
def api_Sum16.B0 (b_b : Option Addr) (b_l b_c : Nat) (w : World)   (R : Int → World → Prop) : Prop :=
  api_Sum16.L1 b_b b_l b_c (7439 : Int) (0 : Int) w  R
theorem api_Sum16.B0_eq (b_b : Option Addr) (b_l b_c : Nat) (w : World)   (R : Int → World → Prop) (sL1 : Option Addr → Nat → Nat → Int → Int → World → Prop) :
    (
  sL1 b_b b_l b_c (7439 : Int) (0 : Int) w) = kstep Tryz.prog 22 Tryz.f172.results.toList (Tryz.f172.body.getD .skip) (api_Sum16.RV R) (kvc Tryz.prog 22 Tryz.f172.results.toList (Tryz.f172.body.getD .skip) (api_Sum16.RV R) [([(0, [1, 1, 0, 1, 0, 0]), (2, [1, 1, 0, 1, 0, 0]), (1, [0]), (0, [1, 1, 1])], fun σ w => dL (slotOf σ 0) fun b_b_ b_l_ b_c_ => dI .i64 (slotOf σ 3) fun s_ => dI .i64 (slotOf σ 4) fun i_ => sL1 b_b_ b_l_ b_c_ s_ i_ w)] 2000) [(0, [])] [(0, .slice b_b b_l b_c)] w := by kernel_rfl
theorem api_Sum16.B0_sound {R : Int → World → Prop}  (b_b : Option Addr) (b_l b_c : Nat) (w : World) (h : api_Sum16.B0 b_b b_l b_c w   R) :
    KW Tryz.prog 172 22 (api_Sum16.RV R) ([(0, [])].map (toItem (Tryz.f172.body.getD .skip))) [(0, .slice b_b b_l b_c)] w := by
  exact block_spec Tryz.func172 Tryz.mixed (stops_cons (fun σ w h => by
      obtain ⟨b_b_, b_l_, b_c_, e0, h⟩ := dL_elim h
      obtain ⟨s_, e1, h⟩ := dI_elim h
      obtain ⟨i_, e2, h⟩ := dI_elim h
      exact (api_Sum16.L1_sound  b_b_ b_l_ b_c_ s_ i_ w h).weaken (Sub.cons (Sub.cons (Sub.cons (Sub.nil _) e2) e1) e0)) stops_nil) (Eq.mp (api_Sum16.B0_eq b_b b_l b_c w   R (fun b_b_ b_l_ b_c_ s_ i_ w => api_Sum16.L1 b_b_ b_l_ b_c_ s_ i_ w  R)) h)
theorem api_Sum16.sound (b_b : Option Addr) (b_l b_c : Nat) (w : World) (R : Int → World → Prop) (h : api_Sum16.B0 b_b b_l b_c w R) : api_Sum16.Call b_b b_l b_c w R := by
  have hc := calls_of_block (args := #[.slice b_b b_l b_c]) Tryz.func172 (body := (Tryz.f172.body.getD .skip)) (by kernel_rfl) (by kernel_rfl) (args_slot _) (api_Sum16.B0_sound b_b b_l b_c w h)
  exact hc.mono fun e w' he => by
    obtain ⟨v, rfl, hv⟩ := he
    exact api_Sum16.RV_elim hv
def api_GetU64.L1b (b : ByteArray) (off v i : Int) (w : World)  (N1 : ByteArray → Int → Int → Int → World → Prop) (R : Int → World → Prop) : Prop :=
  Bm (decide (i < (8 : Int))) (
    0 ≤ (8 : Int) ∧
    (0 ≤ (IntKind.i64.wrap (off + i)) ∧ (IntKind.i64.wrap (off + i)) < ((b.size : Nat) : Int)) ∧
    N1 b off (IntKind.u64.wrap (BitVec.ofInt IntKind.u64.bits (IntKind.u64.wrap (v * 2 ^ (min (8 : Int).toNat IntKind.u64.bits))) ||| BitVec.ofInt IntKind.u64.bits (IntKind.u64.wrap (byteAt b (IntKind.i64.wrap (off + i))))).toNat) (IntKind.i64.wrap (i + (1 : Int))) w) (
    Bm (decide (v > (72057594037927936 : Int))) (
      R (-1 : Int) w) (
      R (IntKind.i64.wrap v) w))
theorem api_GetU64.L1b_eq (b : ByteArray) (off v i : Int) (w : World)  (N1 : ByteArray → Int → Int → Int → World → Prop) (R : Int → World → Prop)  :
    (
  Bm (decide (i < (8 : Int))) (
    0 ≤ (8 : Int) ∧
    (0 ≤ (IntKind.i64.wrap (off + i)) ∧ (IntKind.i64.wrap (off + i)) < ((b.size : Nat) : Int)) ∧
    N1 b off (IntKind.u64.wrap (BitVec.ofInt IntKind.u64.bits (IntKind.u64.wrap (v * 2 ^ (min (8 : Int).toNat IntKind.u64.bits))) ||| BitVec.ofInt IntKind.u64.bits (IntKind.u64.wrap (byteAt b (IntKind.i64.wrap (off + i))))).toNat) (IntKind.i64.wrap (i + (1 : Int))) w) (
    Bm (decide (v > (72057594037927936 : Int))) (
      R (-1 : Int) w) (
      R (IntKind.i64.wrap v) w))) = kstep Tryz.prog 33 Tryz.f173.results.toList (Tryz.f173.body.getD .skip) (api_GetU64.RV R) (kvc Tryz.prog 33 Tryz.f173.results.toList (Tryz.f173.body.getD .skip) (api_GetU64.RV R) [([(0, [1, 1, 1, 0, 1, 0, 0]), (2, [1, 1, 1, 0, 1, 0, 0]), (1, [0]), (0, [1, 1, 1, 1])], fun σ w => dS (slotOf σ 0) fun b_ => dI .i64 (slotOf σ 1) fun off_ => dI .u64 (slotOf σ 5) fun v_ => dI .i64 (slotOf σ 6) fun i_ => N1 b_ off_ v_ i_ w)] 2000) [(0, [1, 1, 1, 0, 1, 0, 0]), (2, [1, 1, 1, 0, 1, 0, 0]), (1, [0]), (0, [1, 1, 1, 1])] [(0, .string b), (1, .int .i64 off), (5, .int .u64 v), (6, .int .i64 i)] w := by kernel_rfl
theorem api_GetU64.L1b_sound {R : Int → World → Prop} {N1 : ByteArray → Int → Int → Int → World → Prop} (hN1 : ∀ b off v i w, N1 b off v i w → KW Tryz.prog 173 33 (api_GetU64.RV R) ([(0, [1, 1, 1, 0, 1, 0, 0]), (2, [1, 1, 1, 0, 1, 0, 0]), (1, [0]), (0, [1, 1, 1, 1])].map (toItem (Tryz.f173.body.getD .skip))) [(0, .string b), (1, .int .i64 off), (5, .int .u64 v), (6, .int .i64 i)] w) (b : ByteArray) (off v i : Int) (w : World) (h : api_GetU64.L1b b off v i w  N1 R) :
    KW Tryz.prog 173 33 (api_GetU64.RV R) ([(0, [1, 1, 1, 0, 1, 0, 0]), (2, [1, 1, 1, 0, 1, 0, 0]), (1, [0]), (0, [1, 1, 1, 1])].map (toItem (Tryz.f173.body.getD .skip))) [(0, .string b), (1, .int .i64 off), (5, .int .u64 v), (6, .int .i64 i)] w := by
  exact block_spec Tryz.func173 Tryz.mixed (stops_cons (fun σ w h => by
      obtain ⟨b_, e0, h⟩ := dS_elim h
      obtain ⟨off_, e1, h⟩ := dI_elim h
      obtain ⟨v_, e2, h⟩ := dI_elim h
      obtain ⟨i_, e3, h⟩ := dI_elim h
      exact (hN1 b_ off_ v_ i_ w h).weaken (Sub.cons (Sub.cons (Sub.cons (Sub.cons (Sub.nil _) e3) e2) e1) e0)) stops_nil) (Eq.mp (api_GetU64.L1b_eq b off v i w  N1 R ) h)
def api_GetU64.L1 (b : ByteArray) (off v i : Int) (w : World)  (R : Int → World → Prop) : Prop :=
  ∃ (I : Nat → ByteArray → Int → Int → Int → World → Prop) (m : Nat), I m b off v i w ∧ ∀ m b off v i w, I m b off v i w → api_GetU64.L1b b off v i w  (fun b' off' v' i' w' => ∃ m', m' < m ∧ I m' b' off' v' i' w') R
theorem api_GetU64.L1_sound {R : Int → World → Prop}  (b : ByteArray) (off v i : Int) (w : World) (h : api_GetU64.L1 b off v i w  R) :
    KW Tryz.prog 173 33 (api_GetU64.RV R) ([(0, [1, 1, 1, 0, 1, 0, 0]), (2, [1, 1, 1, 0, 1, 0, 0]), (1, [0]), (0, [1, 1, 1, 1])].map (toItem (Tryz.f173.body.getD .skip))) [(0, .string b), (1, .int .i64 off), (5, .int .u64 v), (6, .int .i64 i)] w := by
  obtain ⟨I, m, hBase, hr⟩ := h
  refine KW.loop (fun m σ w => ∃ (b : ByteArray) (off v i : Int), σ = [(0, .string b), (1, .int .i64 off), (5, .int .u64 v), (6, .int .i64 i)] ∧ I m b off v i w) ?_ m _ w ⟨b, off, v, i, rfl, hBase⟩
  rintro m ih σ w ⟨b, off, v, i, rfl, hI⟩
  exact api_GetU64.L1b_sound  (N1 := fun b' off' v' i' w' => ∃ m', m' < m ∧ I m' b' off' v' i' w') (fun b' off' v' i' w' hx => by obtain ⟨m', hlt, hI'⟩ := hx; exact ih m' hlt _ w' ⟨b', off', v', i', rfl, hI'⟩) b off v i w (hr m b off v i w hI)
def api_GetU64.B1 (b : ByteArray) (off : Int) (t15 : Bool) (w : World)   (R : Int → World → Prop) : Prop :=
  Bm t15 (
    R (-1 : Int) w) (
    api_GetU64.L1 b off (0 : Int) (0 : Int) w  R)
theorem api_GetU64.B1_eq (b : ByteArray) (off : Int) (t15 : Bool) (w : World)   (R : Int → World → Prop) (sL1 : ByteArray → Int → Int → Int → World → Prop) :
    (
  Bm t15 (
    R (-1 : Int) w) (
    sL1 b off (0 : Int) (0 : Int) w)) = kstep Tryz.prog 33 Tryz.f173.results.toList (Tryz.f173.body.getD .skip) (api_GetU64.RV R) (kvc Tryz.prog 33 Tryz.f173.results.toList (Tryz.f173.body.getD .skip) (api_GetU64.RV R) [([(0, [1, 1, 1, 0, 1, 0, 0]), (2, [1, 1, 1, 0, 1, 0, 0]), (1, [0]), (0, [1, 1, 1, 1])], fun σ w => dS (slotOf σ 0) fun b_ => dI .i64 (slotOf σ 1) fun off_ => dI .u64 (slotOf σ 5) fun v_ => dI .i64 (slotOf σ 6) fun i_ => sL1 b_ off_ v_ i_ w)] 2000) [(0, [1, 0, 1]), (0, [1, 1])] [(0, .string b), (1, .int .i64 off), (15, .bool t15)] w := by kernel_rfl
theorem api_GetU64.B1_sound {R : Int → World → Prop}  (b : ByteArray) (off : Int) (t15 : Bool) (w : World) (h : api_GetU64.B1 b off t15 w   R) :
    KW Tryz.prog 173 33 (api_GetU64.RV R) ([(0, [1, 0, 1]), (0, [1, 1])].map (toItem (Tryz.f173.body.getD .skip))) [(0, .string b), (1, .int .i64 off), (15, .bool t15)] w := by
  exact block_spec Tryz.func173 Tryz.mixed (stops_cons (fun σ w h => by
      obtain ⟨b_, e0, h⟩ := dS_elim h
      obtain ⟨off_, e1, h⟩ := dI_elim h
      obtain ⟨v_, e2, h⟩ := dI_elim h
      obtain ⟨i_, e3, h⟩ := dI_elim h
      exact (api_GetU64.L1_sound  b_ off_ v_ i_ w h).weaken (Sub.cons (Sub.cons (Sub.cons (Sub.cons (Sub.nil _) e3) e2) e1) e0)) stops_nil) (Eq.mp (api_GetU64.B1_eq b off t15 w   R (fun b_ off_ v_ i_ w => api_GetU64.L1 b_ off_ v_ i_ w  R)) h)
def api_GetU64.B0 (b : ByteArray) (off : Int) (w : World)   (R : Int → World → Prop) : Prop :=
  Bm (decide (off < (0 : Int))) (
    api_GetU64.B1 b off true w  R) (
    api_GetU64.B1 b off (decide (off > (IntKind.i64.wrap (((b.size : Nat) : Int) - (8 : Int))))) w  R)
theorem api_GetU64.B0_eq (b : ByteArray) (off : Int) (w : World)   (R : Int → World → Prop) (sB1 : ByteArray → Int → Bool → World → Prop) :
    (
  Bm (decide (off < (0 : Int))) (
    sB1 b off true w) (
    sB1 b off (decide (off > (IntKind.i64.wrap (((b.size : Nat) : Int) - (8 : Int))))) w)) = kstep Tryz.prog 33 Tryz.f173.results.toList (Tryz.f173.body.getD .skip) (api_GetU64.RV R) (kvc Tryz.prog 33 Tryz.f173.results.toList (Tryz.f173.body.getD .skip) (api_GetU64.RV R) [([(0, [1, 0, 1]), (0, [1, 1])], fun σ w => dS (slotOf σ 0) fun b_ => dI .i64 (slotOf σ 1) fun off_ => dB (slotOf σ 15) fun t15_ => sB1 b_ off_ t15_ w)] 2000) [(0, [])] [(0, .string b), (1, .int .i64 off)] w := by kernel_rfl
theorem api_GetU64.B0_sound {R : Int → World → Prop}  (b : ByteArray) (off : Int) (w : World) (h : api_GetU64.B0 b off w   R) :
    KW Tryz.prog 173 33 (api_GetU64.RV R) ([(0, [])].map (toItem (Tryz.f173.body.getD .skip))) [(0, .string b), (1, .int .i64 off)] w := by
  exact block_spec Tryz.func173 Tryz.mixed (stops_cons (fun σ w h => by
      obtain ⟨b_, e0, h⟩ := dS_elim h
      obtain ⟨off_, e1, h⟩ := dI_elim h
      obtain ⟨t15_, e2, h⟩ := dB_elim h
      exact (api_GetU64.B1_sound  b_ off_ t15_ w h).weaken (Sub.cons (Sub.cons (Sub.cons (Sub.nil _) e2) e1) e0)) stops_nil) (Eq.mp (api_GetU64.B0_eq b off w   R (fun b_ off_ t15_ w => api_GetU64.B1 b_ off_ t15_ w  R)) h)
theorem api_GetU64.sound (b : ByteArray) (off : Int) (w : World) (R : Int → World → Prop) (h : api_GetU64.B0 b off w R) : api_GetU64.Call b off w R := by
  have hc := calls_of_block (args := #[.string b, .int .i64 off]) Tryz.func173 (body := (Tryz.f173.body.getD .skip)) (by kernel_rfl) (by kernel_rfl) (args_slot _) (api_GetU64.B0_sound b off w h)
  exact hc.mono fun e w' he => by
    obtain ⟨v, rfl, hv⟩ := he
    exact api_GetU64.RV_elim hv
def electm_Elect_Vote.B0 (e : Option Addr) (w : World)   (R : Int → World → Prop) : Prop :=
  Pn e fun a =>
  LdI .i64 (a.add 2) w fun x6 =>
  R x6 w
theorem electm_Elect_Vote.B0_eq (e : Option Addr) (w : World)   (R : Int → World → Prop)  :
    (
  Pn e fun a =>
  LdI .i64 (a.add 2) w fun x6 =>
  R x6 w) = kstep Tryz.prog 7 Tryz.f174.results.toList (Tryz.f174.body.getD .skip) (electm_Elect_Vote.RV R) (kvc Tryz.prog 7 Tryz.f174.results.toList (Tryz.f174.body.getD .skip) (electm_Elect_Vote.RV R) [] 2000) [(0, [])] [(0, .pointer e)] w := by kernel_rfl
theorem electm_Elect_Vote.B0_sound {R : Int → World → Prop}  (e : Option Addr) (w : World) (h : electm_Elect_Vote.B0 e w   R) :
    KW Tryz.prog 174 7 (electm_Elect_Vote.RV R) ([(0, [])].map (toItem (Tryz.f174.body.getD .skip))) [(0, .pointer e)] w := by
  exact block_spec Tryz.func174 Tryz.mixed stops_nil (Eq.mp (electm_Elect_Vote.B0_eq e w   R ) h)
theorem electm_Elect_Vote.sound (e : Option Addr) (w : World) (R : Int → World → Prop) (h : electm_Elect_Vote.B0 e w R) : electm_Elect_Vote.Call e w R := by
  have hc := calls_of_block (args := #[.pointer e]) Tryz.func174 (body := (Tryz.f174.body.getD .skip)) (by kernel_rfl) (by kernel_rfl) (args_slot _) (electm_Elect_Vote.B0_sound e w h)
  exact hc.mono fun e w' he => by
    obtain ⟨v, rfl, hv⟩ := he
    exact electm_Elect_Vote.RV_elim hv
def electm_Elect_Role.B0 (e : Option Addr) (w : World)   (R : Int → World → Prop) : Prop :=
  Pn e fun a =>
  LdI .i64 (a.add 3) w fun x6 =>
  R x6 w
theorem electm_Elect_Role.B0_eq (e : Option Addr) (w : World)   (R : Int → World → Prop)  :
    (
  Pn e fun a =>
  LdI .i64 (a.add 3) w fun x6 =>
  R x6 w) = kstep Tryz.prog 7 Tryz.f175.results.toList (Tryz.f175.body.getD .skip) (electm_Elect_Role.RV R) (kvc Tryz.prog 7 Tryz.f175.results.toList (Tryz.f175.body.getD .skip) (electm_Elect_Role.RV R) [] 2000) [(0, [])] [(0, .pointer e)] w := by kernel_rfl
theorem electm_Elect_Role.B0_sound {R : Int → World → Prop}  (e : Option Addr) (w : World) (h : electm_Elect_Role.B0 e w   R) :
    KW Tryz.prog 175 7 (electm_Elect_Role.RV R) ([(0, [])].map (toItem (Tryz.f175.body.getD .skip))) [(0, .pointer e)] w := by
  exact block_spec Tryz.func175 Tryz.mixed stops_nil (Eq.mp (electm_Elect_Role.B0_eq e w   R ) h)
theorem electm_Elect_Role.sound (e : Option Addr) (w : World) (R : Int → World → Prop) (h : electm_Elect_Role.B0 e w R) : electm_Elect_Role.Call e w R := by
  have hc := calls_of_block (args := #[.pointer e]) Tryz.func175 (body := (Tryz.f175.body.getD .skip)) (by kernel_rfl) (by kernel_rfl) (args_slot _) (electm_Elect_Role.B0_sound e w h)
  exact hc.mono fun e w' he => by
    obtain ⟨v, rfl, hv⟩ := he
    exact electm_Elect_Role.RV_elim hv
def electm_Elect_Leader.B0 (e : Option Addr) (w : World)   (R : Int → World → Prop) : Prop :=
  Pn e fun a =>
  LdI .i64 (a.add 4) w fun x6 =>
  R x6 w
theorem electm_Elect_Leader.B0_eq (e : Option Addr) (w : World)   (R : Int → World → Prop)  :
    (
  Pn e fun a =>
  LdI .i64 (a.add 4) w fun x6 =>
  R x6 w) = kstep Tryz.prog 7 Tryz.f176.results.toList (Tryz.f176.body.getD .skip) (electm_Elect_Leader.RV R) (kvc Tryz.prog 7 Tryz.f176.results.toList (Tryz.f176.body.getD .skip) (electm_Elect_Leader.RV R) [] 2000) [(0, [])] [(0, .pointer e)] w := by kernel_rfl
theorem electm_Elect_Leader.B0_sound {R : Int → World → Prop}  (e : Option Addr) (w : World) (h : electm_Elect_Leader.B0 e w   R) :
    KW Tryz.prog 176 7 (electm_Elect_Leader.RV R) ([(0, [])].map (toItem (Tryz.f176.body.getD .skip))) [(0, .pointer e)] w := by
  exact block_spec Tryz.func176 Tryz.mixed stops_nil (Eq.mp (electm_Elect_Leader.B0_eq e w   R ) h)
theorem electm_Elect_Leader.sound (e : Option Addr) (w : World) (R : Int → World → Prop) (h : electm_Elect_Leader.B0 e w R) : electm_Elect_Leader.Call e w R := by
  have hc := calls_of_block (args := #[.pointer e]) Tryz.func176 (body := (Tryz.f176.body.getD .skip)) (by kernel_rfl) (by kernel_rfl) (args_slot _) (electm_Elect_Leader.B0_sound e w h)
  exact hc.mono fun e w' he => by
    obtain ⟨v, rfl, hv⟩ := he
    exact electm_Elect_Leader.RV_elim hv
def electm_Elect_Clock.B0 (e : Option Addr) (w : World)   (R : Int → World → Prop) : Prop :=
  Pn e fun a =>
  LdI .i64 (a.add 5) w fun x6 =>
  R x6 w
theorem electm_Elect_Clock.B0_eq (e : Option Addr) (w : World)   (R : Int → World → Prop)  :
    (
  Pn e fun a =>
  LdI .i64 (a.add 5) w fun x6 =>
  R x6 w) = kstep Tryz.prog 7 Tryz.f177.results.toList (Tryz.f177.body.getD .skip) (electm_Elect_Clock.RV R) (kvc Tryz.prog 7 Tryz.f177.results.toList (Tryz.f177.body.getD .skip) (electm_Elect_Clock.RV R) [] 2000) [(0, [])] [(0, .pointer e)] w := by kernel_rfl
theorem electm_Elect_Clock.B0_sound {R : Int → World → Prop}  (e : Option Addr) (w : World) (h : electm_Elect_Clock.B0 e w   R) :
    KW Tryz.prog 177 7 (electm_Elect_Clock.RV R) ([(0, [])].map (toItem (Tryz.f177.body.getD .skip))) [(0, .pointer e)] w := by
  exact block_spec Tryz.func177 Tryz.mixed stops_nil (Eq.mp (electm_Elect_Clock.B0_eq e w   R ) h)
theorem electm_Elect_Clock.sound (e : Option Addr) (w : World) (R : Int → World → Prop) (h : electm_Elect_Clock.B0 e w R) : electm_Elect_Clock.Call e w R := by
  have hc := calls_of_block (args := #[.pointer e]) Tryz.func177 (body := (Tryz.f177.body.getD .skip)) (by kernel_rfl) (by kernel_rfl) (args_slot _) (electm_Elect_Clock.B0_sound e w h)
  exact hc.mono fun e w' he => by
    obtain ⟨v, rfl, hv⟩ := he
    exact electm_Elect_Clock.RV_elim hv
def electm_Elect_Got.B0 (e : Option Addr) (p : Int) (w : World)   (R : Bool → World → Prop) : Prop :=
  Bm (decide (p ≥ (0 : Int))) (
    Bm (decide (p < (3 : Int))) (
      Pn e fun a =>
      (0 ≤ p ∧ p < ((3 : Nat) : Int)) ∧
      LdB (Addr.add (a.add 6) (p.toNat * 1)) w fun x17 =>
      R x17 w) (
      R false w)) (
    R false w)
theorem electm_Elect_Got.B0_eq (e : Option Addr) (p : Int) (w : World)   (R : Bool → World → Prop)  :
    (
  Bm (decide (p ≥ (0 : Int))) (
    Bm (decide (p < (3 : Int))) (
      Pn e fun a =>
      (0 ≤ p ∧ p < ((3 : Nat) : Int)) ∧
      LdB (Addr.add (a.add 6) (p.toNat * 1)) w fun x17 =>
      R x17 w) (
      R false w)) (
    R false w)) = kstep Tryz.prog 19 Tryz.f178.results.toList (Tryz.f178.body.getD .skip) (electm_Elect_Got.RV R) (kvc Tryz.prog 19 Tryz.f178.results.toList (Tryz.f178.body.getD .skip) (electm_Elect_Got.RV R) [] 2000) [(0, [])] [(0, .pointer e), (1, .int .i64 p)] w := by kernel_rfl
theorem electm_Elect_Got.B0_sound {R : Bool → World → Prop}  (e : Option Addr) (p : Int) (w : World) (h : electm_Elect_Got.B0 e p w   R) :
    KW Tryz.prog 178 19 (electm_Elect_Got.RV R) ([(0, [])].map (toItem (Tryz.f178.body.getD .skip))) [(0, .pointer e), (1, .int .i64 p)] w := by
  exact block_spec Tryz.func178 Tryz.mixed stops_nil (Eq.mp (electm_Elect_Got.B0_eq e p w   R ) h)
theorem electm_Elect_Got.sound (e : Option Addr) (p : Int) (w : World) (R : Bool → World → Prop) (h : electm_Elect_Got.B0 e p w R) : electm_Elect_Got.Call e p w R := by
  have hc := calls_of_block (args := #[.pointer e, .int .i64 p]) Tryz.func178 (body := (Tryz.f178.body.getD .skip)) (by kernel_rfl) (by kernel_rfl) (args_slot _) (electm_Elect_Got.B0_sound e p w h)
  exact hc.mono fun e w' he => by
    obtain ⟨v, rfl, hv⟩ := he
    exact electm_Elect_Got.RV_elim hv
def rlogm_Log_BaseTerm.B0 (l : Option Addr) (w : World)   (R : Int → World → Prop) : Prop :=
  Pn l fun a =>
  LdP a w fun x6 =>
  Pn x6 fun a_1 =>
  LdI .i64 (a_1.add 3) w fun x9 =>
  R x9 w
theorem rlogm_Log_BaseTerm.B0_eq (l : Option Addr) (w : World)   (R : Int → World → Prop)  :
    (
  Pn l fun a =>
  LdP a w fun x6 =>
  Pn x6 fun a_1 =>
  LdI .i64 (a_1.add 3) w fun x9 =>
  R x9 w) = kstep Tryz.prog 10 Tryz.f179.results.toList (Tryz.f179.body.getD .skip) (rlogm_Log_BaseTerm.RV R) (kvc Tryz.prog 10 Tryz.f179.results.toList (Tryz.f179.body.getD .skip) (rlogm_Log_BaseTerm.RV R) [] 2000) [(0, [])] [(0, .pointer l)] w := by kernel_rfl
theorem rlogm_Log_BaseTerm.B0_sound {R : Int → World → Prop}  (l : Option Addr) (w : World) (h : rlogm_Log_BaseTerm.B0 l w   R) :
    KW Tryz.prog 179 10 (rlogm_Log_BaseTerm.RV R) ([(0, [])].map (toItem (Tryz.f179.body.getD .skip))) [(0, .pointer l)] w := by
  exact block_spec Tryz.func179 Tryz.mixed stops_nil (Eq.mp (rlogm_Log_BaseTerm.B0_eq l w   R ) h)
theorem rlogm_Log_BaseTerm.sound (l : Option Addr) (w : World) (R : Int → World → Prop) (h : rlogm_Log_BaseTerm.B0 l w R) : rlogm_Log_BaseTerm.Call l w R := by
  have hc := calls_of_block (args := #[.pointer l]) Tryz.func179 (body := (Tryz.f179.body.getD .skip)) (by kernel_rfl) (by kernel_rfl) (args_slot _) (rlogm_Log_BaseTerm.B0_sound l w h)
  exact hc.mono fun e w' he => by
    obtain ⟨v, rfl, hv⟩ := he
    exact rlogm_Log_BaseTerm.RV_elim hv
def rlogm_Log_Snap.B0 (l : Option Addr) (w : World)   (R : ByteArray → World → Prop) : Prop :=
  Pn l fun a =>
  LdP a w fun x6 =>
  Pn x6 fun a_1 =>
  LdS (a_1.add 4) w fun x9 =>
  R x9 w
theorem rlogm_Log_Snap.B0_eq (l : Option Addr) (w : World)   (R : ByteArray → World → Prop)  :
    (
  Pn l fun a =>
  LdP a w fun x6 =>
  Pn x6 fun a_1 =>
  LdS (a_1.add 4) w fun x9 =>
  R x9 w) = kstep Tryz.prog 10 Tryz.f180.results.toList (Tryz.f180.body.getD .skip) (rlogm_Log_Snap.RV R) (kvc Tryz.prog 10 Tryz.f180.results.toList (Tryz.f180.body.getD .skip) (rlogm_Log_Snap.RV R) [] 2000) [(0, [])] [(0, .pointer l)] w := by kernel_rfl
theorem rlogm_Log_Snap.B0_sound {R : ByteArray → World → Prop}  (l : Option Addr) (w : World) (h : rlogm_Log_Snap.B0 l w   R) :
    KW Tryz.prog 180 10 (rlogm_Log_Snap.RV R) ([(0, [])].map (toItem (Tryz.f180.body.getD .skip))) [(0, .pointer l)] w := by
  exact block_spec Tryz.func180 Tryz.mixed stops_nil (Eq.mp (rlogm_Log_Snap.B0_eq l w   R ) h)
theorem rlogm_Log_Snap.sound (l : Option Addr) (w : World) (R : ByteArray → World → Prop) (h : rlogm_Log_Snap.B0 l w R) : rlogm_Log_Snap.Call l w R := by
  have hc := calls_of_block (args := #[.pointer l]) Tryz.func180 (body := (Tryz.f180.body.getD .skip)) (by kernel_rfl) (by kernel_rfl) (args_slot _) (rlogm_Log_Snap.B0_sound l w h)
  exact hc.mono fun e w' he => by
    obtain ⟨v, rfl, hv⟩ := he
    exact rlogm_Log_Snap.RV_elim hv
def electm_Elect_AskedVote.B2 (e : Option Addr) (from0 : Int) (t44 : Bool) (w : World)   (R : Bool → World → Prop) : Prop :=
  Bm t44 (
    R false w) (
    Pn e fun a =>
    Sts [.int .i64 from0] (a.add 2) 0 w fun w1 =>
    Pn e fun a_1 =>
    Sts [.int .i64 (0 : Int)] (a_1.add 5) 0 w1 fun w2 =>
    R true w2)
theorem electm_Elect_AskedVote.B2_eq (e : Option Addr) (from0 : Int) (t44 : Bool) (w : World)   (R : Bool → World → Prop)  :
    (
  Bm t44 (
    R false w) (
    Pn e fun a =>
    Sts [.int .i64 from0] (a.add 2) 0 w fun w1 =>
    Pn e fun a_1 =>
    Sts [.int .i64 (0 : Int)] (a_1.add 5) 0 w1 fun w2 =>
    R true w2)) = kstep Tryz.prog 52 Tryz.f181.results.toList (Tryz.f181.body.getD .skip) (electm_Elect_AskedVote.RV R) (kvc Tryz.prog 52 Tryz.f181.results.toList (Tryz.f181.body.getD .skip) (electm_Elect_AskedVote.RV R) [] 2000) [(0, [1, 1, 1, 0, 1]), (0, [1, 1, 1, 1])] [(0, .pointer e), (1, .int .i64 from0), (44, .bool t44)] w := by kernel_rfl
theorem electm_Elect_AskedVote.B2_sound {R : Bool → World → Prop}  (e : Option Addr) (from0 : Int) (t44 : Bool) (w : World) (h : electm_Elect_AskedVote.B2 e from0 t44 w   R) :
    KW Tryz.prog 181 52 (electm_Elect_AskedVote.RV R) ([(0, [1, 1, 1, 0, 1]), (0, [1, 1, 1, 1])].map (toItem (Tryz.f181.body.getD .skip))) [(0, .pointer e), (1, .int .i64 from0), (44, .bool t44)] w := by
  exact block_spec Tryz.func181 Tryz.mixed stops_nil (Eq.mp (electm_Elect_AskedVote.B2_eq e from0 t44 w   R ) h)
def electm_Elect_AskedVote.B1 (e : Option Addr) (from0 term : Int) (upToDate t16 : Bool) (w : World)   (R : Bool → World → Prop) : Prop :=
  Bm t16 (
    R false w) (
    electm_Elect_See.Call e term w fun r19 w1 =>
    Pn e fun a =>
    LdI .i64 (a.add 1) w1 fun x24 =>
    Bm (decide (term < x24)) (
      electm_Elect_AskedVote.B2 e from0 true w1  R) (
      Bm (!upToDate) (
        electm_Elect_AskedVote.B2 e from0 true w1  R) (
        Pn e fun a_1 =>
        LdI .i64 (a_1.add 2) w1 fun x34 =>
        Bm (x34 != (-1 : Int)) (
          Pn e fun a_2 =>
          LdI .i64 (a_2.add 2) w1 fun x40 =>
          electm_Elect_AskedVote.B2 e from0 (x40 != from0) w1  R) (
          electm_Elect_AskedVote.B2 e from0 false w1  R))))
theorem electm_Elect_AskedVote.B1_eq (e : Option Addr) (from0 term : Int) (upToDate t16 : Bool) (w : World)   (R : Bool → World → Prop) (sB2 : Option Addr → Int → Bool → World → Prop) :
    (
  Bm t16 (
    R false w) (
    electm_Elect_See.Call e term w fun r19 w1 =>
    Pn e fun a =>
    LdI .i64 (a.add 1) w1 fun x24 =>
    Bm (decide (term < x24)) (
      sB2 e from0 true w1) (
      Bm (!upToDate) (
        sB2 e from0 true w1) (
        Pn e fun a_1 =>
        LdI .i64 (a_1.add 2) w1 fun x34 =>
        Bm (x34 != (-1 : Int)) (
          Pn e fun a_2 =>
          LdI .i64 (a_2.add 2) w1 fun x40 =>
          sB2 e from0 (x40 != from0) w1) (
          sB2 e from0 false w1))))) = kstep Tryz.prog 52 Tryz.f181.results.toList (Tryz.f181.body.getD .skip) (electm_Elect_AskedVote.RV R) (kvc Tryz.prog 52 Tryz.f181.results.toList (Tryz.f181.body.getD .skip) (electm_Elect_AskedVote.RV R) [([(0, [1, 1, 1, 0, 1]), (0, [1, 1, 1, 1])], fun σ w => dP (slotOf σ 0) fun e_ => dI .i64 (slotOf σ 1) fun from0_ => dB (slotOf σ 44) fun t44_ => sB2 e_ from0_ t44_ w)] 2000) [(0, [1, 0, 1]), (0, [1, 1])] [(0, .pointer e), (1, .int .i64 from0), (2, .int .i64 term), (3, .bool upToDate), (16, .bool t16)] w := by kernel_rfl
theorem electm_Elect_AskedVote.B1_sound {R : Bool → World → Prop}  (e : Option Addr) (from0 term : Int) (upToDate t16 : Bool) (w : World) (h : electm_Elect_AskedVote.B1 e from0 term upToDate t16 w   R) :
    KW Tryz.prog 181 52 (electm_Elect_AskedVote.RV R) ([(0, [1, 0, 1]), (0, [1, 1])].map (toItem (Tryz.f181.body.getD .skip))) [(0, .pointer e), (1, .int .i64 from0), (2, .int .i64 term), (3, .bool upToDate), (16, .bool t16)] w := by
  exact block_spec Tryz.func181 Tryz.mixed (stops_cons (fun σ w h => by
      obtain ⟨e_, e0, h⟩ := dP_elim h
      obtain ⟨from0_, e1, h⟩ := dI_elim h
      obtain ⟨t44_, e2, h⟩ := dB_elim h
      exact (electm_Elect_AskedVote.B2_sound  e_ from0_ t44_ w h).weaken (Sub.cons (Sub.cons (Sub.cons (Sub.nil _) e2) e1) e0)) stops_nil) (Eq.mp (electm_Elect_AskedVote.B1_eq e from0 term upToDate t16 w   R (fun e_ from0_ t44_ w => electm_Elect_AskedVote.B2 e_ from0_ t44_ w  R)) h)
def electm_Elect_AskedVote.B0 (e : Option Addr) (from0 term : Int) (upToDate : Bool) (w : World)   (R : Bool → World → Prop) : Prop :=
  electm_Elect_peer.Call e from0 w fun r11 w1 =>
  Bm (!r11) (
    electm_Elect_AskedVote.B1 e from0 term upToDate true w1  R) (
    electm_Elect_AskedVote.B1 e from0 term upToDate (decide (term > (72057594037927936 : Int))) w1  R)
theorem electm_Elect_AskedVote.B0_eq (e : Option Addr) (from0 term : Int) (upToDate : Bool) (w : World)   (R : Bool → World → Prop) (sB1 : Option Addr → Int → Int → Bool → Bool → World → Prop) :
    (
  electm_Elect_peer.Call e from0 w fun r11 w1 =>
  Bm (!r11) (
    sB1 e from0 term upToDate true w1) (
    sB1 e from0 term upToDate (decide (term > (72057594037927936 : Int))) w1)) = kstep Tryz.prog 52 Tryz.f181.results.toList (Tryz.f181.body.getD .skip) (electm_Elect_AskedVote.RV R) (kvc Tryz.prog 52 Tryz.f181.results.toList (Tryz.f181.body.getD .skip) (electm_Elect_AskedVote.RV R) [([(0, [1, 0, 1]), (0, [1, 1])], fun σ w => dP (slotOf σ 0) fun e_ => dI .i64 (slotOf σ 1) fun from0_ => dI .i64 (slotOf σ 2) fun term_ => dB (slotOf σ 3) fun upToDate_ => dB (slotOf σ 16) fun t16_ => sB1 e_ from0_ term_ upToDate_ t16_ w)] 2000) [(0, [])] [(0, .pointer e), (1, .int .i64 from0), (2, .int .i64 term), (3, .bool upToDate)] w := by kernel_rfl
theorem electm_Elect_AskedVote.B0_sound {R : Bool → World → Prop}  (e : Option Addr) (from0 term : Int) (upToDate : Bool) (w : World) (h : electm_Elect_AskedVote.B0 e from0 term upToDate w   R) :
    KW Tryz.prog 181 52 (electm_Elect_AskedVote.RV R) ([(0, [])].map (toItem (Tryz.f181.body.getD .skip))) [(0, .pointer e), (1, .int .i64 from0), (2, .int .i64 term), (3, .bool upToDate)] w := by
  exact block_spec Tryz.func181 Tryz.mixed (stops_cons (fun σ w h => by
      obtain ⟨e_, e0, h⟩ := dP_elim h
      obtain ⟨from0_, e1, h⟩ := dI_elim h
      obtain ⟨term_, e2, h⟩ := dI_elim h
      obtain ⟨upToDate_, e3, h⟩ := dB_elim h
      obtain ⟨t16_, e4, h⟩ := dB_elim h
      exact (electm_Elect_AskedVote.B1_sound  e_ from0_ term_ upToDate_ t16_ w h).weaken (Sub.cons (Sub.cons (Sub.cons (Sub.cons (Sub.cons (Sub.nil _) e4) e3) e2) e1) e0)) stops_nil) (Eq.mp (electm_Elect_AskedVote.B0_eq e from0 term upToDate w   R (fun e_ from0_ term_ upToDate_ t16_ w => electm_Elect_AskedVote.B1 e_ from0_ term_ upToDate_ t16_ w  R)) h)
theorem electm_Elect_AskedVote.sound (e : Option Addr) (from0 term : Int) (upToDate : Bool) (w : World) (R : Bool → World → Prop) (h : electm_Elect_AskedVote.B0 e from0 term upToDate w R) : electm_Elect_AskedVote.Call e from0 term upToDate w R := by
  have hc := calls_of_block (args := #[.pointer e, .int .i64 from0, .int .i64 term, .bool upToDate]) Tryz.func181 (body := (Tryz.f181.body.getD .skip)) (by kernel_rfl) (by kernel_rfl) (args_slot _) (electm_Elect_AskedVote.B0_sound e from0 term upToDate w h)
  exact hc.mono fun e w' he => by
    obtain ⟨v, rfl, hv⟩ := he
    exact electm_Elect_AskedVote.RV_elim hv
end Go.Proofs.Qxb6500430aGreat
