import Derived.Test.Qxb6500429aSig
set_option maxRecDepth 100000
set_option linter.unusedVariables false
open Go.Vc
namespace Go.Proofs.Qxb6500429a
def kvm_KV_Len.B0 (k : Option Addr) (w : World)   (R : Int → World → Prop) : Prop :=
  Pn k fun a =>
  LdI .i64 a w fun x6 =>
  R x6 w
theorem kvm_KV_Len.B0_eq (k : Option Addr) (w : World)   (R : Int → World → Prop)  :
    (
  Pn k fun a =>
  LdI .i64 a w fun x6 =>
  R x6 w) = kstep Try.prog 7 Try.f39.results.toList (Try.f39.body.getD .skip) (kvm_KV_Len.RV R) (kvc Try.prog 7 Try.f39.results.toList (Try.f39.body.getD .skip) (kvm_KV_Len.RV R) [] 2000) [(0, [])] [(0, .pointer k)] w := by kernel_rfl
theorem kvm_KV_Len.B0_sound {R : Int → World → Prop}  (k : Option Addr) (w : World) (h : kvm_KV_Len.B0 k w   R) :
    KW Try.prog 39 7 (kvm_KV_Len.RV R) ([(0, [])].map (toItem (Try.f39.body.getD .skip))) [(0, .pointer k)] w := by
  exact block_spec Try.func39 Try.mixed stops_nil (Eq.mp (kvm_KV_Len.B0_eq k w   R ) h)
theorem kvm_KV_Len.sound (k : Option Addr) (w : World) (R : Int → World → Prop) (h : kvm_KV_Len.B0 k w R) : kvm_KV_Len.Call k w R := by
  have hc := calls_of_block (args := #[.pointer k]) Try.func39 (body := (Try.f39.body.getD .skip)) (by kernel_rfl) (by kernel_rfl) (args_slot _) (kvm_KV_Len.B0_sound k w h)
  exact hc.mono fun e w' he => by
    obtain ⟨v, rfl, hv⟩ := he
    exact kvm_KV_Len.RV_elim hv
def kvm_KV_KeyAt.B1 (k : Option Addr) (i : Int) (t14 : Bool) (w : World)   (R : ByteArray → World → Prop) : Prop :=
  Bm t14 (
    R (ByteArray.mk #[]) w) (
    Pn k fun a =>
    (0 ≤ i ∧ i < ((4 : Nat) : Int)) ∧
    LdS (Addr.add (a.add 1) (i.toNat * 1)) w fun x20 =>
    R x20 w)
theorem kvm_KV_KeyAt.B1_eq (k : Option Addr) (i : Int) (t14 : Bool) (w : World)   (R : ByteArray → World → Prop)  :
    (
  Bm t14 (
    R (ByteArray.mk #[]) w) (
    Pn k fun a =>
    (0 ≤ i ∧ i < ((4 : Nat) : Int)) ∧
    LdS (Addr.add (a.add 1) (i.toNat * 1)) w fun x20 =>
    R x20 w)) = kstep Try.prog 21 Try.f40.results.toList (Try.f40.body.getD .skip) (kvm_KV_KeyAt.RV R) (kvc Try.prog 21 Try.f40.results.toList (Try.f40.body.getD .skip) (kvm_KV_KeyAt.RV R) [] 2000) [(0, [1, 0, 1]), (0, [1, 1])] [(0, .pointer k), (1, .int .i64 i), (14, .bool t14)] w := by kernel_rfl
theorem kvm_KV_KeyAt.B1_sound {R : ByteArray → World → Prop}  (k : Option Addr) (i : Int) (t14 : Bool) (w : World) (h : kvm_KV_KeyAt.B1 k i t14 w   R) :
    KW Try.prog 40 21 (kvm_KV_KeyAt.RV R) ([(0, [1, 0, 1]), (0, [1, 1])].map (toItem (Try.f40.body.getD .skip))) [(0, .pointer k), (1, .int .i64 i), (14, .bool t14)] w := by
  exact block_spec Try.func40 Try.mixed stops_nil (Eq.mp (kvm_KV_KeyAt.B1_eq k i t14 w   R ) h)
def kvm_KV_KeyAt.B0 (k : Option Addr) (i : Int) (w : World)   (R : ByteArray → World → Prop) : Prop :=
  Bm (decide (i < (0 : Int))) (
    kvm_KV_KeyAt.B1 k i true w  R) (
    Pn k fun a =>
    LdI .i64 a w fun x12 =>
    kvm_KV_KeyAt.B1 k i (decide (i ≥ x12)) w  R)
theorem kvm_KV_KeyAt.B0_eq (k : Option Addr) (i : Int) (w : World)   (R : ByteArray → World → Prop) (sB1 : Option Addr → Int → Bool → World → Prop) :
    (
  Bm (decide (i < (0 : Int))) (
    sB1 k i true w) (
    Pn k fun a =>
    LdI .i64 a w fun x12 =>
    sB1 k i (decide (i ≥ x12)) w)) = kstep Try.prog 21 Try.f40.results.toList (Try.f40.body.getD .skip) (kvm_KV_KeyAt.RV R) (kvc Try.prog 21 Try.f40.results.toList (Try.f40.body.getD .skip) (kvm_KV_KeyAt.RV R) [([(0, [1, 0, 1]), (0, [1, 1])], fun σ w => dP (slotOf σ 0) fun k_ => dI .i64 (slotOf σ 1) fun i_ => dB (slotOf σ 14) fun t14_ => sB1 k_ i_ t14_ w)] 2000) [(0, [])] [(0, .pointer k), (1, .int .i64 i)] w := by kernel_rfl
theorem kvm_KV_KeyAt.B0_sound {R : ByteArray → World → Prop}  (k : Option Addr) (i : Int) (w : World) (h : kvm_KV_KeyAt.B0 k i w   R) :
    KW Try.prog 40 21 (kvm_KV_KeyAt.RV R) ([(0, [])].map (toItem (Try.f40.body.getD .skip))) [(0, .pointer k), (1, .int .i64 i)] w := by
  exact block_spec Try.func40 Try.mixed (stops_cons (fun σ w h => by
      obtain ⟨k_, e0, h⟩ := dP_elim h
      obtain ⟨i_, e1, h⟩ := dI_elim h
      obtain ⟨t14_, e2, h⟩ := dB_elim h
      exact (kvm_KV_KeyAt.B1_sound  k_ i_ t14_ w h).weaken (Sub.cons (Sub.cons (Sub.cons (Sub.nil _) e2) e1) e0)) stops_nil) (Eq.mp (kvm_KV_KeyAt.B0_eq k i w   R (fun k_ i_ t14_ w => kvm_KV_KeyAt.B1 k_ i_ t14_ w  R)) h)
theorem kvm_KV_KeyAt.sound (k : Option Addr) (i : Int) (w : World) (R : ByteArray → World → Prop) (h : kvm_KV_KeyAt.B0 k i w R) : kvm_KV_KeyAt.Call k i w R := by
  have hc := calls_of_block (args := #[.pointer k, .int .i64 i]) Try.func40 (body := (Try.f40.body.getD .skip)) (by kernel_rfl) (by kernel_rfl) (args_slot _) (kvm_KV_KeyAt.B0_sound k i w h)
  exact hc.mono fun e w' he => by
    obtain ⟨v, rfl, hv⟩ := he
    exact kvm_KV_KeyAt.RV_elim hv
def kv_KV_Val.B0 (k : Option Addr) (key : ByteArray) (w : World)   (R : ByteArray → Bool → World → Prop) : Prop :=
  Bm (decide (((key.size : Nat) : Int) > (2 : Int))) (
    R (ByteArray.mk #[]) false w) (
    Pn k fun a =>
    kv_table_find.Call (some a) key w fun r14 w1 =>
    Bm (decide (r14 < (0 : Int))) (
      R (ByteArray.mk #[]) false w1) (
      Pn k fun a_1 =>
      (0 ≤ r14 ∧ r14 < ((8 : Nat) : Int)) ∧
      LdI .i64 (Addr.add a_1 (r14.toNat * 8)) w1 fun x23_0 =>
      LdI .i64 ((Addr.add a_1 (r14.toNat * 8)).add 1) w1 fun x23_1 =>
      LdI .u8 ((Addr.add a_1 (r14.toNat * 8)).add 2) w1 fun x23_2 =>
      LdI .u8 ((Addr.add a_1 (r14.toNat * 8)).add 3) w1 fun x23_3 =>
      LdI .i64 ((Addr.add a_1 (r14.toNat * 8)).add 4) w1 fun x23_4 =>
      LdI .u8 ((Addr.add a_1 (r14.toNat * 8)).add 5) w1 fun x23_5 =>
      LdI .u8 ((Addr.add a_1 (r14.toNat * 8)).add 6) w1 fun x23_6 =>
      LdI .u8 ((Addr.add a_1 (r14.toNat * 8)).add 7) w1 fun x23_7 =>
      kv_valOf.Call x23_0 x23_1 x23_2 x23_3 x23_4 x23_5 x23_6 x23_7 w1 fun r24 w2 =>
      R r24 true w2))
theorem kv_KV_Val.B0_eq (k : Option Addr) (key : ByteArray) (w : World)   (R : ByteArray → Bool → World → Prop)  :
    (
  Bm (decide (((key.size : Nat) : Int) > (2 : Int))) (
    R (ByteArray.mk #[]) false w) (
    Pn k fun a =>
    kv_table_find.Call (some a) key w fun r14 w1 =>
    Bm (decide (r14 < (0 : Int))) (
      R (ByteArray.mk #[]) false w1) (
      Pn k fun a_1 =>
      (0 ≤ r14 ∧ r14 < ((8 : Nat) : Int)) ∧
      LdI .i64 (Addr.add a_1 (r14.toNat * 8)) w1 fun x23_0 =>
      LdI .i64 ((Addr.add a_1 (r14.toNat * 8)).add 1) w1 fun x23_1 =>
      LdI .u8 ((Addr.add a_1 (r14.toNat * 8)).add 2) w1 fun x23_2 =>
      LdI .u8 ((Addr.add a_1 (r14.toNat * 8)).add 3) w1 fun x23_3 =>
      LdI .i64 ((Addr.add a_1 (r14.toNat * 8)).add 4) w1 fun x23_4 =>
      LdI .u8 ((Addr.add a_1 (r14.toNat * 8)).add 5) w1 fun x23_5 =>
      LdI .u8 ((Addr.add a_1 (r14.toNat * 8)).add 6) w1 fun x23_6 =>
      LdI .u8 ((Addr.add a_1 (r14.toNat * 8)).add 7) w1 fun x23_7 =>
      kv_valOf.Call x23_0 x23_1 x23_2 x23_3 x23_4 x23_5 x23_6 x23_7 w1 fun r24 w2 =>
      R r24 true w2))) = kstep Try.prog 25 Try.f41.results.toList (Try.f41.body.getD .skip) (kv_KV_Val.RV R) (kvc Try.prog 25 Try.f41.results.toList (Try.f41.body.getD .skip) (kv_KV_Val.RV R) [] 2000) [(0, [])] [(0, .pointer k), (1, .string key)] w := by kernel_rfl
theorem kv_KV_Val.B0_sound {R : ByteArray → Bool → World → Prop}  (k : Option Addr) (key : ByteArray) (w : World) (h : kv_KV_Val.B0 k key w   R) :
    KW Try.prog 41 25 (kv_KV_Val.RV R) ([(0, [])].map (toItem (Try.f41.body.getD .skip))) [(0, .pointer k), (1, .string key)] w := by
  exact block_spec Try.func41 Try.mixed stops_nil (Eq.mp (kv_KV_Val.B0_eq k key w   R ) h)
theorem kv_KV_Val.sound (k : Option Addr) (key : ByteArray) (w : World) (R : ByteArray → Bool → World → Prop) (h : kv_KV_Val.B0 k key w R) : kv_KV_Val.Call k key w R := by
  have hc := calls_of_block (args := #[.pointer k, .string key]) Try.func41 (body := (Try.f41.body.getD .skip)) (by kernel_rfl) (by kernel_rfl) (args_slot _) (kv_KV_Val.B0_sound k key w h)
  exact hc.mono fun e w' he => by
    obtain ⟨v, rfl, hv⟩ := he
    exact kv_KV_Val.RV_elim hv
def kvm_KV_Val.B0 (k : Option Addr) (key : ByteArray) (w : World)   (R : ByteArray → Bool → World → Prop) : Prop :=
  Bm (decide (((key.size : Nat) : Int) > (2 : Int))) (
    R (ByteArray.mk #[]) false w) (
    kvm_KV_find.Call k key w fun r12 w1 =>
    Bm (decide (r12 < (0 : Int))) (
      R (ByteArray.mk #[]) false w1) (
      Pn k fun a =>
      (0 ≤ r12 ∧ r12 < ((4 : Nat) : Int)) ∧
      LdS (Addr.add (a.add 5) (r12.toNat * 1)) w1 fun x20 =>
      R x20 true w1))
theorem kvm_KV_Val.B0_eq (k : Option Addr) (key : ByteArray) (w : World)   (R : ByteArray → Bool → World → Prop)  :
    (
  Bm (decide (((key.size : Nat) : Int) > (2 : Int))) (
    R (ByteArray.mk #[]) false w) (
    kvm_KV_find.Call k key w fun r12 w1 =>
    Bm (decide (r12 < (0 : Int))) (
      R (ByteArray.mk #[]) false w1) (
      Pn k fun a =>
      (0 ≤ r12 ∧ r12 < ((4 : Nat) : Int)) ∧
      LdS (Addr.add (a.add 5) (r12.toNat * 1)) w1 fun x20 =>
      R x20 true w1))) = kstep Try.prog 21 Try.f42.results.toList (Try.f42.body.getD .skip) (kvm_KV_Val.RV R) (kvc Try.prog 21 Try.f42.results.toList (Try.f42.body.getD .skip) (kvm_KV_Val.RV R) [] 2000) [(0, [])] [(0, .pointer k), (1, .string key)] w := by kernel_rfl
theorem kvm_KV_Val.B0_sound {R : ByteArray → Bool → World → Prop}  (k : Option Addr) (key : ByteArray) (w : World) (h : kvm_KV_Val.B0 k key w   R) :
    KW Try.prog 42 21 (kvm_KV_Val.RV R) ([(0, [])].map (toItem (Try.f42.body.getD .skip))) [(0, .pointer k), (1, .string key)] w := by
  exact block_spec Try.func42 Try.mixed stops_nil (Eq.mp (kvm_KV_Val.B0_eq k key w   R ) h)
theorem kvm_KV_Val.sound (k : Option Addr) (key : ByteArray) (w : World) (R : ByteArray → Bool → World → Prop) (h : kvm_KV_Val.B0 k key w R) : kvm_KV_Val.Call k key w R := by
  have hc := calls_of_block (args := #[.pointer k, .string key]) Try.func42 (body := (Try.f42.body.getD .skip)) (by kernel_rfl) (by kernel_rfl) (args_slot _) (kvm_KV_Val.B0_sound k key w h)
  exact hc.mono fun e w' he => by
    obtain ⟨v, rfl, hv⟩ := he
    exact kvm_KV_Val.RV_elim hv
def kvm_KV_Sess.B1 (k : Option Addr) (client : Int) (t5 : Nat) (t11 : Bool) (w : World)   (R : Int → Int → ByteArray → World → Prop) : Prop :=
  Bm t11 (
    Sts [.int .i64 (0 : Int), .string (ByteArray.mk #[])] ⟨t5, 0, none⟩ 0 w fun w1 =>
    LdI .i64 ⟨t5, 0, none⟩ w1 fun r_0 =>
    LdS ⟨t5, 1, none⟩ w1 fun r_1 =>
    R (0 : Int) r_0 r_1 w1) (
    Pn k fun a =>
    (0 ≤ client ∧ client < ((3 : Nat) : Int)) ∧
    LdI .i64 (Addr.add (a.add 9) (client.toNat * 1)) w.drew fun x18 =>
    Pn k fun a_1 =>
    (0 ≤ client ∧ client < ((3 : Nat) : Int)) ∧
    LdI .i64 (Addr.add (a_1.add 12) (client.toNat * 2)) w.drew fun x24_0 =>
    LdS ((Addr.add (a_1.add 12) (client.toNat * 2)).add 1) w.drew fun x24_1 =>
    Sts [.int .i64 x24_0, .string x24_1] ⟨t5, 0, none⟩ 0 w.drew fun w2 =>
    LdI .i64 ⟨t5, 0, none⟩ w2 fun r_0_1 =>
    LdS ⟨t5, 1, none⟩ w2 fun r_1_1 =>
    R x18 r_0_1 r_1_1 w2)
theorem kvm_KV_Sess.B1_eq (k : Option Addr) (client : Int) (t5 : Nat) (t11 : Bool) (w : World)   (R : Int → Int → ByteArray → World → Prop)  :
    (
  Bm t11 (
    Sts [.int .i64 (0 : Int), .string (ByteArray.mk #[])] ⟨t5, 0, none⟩ 0 w fun w1 =>
    LdI .i64 ⟨t5, 0, none⟩ w1 fun r_0 =>
    LdS ⟨t5, 1, none⟩ w1 fun r_1 =>
    R (0 : Int) r_0 r_1 w1) (
    Pn k fun a =>
    (0 ≤ client ∧ client < ((3 : Nat) : Int)) ∧
    LdI .i64 (Addr.add (a.add 9) (client.toNat * 1)) w.drew fun x18 =>
    Pn k fun a_1 =>
    (0 ≤ client ∧ client < ((3 : Nat) : Int)) ∧
    LdI .i64 (Addr.add (a_1.add 12) (client.toNat * 2)) w.drew fun x24_0 =>
    LdS ((Addr.add (a_1.add 12) (client.toNat * 2)).add 1) w.drew fun x24_1 =>
    Sts [.int .i64 x24_0, .string x24_1] ⟨t5, 0, none⟩ 0 w.drew fun w2 =>
    LdI .i64 ⟨t5, 0, none⟩ w2 fun r_0_1 =>
    LdS ⟨t5, 1, none⟩ w2 fun r_1_1 =>
    R x18 r_0_1 r_1_1 w2)) = kstep Try.prog 25 Try.f43.results.toList (Try.f43.body.getD .skip) (kvm_KV_Sess.RV R) (kvc Try.prog 25 Try.f43.results.toList (Try.f43.body.getD .skip) (kvm_KV_Sess.RV R) [] 2000) [(0, [1, 0, 1]), (0, [1, 1])] [(0, .pointer k), (1, .int .i64 client), (5, .pointer (some ⟨t5, 0, none⟩)), (11, .bool t11)] w := by kernel_rfl
theorem kvm_KV_Sess.B1_sound {R : Int → Int → ByteArray → World → Prop}  (k : Option Addr) (client : Int) (t5 : Nat) (t11 : Bool) (w : World) (h : kvm_KV_Sess.B1 k client t5 t11 w   R) :
    KW Try.prog 43 25 (kvm_KV_Sess.RV R) ([(0, [1, 0, 1]), (0, [1, 1])].map (toItem (Try.f43.body.getD .skip))) [(0, .pointer k), (1, .int .i64 client), (5, .pointer (some ⟨t5, 0, none⟩)), (11, .bool t11)] w := by
  exact block_spec Try.func43 Try.mixed stops_nil (Eq.mp (kvm_KV_Sess.B1_eq k client t5 t11 w   R ) h)
def kvm_KV_Sess.B0 (k : Option Addr) (client : Int) (w : World)   (R : Int → Int → ByteArray → World → Prop) : Prop :=
  New (.cells #[.int .i64 (0 : Int), .string (ByteArray.mk #[])] 54) w fun b5 w1 =>
  Bm (decide (client < (0 : Int))) (
    kvm_KV_Sess.B1 k client b5 true w1  R) (
    kvm_KV_Sess.B1 k client b5 (decide (client ≥ (3 : Int))) w1  R)
theorem kvm_KV_Sess.B0_eq (k : Option Addr) (client : Int) (w : World)   (R : Int → Int → ByteArray → World → Prop) (sB1 : Option Addr → Int → Nat → Bool → World → Prop) :
    (
  New (.cells #[.int .i64 (0 : Int), .string (ByteArray.mk #[])] 54) w fun b5 w1 =>
  Bm (decide (client < (0 : Int))) (
    sB1 k client b5 true w1) (
    sB1 k client b5 (decide (client ≥ (3 : Int))) w1)) = kstep Try.prog 25 Try.f43.results.toList (Try.f43.body.getD .skip) (kvm_KV_Sess.RV R) (kvc Try.prog 25 Try.f43.results.toList (Try.f43.body.getD .skip) (kvm_KV_Sess.RV R) [([(0, [1, 0, 1]), (0, [1, 1])], fun σ w => dP (slotOf σ 0) fun k_ => dI .i64 (slotOf σ 1) fun client_ => dK (slotOf σ 5) fun t5_ => dB (slotOf σ 11) fun t11_ => sB1 k_ client_ t5_ t11_ w)] 2000) [(0, [])] [(0, .pointer k), (1, .int .i64 client)] w := by kernel_rfl
theorem kvm_KV_Sess.B0_sound {R : Int → Int → ByteArray → World → Prop}  (k : Option Addr) (client : Int) (w : World) (h : kvm_KV_Sess.B0 k client w   R) :
    KW Try.prog 43 25 (kvm_KV_Sess.RV R) ([(0, [])].map (toItem (Try.f43.body.getD .skip))) [(0, .pointer k), (1, .int .i64 client)] w := by
  exact block_spec Try.func43 Try.mixed (stops_cons (fun σ w h => by
      obtain ⟨k_, e0, h⟩ := dP_elim h
      obtain ⟨client_, e1, h⟩ := dI_elim h
      obtain ⟨t5_, e2, h⟩ := dK_elim h
      obtain ⟨t11_, e3, h⟩ := dB_elim h
      exact (kvm_KV_Sess.B1_sound  k_ client_ t5_ t11_ w h).weaken (Sub.cons (Sub.cons (Sub.cons (Sub.cons (Sub.nil _) e3) e2) e1) e0)) stops_nil) (Eq.mp (kvm_KV_Sess.B0_eq k client w   R (fun k_ client_ t5_ t11_ w => kvm_KV_Sess.B1 k_ client_ t5_ t11_ w  R)) h)
theorem kvm_KV_Sess.sound (k : Option Addr) (client : Int) (w : World) (R : Int → Int → ByteArray → World → Prop) (h : kvm_KV_Sess.B0 k client w R) : kvm_KV_Sess.Call k client w R := by
  have hc := calls_of_block (args := #[.pointer k, .int .i64 client]) Try.func43 (body := (Try.f43.body.getD .skip)) (by kernel_rfl) (by kernel_rfl) (args_slot _) (kvm_KV_Sess.B0_sound k client w h)
  exact hc.mono fun e w' he => by
    obtain ⟨v, rfl, hv⟩ := he
    exact kvm_KV_Sess.RV_elim hv
def kv_reader_one.B1 (r : Option Addr) (t18 : Bool) (w : World)   (R : Int → World → Prop) : Prop :=
  Bm t18 (
    Pn r fun a =>
    Sts [.bool true] (a.add 2) 0 w fun w1 =>
    R (0 : Int) w1) (
    Pn r fun a_1 =>
    LdI .i64 (a_1.add 1) w fun x25 =>
    Pn r fun a_2 =>
    Sts [.int .i64 (IntKind.i64.wrap (x25 + (1 : Int)))] (a_2.add 1) 0 w fun w2 =>
    Pn r fun a_3 =>
    LdS a_3 w2.drew fun x32 =>
    Pn r fun a_4 =>
    LdI .i64 (a_4.add 1) w2.drew fun x36 =>
    (0 ≤ (IntKind.i64.wrap (x36 - (1 : Int))) ∧ (IntKind.i64.wrap (x36 - (1 : Int))) < ((x32.size : Nat) : Int)) ∧
    R (IntKind.i64.wrap (byteAt x32 (IntKind.i64.wrap (x36 - (1 : Int))))) w2.drew)
theorem kv_reader_one.B1_eq (r : Option Addr) (t18 : Bool) (w : World)   (R : Int → World → Prop)  :
    (
  Bm t18 (
    Pn r fun a =>
    Sts [.bool true] (a.add 2) 0 w fun w1 =>
    R (0 : Int) w1) (
    Pn r fun a_1 =>
    LdI .i64 (a_1.add 1) w fun x25 =>
    Pn r fun a_2 =>
    Sts [.int .i64 (IntKind.i64.wrap (x25 + (1 : Int)))] (a_2.add 1) 0 w fun w2 =>
    Pn r fun a_3 =>
    LdS a_3 w2.drew fun x32 =>
    Pn r fun a_4 =>
    LdI .i64 (a_4.add 1) w2.drew fun x36 =>
    (0 ≤ (IntKind.i64.wrap (x36 - (1 : Int))) ∧ (IntKind.i64.wrap (x36 - (1 : Int))) < ((x32.size : Nat) : Int)) ∧
    R (IntKind.i64.wrap (byteAt x32 (IntKind.i64.wrap (x36 - (1 : Int))))) w2.drew)) = kstep Try.prog 40 Try.f44.results.toList (Try.f44.body.getD .skip) (kv_reader_one.RV R) (kvc Try.prog 40 Try.f44.results.toList (Try.f44.body.getD .skip) (kv_reader_one.RV R) [] 2000) [(0, [1, 0, 1]), (0, [1, 1])] [(0, .pointer r), (18, .bool t18)] w := by kernel_rfl
theorem kv_reader_one.B1_sound {R : Int → World → Prop}  (r : Option Addr) (t18 : Bool) (w : World) (h : kv_reader_one.B1 r t18 w   R) :
    KW Try.prog 44 40 (kv_reader_one.RV R) ([(0, [1, 0, 1]), (0, [1, 1])].map (toItem (Try.f44.body.getD .skip))) [(0, .pointer r), (18, .bool t18)] w := by
  exact block_spec Try.func44 Try.mixed stops_nil (Eq.mp (kv_reader_one.B1_eq r t18 w   R ) h)
def kv_reader_one.B0 (r : Option Addr) (w : World)   (R : Int → World → Prop) : Prop :=
  Pn r fun a =>
  LdB (a.add 2) w.drew fun x6 =>
  Bm x6 (
    kv_reader_one.B1 r true w.drew  R) (
    Pn r fun a_1 =>
    LdI .i64 (a_1.add 1) w.drew fun x11 =>
    Pn r fun a_2 =>
    LdS a_2 w.drew fun x15 =>
    kv_reader_one.B1 r (decide (x11 ≥ ((x15.size : Nat) : Int))) w.drew  R)
theorem kv_reader_one.B0_eq (r : Option Addr) (w : World)   (R : Int → World → Prop) (sB1 : Option Addr → Bool → World → Prop) :
    (
  Pn r fun a =>
  LdB (a.add 2) w.drew fun x6 =>
  Bm x6 (
    sB1 r true w.drew) (
    Pn r fun a_1 =>
    LdI .i64 (a_1.add 1) w.drew fun x11 =>
    Pn r fun a_2 =>
    LdS a_2 w.drew fun x15 =>
    sB1 r (decide (x11 ≥ ((x15.size : Nat) : Int))) w.drew)) = kstep Try.prog 40 Try.f44.results.toList (Try.f44.body.getD .skip) (kv_reader_one.RV R) (kvc Try.prog 40 Try.f44.results.toList (Try.f44.body.getD .skip) (kv_reader_one.RV R) [([(0, [1, 0, 1]), (0, [1, 1])], fun σ w => dP (slotOf σ 0) fun r_ => dB (slotOf σ 18) fun t18_ => sB1 r_ t18_ w)] 2000) [(0, [])] [(0, .pointer r)] w := by kernel_rfl
theorem kv_reader_one.B0_sound {R : Int → World → Prop}  (r : Option Addr) (w : World) (h : kv_reader_one.B0 r w   R) :
    KW Try.prog 44 40 (kv_reader_one.RV R) ([(0, [])].map (toItem (Try.f44.body.getD .skip))) [(0, .pointer r)] w := by
  exact block_spec Try.func44 Try.mixed (stops_cons (fun σ w h => by
      obtain ⟨r_, e0, h⟩ := dP_elim h
      obtain ⟨t18_, e1, h⟩ := dB_elim h
      exact (kv_reader_one.B1_sound  r_ t18_ w h).weaken (Sub.cons (Sub.cons (Sub.nil _) e1) e0)) stops_nil) (Eq.mp (kv_reader_one.B0_eq r w   R (fun r_ t18_ w => kv_reader_one.B1 r_ t18_ w  R)) h)
theorem kv_reader_one.sound (r : Option Addr) (w : World) (R : Int → World → Prop) (h : kv_reader_one.B0 r w R) : kv_reader_one.Call r w R := by
  have hc := calls_of_block (args := #[.pointer r]) Try.func44 (body := (Try.f44.body.getD .skip)) (by kernel_rfl) (by kernel_rfl) (args_slot _) (kv_reader_one.B0_sound r w h)
  exact hc.mono fun e w' he => by
    obtain ⟨v, rfl, hv⟩ := he
    exact kv_reader_one.RV_elim hv
def kv_reader_str.B1 (r : Option Addr) (n : Int) (t37 : Bool) (w : World)   (R : ByteArray → World → Prop) : Prop :=
  Bm t37 (
    Pn r fun a =>
    Sts [.bool true] (a.add 2) 0 w fun w1 =>
    R (ByteArray.mk #[]) w1) (
    Pn r fun a_1 =>
    LdI .i64 (a_1.add 1) w fun x44 =>
    Pn r fun a_2 =>
    Sts [.int .i64 (IntKind.i64.wrap (x44 + n))] (a_2.add 1) 0 w fun w2 =>
    Pn r fun a_3 =>
    LdS a_3 w2.drew fun x52 =>
    Pn r fun a_4 =>
    LdI .i64 (a_4.add 1) w2.drew fun x56 =>
    Pn r fun a_5 =>
    LdI .i64 (a_5.add 1) w2.drew fun x62 =>
    (0 ≤ x62 ∧ x62 ≤ ((x52.size : Nat) : Int)) ∧
    (0 ≤ (IntKind.i64.wrap (x56 - n)) ∧ (IntKind.i64.wrap (x56 - n)) ≤ x62) ∧
    R (x52.extract (IntKind.i64.wrap (x56 - n)).toNat x62.toNat) w2.drew)
theorem kv_reader_str.B1_eq (r : Option Addr) (n : Int) (t37 : Bool) (w : World)   (R : ByteArray → World → Prop)  :
    (
  Bm t37 (
    Pn r fun a =>
    Sts [.bool true] (a.add 2) 0 w fun w1 =>
    R (ByteArray.mk #[]) w1) (
    Pn r fun a_1 =>
    LdI .i64 (a_1.add 1) w fun x44 =>
    Pn r fun a_2 =>
    Sts [.int .i64 (IntKind.i64.wrap (x44 + n))] (a_2.add 1) 0 w fun w2 =>
    Pn r fun a_3 =>
    LdS a_3 w2.drew fun x52 =>
    Pn r fun a_4 =>
    LdI .i64 (a_4.add 1) w2.drew fun x56 =>
    Pn r fun a_5 =>
    LdI .i64 (a_5.add 1) w2.drew fun x62 =>
    (0 ≤ x62 ∧ x62 ≤ ((x52.size : Nat) : Int)) ∧
    (0 ≤ (IntKind.i64.wrap (x56 - n)) ∧ (IntKind.i64.wrap (x56 - n)) ≤ x62) ∧
    R (x52.extract (IntKind.i64.wrap (x56 - n)).toNat x62.toNat) w2.drew)) = kstep Try.prog 64 Try.f45.results.toList (Try.f45.body.getD .skip) (kv_reader_str.RV R) (kvc Try.prog 64 Try.f45.results.toList (Try.f45.body.getD .skip) (kv_reader_str.RV R) [] 2000) [(0, [1, 1, 0, 1]), (0, [1, 1, 1])] [(0, .pointer r), (7, .int .i64 n), (37, .bool t37)] w := by kernel_rfl
theorem kv_reader_str.B1_sound {R : ByteArray → World → Prop}  (r : Option Addr) (n : Int) (t37 : Bool) (w : World) (h : kv_reader_str.B1 r n t37 w   R) :
    KW Try.prog 45 64 (kv_reader_str.RV R) ([(0, [1, 1, 0, 1]), (0, [1, 1, 1])].map (toItem (Try.f45.body.getD .skip))) [(0, .pointer r), (7, .int .i64 n), (37, .bool t37)] w := by
  exact block_spec Try.func45 Try.mixed stops_nil (Eq.mp (kv_reader_str.B1_eq r n t37 w   R ) h)
def kv_reader_str.B0 (r : Option Addr) (lo hi : Int) (w : World)   (R : ByteArray → World → Prop) : Prop :=
  kv_reader_one.Call r w fun r9 w1 =>
  Pn r fun a =>
  LdB (a.add 2) w1.drew fun x13 =>
  Bm x13 (
    kv_reader_str.B1 r r9 true w1.drew  R) (
    Bm (decide (r9 < lo)) (
      kv_reader_str.B1 r r9 true w1.drew  R) (
      Bm (decide (r9 > hi)) (
        kv_reader_str.B1 r r9 true w1.drew  R) (
        Pn r fun a_1 =>
        LdS a_1 w1.drew fun x29 =>
        Pn r fun a_2 =>
        LdI .i64 (a_2.add 1) w1.drew fun x34 =>
        kv_reader_str.B1 r r9 (decide (r9 > (IntKind.i64.wrap (((x29.size : Nat) : Int) - x34)))) w1.drew  R)))
theorem kv_reader_str.B0_eq (r : Option Addr) (lo hi : Int) (w : World)   (R : ByteArray → World → Prop) (sB1 : Option Addr → Int → Bool → World → Prop) :
    (
  kv_reader_one.Call r w fun r9 w1 =>
  Pn r fun a =>
  LdB (a.add 2) w1.drew fun x13 =>
  Bm x13 (
    sB1 r r9 true w1.drew) (
    Bm (decide (r9 < lo)) (
      sB1 r r9 true w1.drew) (
      Bm (decide (r9 > hi)) (
        sB1 r r9 true w1.drew) (
        Pn r fun a_1 =>
        LdS a_1 w1.drew fun x29 =>
        Pn r fun a_2 =>
        LdI .i64 (a_2.add 1) w1.drew fun x34 =>
        sB1 r r9 (decide (r9 > (IntKind.i64.wrap (((x29.size : Nat) : Int) - x34)))) w1.drew)))) = kstep Try.prog 64 Try.f45.results.toList (Try.f45.body.getD .skip) (kv_reader_str.RV R) (kvc Try.prog 64 Try.f45.results.toList (Try.f45.body.getD .skip) (kv_reader_str.RV R) [([(0, [1, 1, 0, 1]), (0, [1, 1, 1])], fun σ w => dP (slotOf σ 0) fun r_ => dI .i64 (slotOf σ 7) fun n_ => dB (slotOf σ 37) fun t37_ => sB1 r_ n_ t37_ w)] 2000) [(0, [])] [(0, .pointer r), (1, .int .i64 lo), (2, .int .i64 hi)] w := by kernel_rfl
theorem kv_reader_str.B0_sound {R : ByteArray → World → Prop}  (r : Option Addr) (lo hi : Int) (w : World) (h : kv_reader_str.B0 r lo hi w   R) :
    KW Try.prog 45 64 (kv_reader_str.RV R) ([(0, [])].map (toItem (Try.f45.body.getD .skip))) [(0, .pointer r), (1, .int .i64 lo), (2, .int .i64 hi)] w := by
  exact block_spec Try.func45 Try.mixed (stops_cons (fun σ w h => by
      obtain ⟨r_, e0, h⟩ := dP_elim h
      obtain ⟨n_, e1, h⟩ := dI_elim h
      obtain ⟨t37_, e2, h⟩ := dB_elim h
      exact (kv_reader_str.B1_sound  r_ n_ t37_ w h).weaken (Sub.cons (Sub.cons (Sub.cons (Sub.nil _) e2) e1) e0)) stops_nil) (Eq.mp (kv_reader_str.B0_eq r lo hi w   R (fun r_ n_ t37_ w => kv_reader_str.B1 r_ n_ t37_ w  R)) h)
theorem kv_reader_str.sound (r : Option Addr) (lo hi : Int) (w : World) (R : ByteArray → World → Prop) (h : kv_reader_str.B0 r lo hi w R) : kv_reader_str.Call r lo hi w R := by
  have hc := calls_of_block (args := #[.pointer r, .int .i64 lo, .int .i64 hi]) Try.func45 (body := (Try.f45.body.getD .skip)) (by kernel_rfl) (by kernel_rfl) (args_slot _) (kv_reader_str.B0_sound r lo hi w h)
  exact hc.mono fun e w' he => by
    obtain ⟨v, rfl, hv⟩ := he
    exact kv_reader_str.RV_elim hv
def kv_table_add.B1 (t : Option Addr) (key val : ByteArray) (i : Int) (w : World)   (R : World → Prop) : Prop :=
  Pn t fun a =>
  kv_mkCell.Call key val w.drew fun r29_0 r29_1 r29_2 r29_3 r29_4 r29_5 r29_6 r29_7 w1 =>
  (0 ≤ i ∧ i < ((8 : Nat) : Int)) ∧
  Sts [.int .i64 r29_0, .int .i64 r29_1, .int .u8 r29_2, .int .u8 r29_3, .int .i64 r29_4, .int .u8 r29_5, .int .u8 r29_6, .int .u8 r29_7] (Addr.add a (i.toNat * 8)) 0 w1 fun w2 =>
  Pn t fun a_1 =>
  LdI .i64 (a_1.add 64) w2 fun x36 =>
  Pn t fun a_2 =>
  Sts [.int .i64 (IntKind.i64.wrap (x36 + (1 : Int)))] (a_2.add 64) 0 w2 fun w3 =>
  Pn t fun a_3 =>
  LdI .i64 (a_3.add 64) w3.drew fun x43 =>
  Pn t fun a_4 =>
  LdI .i64 (a_4.add 65) w3.drew fun x47 =>
  Bm (decide ((IntKind.i64.wrap (x43 + x47)) ≥ (6 : Int))) (
    kv_table_rebuild.Call t w3.drew fun w4 =>
    R  w4) (
    R  w3.drew)
theorem kv_table_add.B1_eq (t : Option Addr) (key val : ByteArray) (i : Int) (w : World)   (R : World → Prop)  :
    (
  Pn t fun a =>
  kv_mkCell.Call key val w.drew fun r29_0 r29_1 r29_2 r29_3 r29_4 r29_5 r29_6 r29_7 w1 =>
  (0 ≤ i ∧ i < ((8 : Nat) : Int)) ∧
  Sts [.int .i64 r29_0, .int .i64 r29_1, .int .u8 r29_2, .int .u8 r29_3, .int .i64 r29_4, .int .u8 r29_5, .int .u8 r29_6, .int .u8 r29_7] (Addr.add a (i.toNat * 8)) 0 w1 fun w2 =>
  Pn t fun a_1 =>
  LdI .i64 (a_1.add 64) w2 fun x36 =>
  Pn t fun a_2 =>
  Sts [.int .i64 (IntKind.i64.wrap (x36 + (1 : Int)))] (a_2.add 64) 0 w2 fun w3 =>
  Pn t fun a_3 =>
  LdI .i64 (a_3.add 64) w3.drew fun x43 =>
  Pn t fun a_4 =>
  LdI .i64 (a_4.add 65) w3.drew fun x47 =>
  Bm (decide ((IntKind.i64.wrap (x43 + x47)) ≥ (6 : Int))) (
    kv_table_rebuild.Call t w3.drew fun w4 =>
    R  w4) (
    R  w3.drew)) = kstep Try.prog 52 Try.f46.results.toList (Try.f46.body.getD .skip) (kv_table_add.RV R) (kvc Try.prog 52 Try.f46.results.toList (Try.f46.body.getD .skip) (kv_table_add.RV R) [] 2000) [(0, [1, 1])] [(0, .pointer t), (1, .string key), (2, .string val), (6, .int .i64 i)] w := by kernel_rfl
theorem kv_table_add.B1_sound {R : World → Prop}  (t : Option Addr) (key val : ByteArray) (i : Int) (w : World) (h : kv_table_add.B1 t key val i w   R) :
    KW Try.prog 46 52 (kv_table_add.RV R) ([(0, [1, 1])].map (toItem (Try.f46.body.getD .skip))) [(0, .pointer t), (1, .string key), (2, .string val), (6, .int .i64 i)] w := by
  exact block_spec Try.func46 Try.mixed stops_nil (Eq.mp (kv_table_add.B1_eq t key val i w   R ) h)
def kv_table_add.B0 (t : Option Addr) (key val : ByteArray) (w : World)   (R : World → Prop) : Prop :=
  kv_table_room.Call t key w fun r9 w1 =>
  Pn t fun a =>
  (0 ≤ r9 ∧ r9 < ((8 : Nat) : Int)) ∧
  LdI .i64 (Addr.add a (r9.toNat * 8)) w1 fun x16 =>
  Bm (x16 == (2 : Int)) (
    Pn t fun a_1 =>
    LdI .i64 (a_1.add 65) w1 fun x21 =>
    Pn t fun a_2 =>
    Sts [.int .i64 (IntKind.i64.wrap (x21 - (1 : Int)))] (a_2.add 65) 0 w1 fun w2 =>
    kv_table_add.B1 t key val r9 w2  R) (
    kv_table_add.B1 t key val r9 w1  R)
theorem kv_table_add.B0_eq (t : Option Addr) (key val : ByteArray) (w : World)   (R : World → Prop) (sB1 : Option Addr → ByteArray → ByteArray → Int → World → Prop) :
    (
  kv_table_room.Call t key w fun r9 w1 =>
  Pn t fun a =>
  (0 ≤ r9 ∧ r9 < ((8 : Nat) : Int)) ∧
  LdI .i64 (Addr.add a (r9.toNat * 8)) w1 fun x16 =>
  Bm (x16 == (2 : Int)) (
    Pn t fun a_1 =>
    LdI .i64 (a_1.add 65) w1 fun x21 =>
    Pn t fun a_2 =>
    Sts [.int .i64 (IntKind.i64.wrap (x21 - (1 : Int)))] (a_2.add 65) 0 w1 fun w2 =>
    sB1 t key val r9 w2) (
    sB1 t key val r9 w1)) = kstep Try.prog 52 Try.f46.results.toList (Try.f46.body.getD .skip) (kv_table_add.RV R) (kvc Try.prog 52 Try.f46.results.toList (Try.f46.body.getD .skip) (kv_table_add.RV R) [([(0, [1, 1])], fun σ w => dP (slotOf σ 0) fun t_ => dS (slotOf σ 1) fun key_ => dS (slotOf σ 2) fun val_ => dI .i64 (slotOf σ 6) fun i_ => sB1 t_ key_ val_ i_ w)] 2000) [(0, [])] [(0, .pointer t), (1, .string key), (2, .string val)] w := by kernel_rfl
theorem kv_table_add.B0_sound {R : World → Prop}  (t : Option Addr) (key val : ByteArray) (w : World) (h : kv_table_add.B0 t key val w   R) :
    KW Try.prog 46 52 (kv_table_add.RV R) ([(0, [])].map (toItem (Try.f46.body.getD .skip))) [(0, .pointer t), (1, .string key), (2, .string val)] w := by
  exact block_spec Try.func46 Try.mixed (stops_cons (fun σ w h => by
      obtain ⟨t_, e0, h⟩ := dP_elim h
      obtain ⟨key_, e1, h⟩ := dS_elim h
      obtain ⟨val_, e2, h⟩ := dS_elim h
      obtain ⟨i_, e3, h⟩ := dI_elim h
      exact (kv_table_add.B1_sound  t_ key_ val_ i_ w h).weaken (Sub.cons (Sub.cons (Sub.cons (Sub.cons (Sub.nil _) e3) e2) e1) e0)) stops_nil) (Eq.mp (kv_table_add.B0_eq t key val w   R (fun t_ key_ val_ i_ w => kv_table_add.B1 t_ key_ val_ i_ w  R)) h)
theorem kv_table_add.sound (t : Option Addr) (key val : ByteArray) (w : World) (R : World → Prop) (h : kv_table_add.B0 t key val w R) : kv_table_add.Call t key val w R := by
  have hc := calls_of_block (args := #[.pointer t, .string key, .string val]) Try.func46 (body := (Try.f46.body.getD .skip)) (by kernel_rfl) (by kernel_rfl) (args_slot _) (kv_table_add.B0_sound t key val w h)
  exact hc.mono fun e w' he => by
    obtain ⟨v, rfl, hv⟩ := he
    exact kv_table_add.RV_elim hv
def kv_reader_num.B1 (r : Option Addr) (v : Int) (t20 : Bool) (w : World)   (R : Int → World → Prop) : Prop :=
  Bm t20 (
    Pn r fun a =>
    Sts [.bool true] (a.add 2) 0 w fun w1 =>
    R (0 : Int) w1) (
    Pn r fun a_1 =>
    LdI .i64 (a_1.add 1) w fun x27 =>
    Pn r fun a_2 =>
    Sts [.int .i64 (IntKind.i64.wrap (x27 + (8 : Int)))] (a_2.add 1) 0 w fun w2 =>
    R v w2)
theorem kv_reader_num.B1_eq (r : Option Addr) (v : Int) (t20 : Bool) (w : World)   (R : Int → World → Prop)  :
    (
  Bm t20 (
    Pn r fun a =>
    Sts [.bool true] (a.add 2) 0 w fun w1 =>
    R (0 : Int) w1) (
    Pn r fun a_1 =>
    LdI .i64 (a_1.add 1) w fun x27 =>
    Pn r fun a_2 =>
    Sts [.int .i64 (IntKind.i64.wrap (x27 + (8 : Int)))] (a_2.add 1) 0 w fun w2 =>
    R v w2)) = kstep Try.prog 32 Try.f47.results.toList (Try.f47.body.getD .skip) (kv_reader_num.RV R) (kvc Try.prog 32 Try.f47.results.toList (Try.f47.body.getD .skip) (kv_reader_num.RV R) [] 2000) [(0, [1, 1, 0, 1]), (0, [1, 1, 1])] [(0, .pointer r), (3, .int .i64 v), (20, .bool t20)] w := by kernel_rfl
theorem kv_reader_num.B1_sound {R : Int → World → Prop}  (r : Option Addr) (v : Int) (t20 : Bool) (w : World) (h : kv_reader_num.B1 r v t20 w   R) :
    KW Try.prog 47 32 (kv_reader_num.RV R) ([(0, [1, 1, 0, 1]), (0, [1, 1, 1])].map (toItem (Try.f47.body.getD .skip))) [(0, .pointer r), (3, .int .i64 v), (20, .bool t20)] w := by
  exact block_spec Try.func47 Try.mixed stops_nil (Eq.mp (kv_reader_num.B1_eq r v t20 w   R ) h)
def kv_reader_num.B0 (r : Option Addr) (w : World)   (R : Int → World → Prop) : Prop :=
  Pn r fun a =>
  LdS a w.drew fun x7 =>
  Pn r fun a_1 =>
  LdI .i64 (a_1.add 1) w.drew fun x11 =>
  api_GetU64.Call x7 x11 w.drew fun r12 w1 =>
  Pn r fun a_2 =>
  LdB (a_2.add 2) w1 fun x16 =>
  Bm x16 (
    kv_reader_num.B1 r r12 true w1  R) (
    kv_reader_num.B1 r r12 (decide (r12 < (0 : Int))) w1  R)
theorem kv_reader_num.B0_eq (r : Option Addr) (w : World)   (R : Int → World → Prop) (sB1 : Option Addr → Int → Bool → World → Prop) :
    (
  Pn r fun a =>
  LdS a w.drew fun x7 =>
  Pn r fun a_1 =>
  LdI .i64 (a_1.add 1) w.drew fun x11 =>
  api_GetU64.Call x7 x11 w.drew fun r12 w1 =>
  Pn r fun a_2 =>
  LdB (a_2.add 2) w1 fun x16 =>
  Bm x16 (
    sB1 r r12 true w1) (
    sB1 r r12 (decide (r12 < (0 : Int))) w1)) = kstep Try.prog 32 Try.f47.results.toList (Try.f47.body.getD .skip) (kv_reader_num.RV R) (kvc Try.prog 32 Try.f47.results.toList (Try.f47.body.getD .skip) (kv_reader_num.RV R) [([(0, [1, 1, 0, 1]), (0, [1, 1, 1])], fun σ w => dP (slotOf σ 0) fun r_ => dI .i64 (slotOf σ 3) fun v_ => dB (slotOf σ 20) fun t20_ => sB1 r_ v_ t20_ w)] 2000) [(0, [])] [(0, .pointer r)] w := by kernel_rfl
theorem kv_reader_num.B0_sound {R : Int → World → Prop}  (r : Option Addr) (w : World) (h : kv_reader_num.B0 r w   R) :
    KW Try.prog 47 32 (kv_reader_num.RV R) ([(0, [])].map (toItem (Try.f47.body.getD .skip))) [(0, .pointer r)] w := by
  exact block_spec Try.func47 Try.mixed (stops_cons (fun σ w h => by
      obtain ⟨r_, e0, h⟩ := dP_elim h
      obtain ⟨v_, e1, h⟩ := dI_elim h
      obtain ⟨t20_, e2, h⟩ := dB_elim h
      exact (kv_reader_num.B1_sound  r_ v_ t20_ w h).weaken (Sub.cons (Sub.cons (Sub.cons (Sub.nil _) e2) e1) e0)) stops_nil) (Eq.mp (kv_reader_num.B0_eq r w   R (fun r_ v_ t20_ w => kv_reader_num.B1 r_ v_ t20_ w  R)) h)
theorem kv_reader_num.sound (r : Option Addr) (w : World) (R : Int → World → Prop) (h : kv_reader_num.B0 r w R) : kv_reader_num.Call r w R := by
  have hc := calls_of_block (args := #[.pointer r]) Try.func47 (body := (Try.f47.body.getD .skip)) (by kernel_rfl) (by kernel_rfl) (args_slot _) (kv_reader_num.B0_sound r w h)
  exact hc.mono fun e w' he => by
    obtain ⟨v, rfl, hv⟩ := he
    exact kv_reader_num.RV_elim hv
def kv_mkSession.B1 (a t4 s : Nat) (i : Int) (t19 : Bool) (w : World) (N1 : Nat → Nat → Nat → Int → World → Prop)  (R : Int → Int → Int → Int → Int → Int → World → Prop) : Prop :=
  Bm t19 (
    LdS ⟨a, 1, none⟩ w fun x24 =>
    (0 ≤ i ∧ i < ((x24.size : Nat) : Int)) ∧
    (0 ≤ i ∧ i < ((3 : Nat) : Int)) ∧
    Sts [.int .u8 (byteAt x24 i)] (Addr.add ⟨s, 3, none⟩ (i.toNat * 1)) 0 w fun w1 =>
    Sts [.int .i64 (IntKind.i64.wrap (i + (1 : Int)))] ⟨s, 2, none⟩ 0 w1 fun w2 =>
    N1 a t4 s (IntKind.i64.wrap (i + (1 : Int))) w2) (
    LdI .i64 ⟨s, 0, none⟩ w fun x32_0 =>
    LdI .i64 ⟨s, 1, none⟩ w fun x32_1 =>
    LdI .i64 ⟨s, 2, none⟩ w fun x32_2 =>
    LdI .u8 ⟨s, 3, none⟩ w fun x32_3 =>
    LdI .u8 ⟨s, 4, none⟩ w fun x32_4 =>
    LdI .u8 ⟨s, 5, none⟩ w fun x32_5 =>
    Sts [.int .i64 x32_0, .int .i64 x32_1, .int .i64 x32_2, .int .u8 x32_3, .int .u8 x32_4, .int .u8 x32_5] ⟨t4, 0, none⟩ 0 w fun w3 =>
    LdI .i64 ⟨t4, 0, none⟩ w3 fun r_0 =>
    LdI .i64 ⟨t4, 1, none⟩ w3 fun r_1 =>
    LdI .i64 ⟨t4, 2, none⟩ w3 fun r_2 =>
    LdI .u8 ⟨t4, 3, none⟩ w3 fun r_3 =>
    LdI .u8 ⟨t4, 4, none⟩ w3 fun r_4 =>
    LdI .u8 ⟨t4, 5, none⟩ w3 fun r_5 =>
    R r_0 r_1 r_2 r_3 r_4 r_5 w3)
theorem kv_mkSession.B1_eq (a t4 s : Nat) (i : Int) (t19 : Bool) (w : World) (N1 : Nat → Nat → Nat → Int → World → Prop)  (R : Int → Int → Int → Int → Int → Int → World → Prop)  :
    (
  Bm t19 (
    LdS ⟨a, 1, none⟩ w fun x24 =>
    (0 ≤ i ∧ i < ((x24.size : Nat) : Int)) ∧
    (0 ≤ i ∧ i < ((3 : Nat) : Int)) ∧
    Sts [.int .u8 (byteAt x24 i)] (Addr.add ⟨s, 3, none⟩ (i.toNat * 1)) 0 w fun w1 =>
    Sts [.int .i64 (IntKind.i64.wrap (i + (1 : Int)))] ⟨s, 2, none⟩ 0 w1 fun w2 =>
    N1 a t4 s (IntKind.i64.wrap (i + (1 : Int))) w2) (
    LdI .i64 ⟨s, 0, none⟩ w fun x32_0 =>
    LdI .i64 ⟨s, 1, none⟩ w fun x32_1 =>
    LdI .i64 ⟨s, 2, none⟩ w fun x32_2 =>
    LdI .u8 ⟨s, 3, none⟩ w fun x32_3 =>
    LdI .u8 ⟨s, 4, none⟩ w fun x32_4 =>
    LdI .u8 ⟨s, 5, none⟩ w fun x32_5 =>
    Sts [.int .i64 x32_0, .int .i64 x32_1, .int .i64 x32_2, .int .u8 x32_3, .int .u8 x32_4, .int .u8 x32_5] ⟨t4, 0, none⟩ 0 w fun w3 =>
    LdI .i64 ⟨t4, 0, none⟩ w3 fun r_0 =>
    LdI .i64 ⟨t4, 1, none⟩ w3 fun r_1 =>
    LdI .i64 ⟨t4, 2, none⟩ w3 fun r_2 =>
    LdI .u8 ⟨t4, 3, none⟩ w3 fun r_3 =>
    LdI .u8 ⟨t4, 4, none⟩ w3 fun r_4 =>
    LdI .u8 ⟨t4, 5, none⟩ w3 fun r_5 =>
    R r_0 r_1 r_2 r_3 r_4 r_5 w3)) = kstep Try.prog 33 Try.f48.results.toList (Try.f48.body.getD .skip) (kv_mkSession.RV R) (kvc Try.prog 33 Try.f48.results.toList (Try.f48.body.getD .skip) (kv_mkSession.RV R) [([(0, [1, 1, 0, 1, 0, 0]), (2, [1, 1, 0, 1, 0, 0]), (1, [0]), (0, [1, 1, 1])], fun σ w => dK (slotOf σ 3) fun a_ => dK (slotOf σ 4) fun t4_ => dK (slotOf σ 5) fun s_ => dI .i64 (slotOf σ 6) fun i_ => N1 a_ t4_ s_ i_ w)] 2000) [(0, [1, 1, 0, 1, 0, 0, 0, 1]), (0, [1, 1, 0, 1, 0, 0, 1]), (2, [1, 1, 0, 1, 0, 0]), (1, [0]), (0, [1, 1, 1])] [(3, .pointer (some ⟨a, 0, none⟩)), (4, .pointer (some ⟨t4, 0, none⟩)), (5, .pointer (some ⟨s, 0, none⟩)), (6, .int .i64 i), (19, .bool t19)] w := by kernel_rfl
theorem kv_mkSession.B1_sound {R : Int → Int → Int → Int → Int → Int → World → Prop} {N1 : Nat → Nat → Nat → Int → World → Prop} (hN1 : ∀ a t4 s i w, N1 a t4 s i w → KW Try.prog 48 33 (kv_mkSession.RV R) ([(0, [1, 1, 0, 1, 0, 0]), (2, [1, 1, 0, 1, 0, 0]), (1, [0]), (0, [1, 1, 1])].map (toItem (Try.f48.body.getD .skip))) [(3, .pointer (some ⟨a, 0, none⟩)), (4, .pointer (some ⟨t4, 0, none⟩)), (5, .pointer (some ⟨s, 0, none⟩)), (6, .int .i64 i)] w) (a t4 s : Nat) (i : Int) (t19 : Bool) (w : World) (h : kv_mkSession.B1 a t4 s i t19 w N1  R) :
    KW Try.prog 48 33 (kv_mkSession.RV R) ([(0, [1, 1, 0, 1, 0, 0, 0, 1]), (0, [1, 1, 0, 1, 0, 0, 1]), (2, [1, 1, 0, 1, 0, 0]), (1, [0]), (0, [1, 1, 1])].map (toItem (Try.f48.body.getD .skip))) [(3, .pointer (some ⟨a, 0, none⟩)), (4, .pointer (some ⟨t4, 0, none⟩)), (5, .pointer (some ⟨s, 0, none⟩)), (6, .int .i64 i), (19, .bool t19)] w := by
  exact block_spec Try.func48 Try.mixed (stops_cons (fun σ w h => by
      obtain ⟨a_, e0, h⟩ := dK_elim h
      obtain ⟨t4_, e1, h⟩ := dK_elim h
      obtain ⟨s_, e2, h⟩ := dK_elim h
      obtain ⟨i_, e3, h⟩ := dI_elim h
      exact (hN1 a_ t4_ s_ i_ w h).weaken (Sub.cons (Sub.cons (Sub.cons (Sub.cons (Sub.nil _) e3) e2) e1) e0)) stops_nil) (Eq.mp (kv_mkSession.B1_eq a t4 s i t19 w N1  R ) h)
def kv_mkSession.L1b (a t4 s : Nat) (i : Int) (w : World)  (N1 : Nat → Nat → Nat → Int → World → Prop) (R : Int → Int → Int → Int → Int → Int → World → Prop) : Prop :=
  LdS ⟨a, 1, none⟩ w fun x13 =>
  Bm (decide (i < ((x13.size : Nat) : Int))) (
    kv_mkSession.B1 a t4 s i (decide (i < (3 : Int))) w N1 R) (
    kv_mkSession.B1 a t4 s i false w N1 R)
theorem kv_mkSession.L1b_eq (a t4 s : Nat) (i : Int) (w : World)  (N1 : Nat → Nat → Nat → Int → World → Prop) (R : Int → Int → Int → Int → Int → Int → World → Prop) (sB1 : Nat → Nat → Nat → Int → Bool → World → Prop) :
    (
  LdS ⟨a, 1, none⟩ w fun x13 =>
  Bm (decide (i < ((x13.size : Nat) : Int))) (
    sB1 a t4 s i (decide (i < (3 : Int))) w) (
    sB1 a t4 s i false w)) = kstep Try.prog 33 Try.f48.results.toList (Try.f48.body.getD .skip) (kv_mkSession.RV R) (kvc Try.prog 33 Try.f48.results.toList (Try.f48.body.getD .skip) (kv_mkSession.RV R) [([(0, [1, 1, 0, 1, 0, 0, 0, 1]), (0, [1, 1, 0, 1, 0, 0, 1]), (2, [1, 1, 0, 1, 0, 0]), (1, [0]), (0, [1, 1, 1])], fun σ w => dK (slotOf σ 3) fun a_ => dK (slotOf σ 4) fun t4_ => dK (slotOf σ 5) fun s_ => dI .i64 (slotOf σ 6) fun i_ => dB (slotOf σ 19) fun t19_ => sB1 a_ t4_ s_ i_ t19_ w)] 2000) [(0, [1, 1, 0, 1, 0, 0]), (2, [1, 1, 0, 1, 0, 0]), (1, [0]), (0, [1, 1, 1])] [(3, .pointer (some ⟨a, 0, none⟩)), (4, .pointer (some ⟨t4, 0, none⟩)), (5, .pointer (some ⟨s, 0, none⟩)), (6, .int .i64 i)] w := by kernel_rfl
theorem kv_mkSession.L1b_sound {R : Int → Int → Int → Int → Int → Int → World → Prop} {N1 : Nat → Nat → Nat → Int → World → Prop} (hN1 : ∀ a t4 s i w, N1 a t4 s i w → KW Try.prog 48 33 (kv_mkSession.RV R) ([(0, [1, 1, 0, 1, 0, 0]), (2, [1, 1, 0, 1, 0, 0]), (1, [0]), (0, [1, 1, 1])].map (toItem (Try.f48.body.getD .skip))) [(3, .pointer (some ⟨a, 0, none⟩)), (4, .pointer (some ⟨t4, 0, none⟩)), (5, .pointer (some ⟨s, 0, none⟩)), (6, .int .i64 i)] w) (a t4 s : Nat) (i : Int) (w : World) (h : kv_mkSession.L1b a t4 s i w  N1 R) :
    KW Try.prog 48 33 (kv_mkSession.RV R) ([(0, [1, 1, 0, 1, 0, 0]), (2, [1, 1, 0, 1, 0, 0]), (1, [0]), (0, [1, 1, 1])].map (toItem (Try.f48.body.getD .skip))) [(3, .pointer (some ⟨a, 0, none⟩)), (4, .pointer (some ⟨t4, 0, none⟩)), (5, .pointer (some ⟨s, 0, none⟩)), (6, .int .i64 i)] w := by
  exact block_spec Try.func48 Try.mixed (stops_cons (fun σ w h => by
      obtain ⟨a_, e0, h⟩ := dK_elim h
      obtain ⟨t4_, e1, h⟩ := dK_elim h
      obtain ⟨s_, e2, h⟩ := dK_elim h
      obtain ⟨i_, e3, h⟩ := dI_elim h
      obtain ⟨t19_, e4, h⟩ := dB_elim h
      exact (kv_mkSession.B1_sound hN1 a_ t4_ s_ i_ t19_ w h).weaken (Sub.cons (Sub.cons (Sub.cons (Sub.cons (Sub.cons (Sub.nil _) e4) e3) e2) e1) e0)) stops_nil) (Eq.mp (kv_mkSession.L1b_eq a t4 s i w  N1 R (fun a_ t4_ s_ i_ t19_ w => kv_mkSession.B1 a_ t4_ s_ i_ t19_ w N1 R)) h)
def kv_mkSession.L1 (a t4 s : Nat) (i : Int) (w : World)  (R : Int → Int → Int → Int → Int → Int → World → Prop) : Prop :=
  ∃ (I : Nat → Nat → Nat → Nat → Int → World → Prop) (m : Nat), I m a t4 s i w ∧ ∀ m a t4 s i w, I m a t4 s i w → kv_mkSession.L1b a t4 s i w  (fun a' t4' s' i' w' => ∃ m', m' < m ∧ I m' a' t4' s' i' w') R
theorem kv_mkSession.L1_sound {R : Int → Int → Int → Int → Int → Int → World → Prop}  (a t4 s : Nat) (i : Int) (w : World) (h : kv_mkSession.L1 a t4 s i w  R) :
    KW Try.prog 48 33 (kv_mkSession.RV R) ([(0, [1, 1, 0, 1, 0, 0]), (2, [1, 1, 0, 1, 0, 0]), (1, [0]), (0, [1, 1, 1])].map (toItem (Try.f48.body.getD .skip))) [(3, .pointer (some ⟨a, 0, none⟩)), (4, .pointer (some ⟨t4, 0, none⟩)), (5, .pointer (some ⟨s, 0, none⟩)), (6, .int .i64 i)] w := by
  obtain ⟨I, m, hBase, hr⟩ := h
  refine KW.loop (fun m σ w => ∃ (a t4 s : Nat) (i : Int), σ = [(3, .pointer (some ⟨a, 0, none⟩)), (4, .pointer (some ⟨t4, 0, none⟩)), (5, .pointer (some ⟨s, 0, none⟩)), (6, .int .i64 i)] ∧ I m a t4 s i w) ?_ m _ w ⟨a, t4, s, i, rfl, hBase⟩
  rintro m ih σ w ⟨a, t4, s, i, rfl, hI⟩
  exact kv_mkSession.L1b_sound  (N1 := fun a' t4' s' i' w' => ∃ m', m' < m ∧ I m' a' t4' s' i' w') (fun a' t4' s' i' w' hx => by obtain ⟨m', hlt, hI'⟩ := hx; exact ih m' hlt _ w' ⟨a', t4', s', i', rfl, hI'⟩) a t4 s i w (hr m a t4 s i w hI)
def kv_mkSession.B0 (seq a_0 : Int) (a_1 : ByteArray) (w : World)   (R : Int → Int → Int → Int → Int → Int → World → Prop) : Prop :=
  New (.cells #[.int .i64 a_0, .string a_1] 54) w fun a_ w1 =>
  New (.cells #[.int .i64 (0 : Int), .int .i64 (0 : Int), .int .i64 (0 : Int), .int .u8 (0 : Int), .int .u8 (0 : Int), .int .u8 (0 : Int)] 48) w1 fun b4 w2 =>
  LdI .i64 ⟨a_, 0, none⟩ w2 fun x9 =>
  New (.cells #[.int .i64 (0 : Int), .int .i64 (0 : Int), .int .i64 (0 : Int), .int .u8 (0 : Int), .int .u8 (0 : Int), .int .u8 (0 : Int)] 48) w2 fun s_ w3 =>
  Sts [.int .i64 seq, .int .i64 x9, .int .i64 (0 : Int), .int .u8 (0 : Int), .int .u8 (0 : Int), .int .u8 (0 : Int)] ⟨s_, 0, none⟩ 0 w3 fun w4 =>
  kv_mkSession.L1 a_ b4 s_ (0 : Int) w4  R
theorem kv_mkSession.B0_eq (seq a_0 : Int) (a_1 : ByteArray) (w : World)   (R : Int → Int → Int → Int → Int → Int → World → Prop) (sL1 : Nat → Nat → Nat → Int → World → Prop) :
    (
  New (.cells #[.int .i64 a_0, .string a_1] 54) w fun a_ w1 =>
  New (.cells #[.int .i64 (0 : Int), .int .i64 (0 : Int), .int .i64 (0 : Int), .int .u8 (0 : Int), .int .u8 (0 : Int), .int .u8 (0 : Int)] 48) w1 fun b4 w2 =>
  LdI .i64 ⟨a_, 0, none⟩ w2 fun x9 =>
  New (.cells #[.int .i64 (0 : Int), .int .i64 (0 : Int), .int .i64 (0 : Int), .int .u8 (0 : Int), .int .u8 (0 : Int), .int .u8 (0 : Int)] 48) w2 fun s_ w3 =>
  Sts [.int .i64 seq, .int .i64 x9, .int .i64 (0 : Int), .int .u8 (0 : Int), .int .u8 (0 : Int), .int .u8 (0 : Int)] ⟨s_, 0, none⟩ 0 w3 fun w4 =>
  sL1 a_ b4 s_ (0 : Int) w4) = kstep Try.prog 33 Try.f48.results.toList (Try.f48.body.getD .skip) (kv_mkSession.RV R) (kvc Try.prog 33 Try.f48.results.toList (Try.f48.body.getD .skip) (kv_mkSession.RV R) [([(0, [1, 1, 0, 1, 0, 0]), (2, [1, 1, 0, 1, 0, 0]), (1, [0]), (0, [1, 1, 1])], fun σ w => dK (slotOf σ 3) fun a_ => dK (slotOf σ 4) fun t4_ => dK (slotOf σ 5) fun s_ => dI .i64 (slotOf σ 6) fun i_ => sL1 a_ t4_ s_ i_ w)] 2000) [(0, [])] [(0, .int .i64 seq), (1, .agg #[.int .i64 a_0, .string a_1])] w := by kernel_rfl
theorem kv_mkSession.B0_sound {R : Int → Int → Int → Int → Int → Int → World → Prop}  (seq a_0 : Int) (a_1 : ByteArray) (w : World) (h : kv_mkSession.B0 seq a_0 a_1 w   R) :
    KW Try.prog 48 33 (kv_mkSession.RV R) ([(0, [])].map (toItem (Try.f48.body.getD .skip))) [(0, .int .i64 seq), (1, .agg #[.int .i64 a_0, .string a_1])] w := by
  exact block_spec Try.func48 Try.mixed (stops_cons (fun σ w h => by
      obtain ⟨a_, e0, h⟩ := dK_elim h
      obtain ⟨t4_, e1, h⟩ := dK_elim h
      obtain ⟨s_, e2, h⟩ := dK_elim h
      obtain ⟨i_, e3, h⟩ := dI_elim h
      exact (kv_mkSession.L1_sound  a_ t4_ s_ i_ w h).weaken (Sub.cons (Sub.cons (Sub.cons (Sub.cons (Sub.nil _) e3) e2) e1) e0)) stops_nil) (Eq.mp (kv_mkSession.B0_eq seq a_0 a_1 w   R (fun a_ t4_ s_ i_ w => kv_mkSession.L1 a_ t4_ s_ i_ w  R)) h)
theorem kv_mkSession.sound (seq a_0 : Int) (a_1 : ByteArray) (w : World) (R : Int → Int → Int → Int → Int → Int → World → Prop) (h : kv_mkSession.B0 seq a_0 a_1 w R) : kv_mkSession.Call seq a_0 a_1 w R := by
  have hc := calls_of_block (args := #[.int .i64 seq, .agg #[.int .i64 a_0, .string a_1]]) Try.func48 (body := (Try.f48.body.getD .skip)) (by kernel_rfl) (by kernel_rfl) (args_slot _) (kv_mkSession.B0_sound seq a_0 a_1 w h)
  exact hc.mono fun e w' he => by
    obtain ⟨v, rfl, hv⟩ := he
    exact kv_mkSession.RV_elim hv
def kvm_take.B2 (s : ByteArray) (p n : Int) (t39 : Bool) (w : World)   (R : ByteArray → Int → World → Prop) : Prop :=
  Bm t39 (
    R (ByteArray.mk #[]) (-1 : Int) w) (
    (0 ≤ (IntKind.i64.wrap ((IntKind.i64.wrap (p + (1 : Int))) + n)) ∧ (IntKind.i64.wrap ((IntKind.i64.wrap (p + (1 : Int))) + n)) ≤ ((s.size : Nat) : Int)) ∧
    (0 ≤ (IntKind.i64.wrap (p + (1 : Int))) ∧ (IntKind.i64.wrap (p + (1 : Int))) ≤ (IntKind.i64.wrap ((IntKind.i64.wrap (p + (1 : Int))) + n))) ∧
    R (s.extract (IntKind.i64.wrap (p + (1 : Int))).toNat (IntKind.i64.wrap ((IntKind.i64.wrap (p + (1 : Int))) + n)).toNat) (IntKind.i64.wrap ((IntKind.i64.wrap (p + (1 : Int))) + n)) w)
theorem kvm_take.B2_eq (s : ByteArray) (p n : Int) (t39 : Bool) (w : World)   (R : ByteArray → Int → World → Prop)  :
    (
  Bm t39 (
    R (ByteArray.mk #[]) (-1 : Int) w) (
    (0 ≤ (IntKind.i64.wrap ((IntKind.i64.wrap (p + (1 : Int))) + n)) ∧ (IntKind.i64.wrap ((IntKind.i64.wrap (p + (1 : Int))) + n)) ≤ ((s.size : Nat) : Int)) ∧
    (0 ≤ (IntKind.i64.wrap (p + (1 : Int))) ∧ (IntKind.i64.wrap (p + (1 : Int))) ≤ (IntKind.i64.wrap ((IntKind.i64.wrap (p + (1 : Int))) + n))) ∧
    R (s.extract (IntKind.i64.wrap (p + (1 : Int))).toNat (IntKind.i64.wrap ((IntKind.i64.wrap (p + (1 : Int))) + n)).toNat) (IntKind.i64.wrap ((IntKind.i64.wrap (p + (1 : Int))) + n)) w)) = kstep Try.prog 52 Try.f49.results.toList (Try.f49.body.getD .skip) (kvm_take.RV R) (kvc Try.prog 52 Try.f49.results.toList (Try.f49.body.getD .skip) (kvm_take.RV R) [] 2000) [(0, [1, 1, 1, 0, 1]), (0, [1, 1, 1, 1])] [(0, .string s), (1, .int .i64 p), (10, .int .i64 n), (39, .bool t39)] w := by kernel_rfl
theorem kvm_take.B2_sound {R : ByteArray → Int → World → Prop}  (s : ByteArray) (p n : Int) (t39 : Bool) (w : World) (h : kvm_take.B2 s p n t39 w   R) :
    KW Try.prog 49 52 (kvm_take.RV R) ([(0, [1, 1, 1, 0, 1]), (0, [1, 1, 1, 1])].map (toItem (Try.f49.body.getD .skip))) [(0, .string s), (1, .int .i64 p), (10, .int .i64 n), (39, .bool t39)] w := by
  exact block_spec Try.func49 Try.mixed stops_nil (Eq.mp (kvm_take.B2_eq s p n t39 w   R ) h)
def kvm_take.B1 (s : ByteArray) (p lo hi : Int) (t18 : Bool) (w : World)   (R : ByteArray → Int → World → Prop) : Prop :=
  Bm t18 (
    R (ByteArray.mk #[]) (-1 : Int) w) (
    (0 ≤ p ∧ p < ((s.size : Nat) : Int)) ∧
    Bm (decide ((IntKind.i64.wrap (byteAt s p)) < lo)) (
      kvm_take.B2 s p (IntKind.i64.wrap (byteAt s p)) true w  R) (
      Bm (decide ((IntKind.i64.wrap (byteAt s p)) > hi)) (
        kvm_take.B2 s p (IntKind.i64.wrap (byteAt s p)) true w  R) (
        kvm_take.B2 s p (IntKind.i64.wrap (byteAt s p)) (decide ((IntKind.i64.wrap ((IntKind.i64.wrap (p + (1 : Int))) + (IntKind.i64.wrap (byteAt s p)))) > ((s.size : Nat) : Int))) w  R)))
theorem kvm_take.B1_eq (s : ByteArray) (p lo hi : Int) (t18 : Bool) (w : World)   (R : ByteArray → Int → World → Prop) (sB2 : ByteArray → Int → Int → Bool → World → Prop) :
    (
  Bm t18 (
    R (ByteArray.mk #[]) (-1 : Int) w) (
    (0 ≤ p ∧ p < ((s.size : Nat) : Int)) ∧
    Bm (decide ((IntKind.i64.wrap (byteAt s p)) < lo)) (
      sB2 s p (IntKind.i64.wrap (byteAt s p)) true w) (
      Bm (decide ((IntKind.i64.wrap (byteAt s p)) > hi)) (
        sB2 s p (IntKind.i64.wrap (byteAt s p)) true w) (
        sB2 s p (IntKind.i64.wrap (byteAt s p)) (decide ((IntKind.i64.wrap ((IntKind.i64.wrap (p + (1 : Int))) + (IntKind.i64.wrap (byteAt s p)))) > ((s.size : Nat) : Int))) w)))) = kstep Try.prog 52 Try.f49.results.toList (Try.f49.body.getD .skip) (kvm_take.RV R) (kvc Try.prog 52 Try.f49.results.toList (Try.f49.body.getD .skip) (kvm_take.RV R) [([(0, [1, 1, 1, 0, 1]), (0, [1, 1, 1, 1])], fun σ w => dS (slotOf σ 0) fun s_ => dI .i64 (slotOf σ 1) fun p_ => dI .i64 (slotOf σ 10) fun n_ => dB (slotOf σ 39) fun t39_ => sB2 s_ p_ n_ t39_ w)] 2000) [(0, [1, 0, 1]), (0, [1, 1])] [(0, .string s), (1, .int .i64 p), (2, .int .i64 lo), (3, .int .i64 hi), (18, .bool t18)] w := by kernel_rfl
theorem kvm_take.B1_sound {R : ByteArray → Int → World → Prop}  (s : ByteArray) (p lo hi : Int) (t18 : Bool) (w : World) (h : kvm_take.B1 s p lo hi t18 w   R) :
    KW Try.prog 49 52 (kvm_take.RV R) ([(0, [1, 0, 1]), (0, [1, 1])].map (toItem (Try.f49.body.getD .skip))) [(0, .string s), (1, .int .i64 p), (2, .int .i64 lo), (3, .int .i64 hi), (18, .bool t18)] w := by
  exact block_spec Try.func49 Try.mixed (stops_cons (fun σ w h => by
      obtain ⟨s_, e0, h⟩ := dS_elim h
      obtain ⟨p_, e1, h⟩ := dI_elim h
      obtain ⟨n_, e2, h⟩ := dI_elim h
      obtain ⟨t39_, e3, h⟩ := dB_elim h
      exact (kvm_take.B2_sound  s_ p_ n_ t39_ w h).weaken (Sub.cons (Sub.cons (Sub.cons (Sub.cons (Sub.nil _) e3) e2) e1) e0)) stops_nil) (Eq.mp (kvm_take.B1_eq s p lo hi t18 w   R (fun s_ p_ n_ t39_ w => kvm_take.B2 s_ p_ n_ t39_ w  R)) h)
def kvm_take.B0 (s : ByteArray) (p lo hi : Int) (w : World)   (R : ByteArray → Int → World → Prop) : Prop :=
  Bm (decide (p < (0 : Int))) (
    kvm_take.B1 s p lo hi true w  R) (
    kvm_take.B1 s p lo hi (decide (p ≥ ((s.size : Nat) : Int))) w  R)
theorem kvm_take.B0_eq (s : ByteArray) (p lo hi : Int) (w : World)   (R : ByteArray → Int → World → Prop) (sB1 : ByteArray → Int → Int → Int → Bool → World → Prop) :
    (
  Bm (decide (p < (0 : Int))) (
    sB1 s p lo hi true w) (
    sB1 s p lo hi (decide (p ≥ ((s.size : Nat) : Int))) w)) = kstep Try.prog 52 Try.f49.results.toList (Try.f49.body.getD .skip) (kvm_take.RV R) (kvc Try.prog 52 Try.f49.results.toList (Try.f49.body.getD .skip) (kvm_take.RV R) [([(0, [1, 0, 1]), (0, [1, 1])], fun σ w => dS (slotOf σ 0) fun s_ => dI .i64 (slotOf σ 1) fun p_ => dI .i64 (slotOf σ 2) fun lo_ => dI .i64 (slotOf σ 3) fun hi_ => dB (slotOf σ 18) fun t18_ => sB1 s_ p_ lo_ hi_ t18_ w)] 2000) [(0, [])] [(0, .string s), (1, .int .i64 p), (2, .int .i64 lo), (3, .int .i64 hi)] w := by kernel_rfl
theorem kvm_take.B0_sound {R : ByteArray → Int → World → Prop}  (s : ByteArray) (p lo hi : Int) (w : World) (h : kvm_take.B0 s p lo hi w   R) :
    KW Try.prog 49 52 (kvm_take.RV R) ([(0, [])].map (toItem (Try.f49.body.getD .skip))) [(0, .string s), (1, .int .i64 p), (2, .int .i64 lo), (3, .int .i64 hi)] w := by
  exact block_spec Try.func49 Try.mixed (stops_cons (fun σ w h => by
      obtain ⟨s_, e0, h⟩ := dS_elim h
      obtain ⟨p_, e1, h⟩ := dI_elim h
      obtain ⟨lo_, e2, h⟩ := dI_elim h
      obtain ⟨hi_, e3, h⟩ := dI_elim h
      obtain ⟨t18_, e4, h⟩ := dB_elim h
      exact (kvm_take.B1_sound  s_ p_ lo_ hi_ t18_ w h).weaken (Sub.cons (Sub.cons (Sub.cons (Sub.cons (Sub.cons (Sub.nil _) e4) e3) e2) e1) e0)) stops_nil) (Eq.mp (kvm_take.B0_eq s p lo hi w   R (fun s_ p_ lo_ hi_ t18_ w => kvm_take.B1 s_ p_ lo_ hi_ t18_ w  R)) h)
theorem kvm_take.sound (s : ByteArray) (p lo hi : Int) (w : World) (R : ByteArray → Int → World → Prop) (h : kvm_take.B0 s p lo hi w R) : kvm_take.Call s p lo hi w R := by
  have hc := calls_of_block (args := #[.string s, .int .i64 p, .int .i64 lo, .int .i64 hi]) Try.func49 (body := (Try.f49.body.getD .skip)) (by kernel_rfl) (by kernel_rfl) (args_slot _) (kvm_take.B0_sound s p lo hi w h)
  exact hc.mono fun e w' he => by
    obtain ⟨v, rfl, hv⟩ := he
    exact kvm_take.RV_elim hv
def api_GetU64.L1b (b : ByteArray) (off v i : Int) (w : World)  (N1 : ByteArray → Int → Int → Int → World → Prop) (R : Int → World → Prop) : Prop :=
  Bm (decide (i < (8 : Int))) (
    0 ≤ (8 : Int) ∧
    (0 ≤ (IntKind.i64.wrap (off + i)) ∧ (IntKind.i64.wrap (off + i)) < ((b.size : Nat) : Int)) ∧
    N1 b off (IntKind.u64.wrap (BitVec.ofInt IntKind.u64.bits (IntKind.u64.wrap (v * 2 ^ (min (8 : Int).toNat IntKind.u64.bits))) ||| BitVec.ofInt IntKind.u64.bits (IntKind.u64.wrap (byteAt b (IntKind.i64.wrap (off + i))))).toNat) (IntKind.i64.wrap (i + (1 : Int))) w) (
    Bm (decide (v > (72057594037927936 : Int))) (
      R (-1 : Int) w) (
      R (IntKind.i64.wrap v) w))
theorem api_GetU64.L1b_eq (b : ByteArray) (off v i : Int) (w : World)  (N1 : ByteArray → Int → Int → Int → World → Prop) (R : Int → World → Prop)  :
    (
  Bm (decide (i < (8 : Int))) (
    0 ≤ (8 : Int) ∧
    (0 ≤ (IntKind.i64.wrap (off + i)) ∧ (IntKind.i64.wrap (off + i)) < ((b.size : Nat) : Int)) ∧
    N1 b off (IntKind.u64.wrap (BitVec.ofInt IntKind.u64.bits (IntKind.u64.wrap (v * 2 ^ (min (8 : Int).toNat IntKind.u64.bits))) ||| BitVec.ofInt IntKind.u64.bits (IntKind.u64.wrap (byteAt b (IntKind.i64.wrap (off + i))))).toNat) (IntKind.i64.wrap (i + (1 : Int))) w) (
    Bm (decide (v > (72057594037927936 : Int))) (
      R (-1 : Int) w) (
      R (IntKind.i64.wrap v) w))) = kstep Try.prog 33 Try.f50.results.toList (Try.f50.body.getD .skip) (api_GetU64.RV R) (kvc Try.prog 33 Try.f50.results.toList (Try.f50.body.getD .skip) (api_GetU64.RV R) [([(0, [1, 1, 1, 0, 1, 0, 0]), (2, [1, 1, 1, 0, 1, 0, 0]), (1, [0]), (0, [1, 1, 1, 1])], fun σ w => dS (slotOf σ 0) fun b_ => dI .i64 (slotOf σ 1) fun off_ => dI .u64 (slotOf σ 5) fun v_ => dI .i64 (slotOf σ 6) fun i_ => N1 b_ off_ v_ i_ w)] 2000) [(0, [1, 1, 1, 0, 1, 0, 0]), (2, [1, 1, 1, 0, 1, 0, 0]), (1, [0]), (0, [1, 1, 1, 1])] [(0, .string b), (1, .int .i64 off), (5, .int .u64 v), (6, .int .i64 i)] w := by kernel_rfl
theorem api_GetU64.L1b_sound {R : Int → World → Prop} {N1 : ByteArray → Int → Int → Int → World → Prop} (hN1 : ∀ b off v i w, N1 b off v i w → KW Try.prog 50 33 (api_GetU64.RV R) ([(0, [1, 1, 1, 0, 1, 0, 0]), (2, [1, 1, 1, 0, 1, 0, 0]), (1, [0]), (0, [1, 1, 1, 1])].map (toItem (Try.f50.body.getD .skip))) [(0, .string b), (1, .int .i64 off), (5, .int .u64 v), (6, .int .i64 i)] w) (b : ByteArray) (off v i : Int) (w : World) (h : api_GetU64.L1b b off v i w  N1 R) :
    KW Try.prog 50 33 (api_GetU64.RV R) ([(0, [1, 1, 1, 0, 1, 0, 0]), (2, [1, 1, 1, 0, 1, 0, 0]), (1, [0]), (0, [1, 1, 1, 1])].map (toItem (Try.f50.body.getD .skip))) [(0, .string b), (1, .int .i64 off), (5, .int .u64 v), (6, .int .i64 i)] w := by
  exact block_spec Try.func50 Try.mixed (stops_cons (fun σ w h => by
      obtain ⟨b_, e0, h⟩ := dS_elim h
      obtain ⟨off_, e1, h⟩ := dI_elim h
      obtain ⟨v_, e2, h⟩ := dI_elim h
      obtain ⟨i_, e3, h⟩ := dI_elim h
      exact (hN1 b_ off_ v_ i_ w h).weaken (Sub.cons (Sub.cons (Sub.cons (Sub.cons (Sub.nil _) e3) e2) e1) e0)) stops_nil) (Eq.mp (api_GetU64.L1b_eq b off v i w  N1 R ) h)
def api_GetU64.L1 (b : ByteArray) (off v i : Int) (w : World)  (R : Int → World → Prop) : Prop :=
  ∃ (I : Nat → ByteArray → Int → Int → Int → World → Prop) (m : Nat), I m b off v i w ∧ ∀ m b off v i w, I m b off v i w → api_GetU64.L1b b off v i w  (fun b' off' v' i' w' => ∃ m', m' < m ∧ I m' b' off' v' i' w') R
theorem api_GetU64.L1_sound {R : Int → World → Prop}  (b : ByteArray) (off v i : Int) (w : World) (h : api_GetU64.L1 b off v i w  R) :
    KW Try.prog 50 33 (api_GetU64.RV R) ([(0, [1, 1, 1, 0, 1, 0, 0]), (2, [1, 1, 1, 0, 1, 0, 0]), (1, [0]), (0, [1, 1, 1, 1])].map (toItem (Try.f50.body.getD .skip))) [(0, .string b), (1, .int .i64 off), (5, .int .u64 v), (6, .int .i64 i)] w := by
  obtain ⟨I, m, hBase, hr⟩ := h
  refine KW.loop (fun m σ w => ∃ (b : ByteArray) (off v i : Int), σ = [(0, .string b), (1, .int .i64 off), (5, .int .u64 v), (6, .int .i64 i)] ∧ I m b off v i w) ?_ m _ w ⟨b, off, v, i, rfl, hBase⟩
  rintro m ih σ w ⟨b, off, v, i, rfl, hI⟩
  exact api_GetU64.L1b_sound  (N1 := fun b' off' v' i' w' => ∃ m', m' < m ∧ I m' b' off' v' i' w') (fun b' off' v' i' w' hx => by obtain ⟨m', hlt, hI'⟩ := hx; exact ih m' hlt _ w' ⟨b', off', v', i', rfl, hI'⟩) b off v i w (hr m b off v i w hI)
def api_GetU64.B1 (b : ByteArray) (off : Int) (t15 : Bool) (w : World)   (R : Int → World → Prop) : Prop :=
  Bm t15 (
    R (-1 : Int) w) (
    api_GetU64.L1 b off (0 : Int) (0 : Int) w  R)
theorem api_GetU64.B1_eq (b : ByteArray) (off : Int) (t15 : Bool) (w : World)   (R : Int → World → Prop) (sL1 : ByteArray → Int → Int → Int → World → Prop) :
    (
  Bm t15 (
    R (-1 : Int) w) (
    sL1 b off (0 : Int) (0 : Int) w)) = kstep Try.prog 33 Try.f50.results.toList (Try.f50.body.getD .skip) (api_GetU64.RV R) (kvc Try.prog 33 Try.f50.results.toList (Try.f50.body.getD .skip) (api_GetU64.RV R) [([(0, [1, 1, 1, 0, 1, 0, 0]), (2, [1, 1, 1, 0, 1, 0, 0]), (1, [0]), (0, [1, 1, 1, 1])], fun σ w => dS (slotOf σ 0) fun b_ => dI .i64 (slotOf σ 1) fun off_ => dI .u64 (slotOf σ 5) fun v_ => dI .i64 (slotOf σ 6) fun i_ => sL1 b_ off_ v_ i_ w)] 2000) [(0, [1, 0, 1]), (0, [1, 1])] [(0, .string b), (1, .int .i64 off), (15, .bool t15)] w := by kernel_rfl
theorem api_GetU64.B1_sound {R : Int → World → Prop}  (b : ByteArray) (off : Int) (t15 : Bool) (w : World) (h : api_GetU64.B1 b off t15 w   R) :
    KW Try.prog 50 33 (api_GetU64.RV R) ([(0, [1, 0, 1]), (0, [1, 1])].map (toItem (Try.f50.body.getD .skip))) [(0, .string b), (1, .int .i64 off), (15, .bool t15)] w := by
  exact block_spec Try.func50 Try.mixed (stops_cons (fun σ w h => by
      obtain ⟨b_, e0, h⟩ := dS_elim h
      obtain ⟨off_, e1, h⟩ := dI_elim h
      obtain ⟨v_, e2, h⟩ := dI_elim h
      obtain ⟨i_, e3, h⟩ := dI_elim h
      exact (api_GetU64.L1_sound  b_ off_ v_ i_ w h).weaken (Sub.cons (Sub.cons (Sub.cons (Sub.cons (Sub.nil _) e3) e2) e1) e0)) stops_nil) (Eq.mp (api_GetU64.B1_eq b off t15 w   R (fun b_ off_ v_ i_ w => api_GetU64.L1 b_ off_ v_ i_ w  R)) h)
def api_GetU64.B0 (b : ByteArray) (off : Int) (w : World)   (R : Int → World → Prop) : Prop :=
  Bm (decide (off < (0 : Int))) (
    api_GetU64.B1 b off true w  R) (
    api_GetU64.B1 b off (decide (off > (IntKind.i64.wrap (((b.size : Nat) : Int) - (8 : Int))))) w  R)
theorem api_GetU64.B0_eq (b : ByteArray) (off : Int) (w : World)   (R : Int → World → Prop) (sB1 : ByteArray → Int → Bool → World → Prop) :
    (
  Bm (decide (off < (0 : Int))) (
    sB1 b off true w) (
    sB1 b off (decide (off > (IntKind.i64.wrap (((b.size : Nat) : Int) - (8 : Int))))) w)) = kstep Try.prog 33 Try.f50.results.toList (Try.f50.body.getD .skip) (api_GetU64.RV R) (kvc Try.prog 33 Try.f50.results.toList (Try.f50.body.getD .skip) (api_GetU64.RV R) [([(0, [1, 0, 1]), (0, [1, 1])], fun σ w => dS (slotOf σ 0) fun b_ => dI .i64 (slotOf σ 1) fun off_ => dB (slotOf σ 15) fun t15_ => sB1 b_ off_ t15_ w)] 2000) [(0, [])] [(0, .string b), (1, .int .i64 off)] w := by kernel_rfl
theorem api_GetU64.B0_sound {R : Int → World → Prop}  (b : ByteArray) (off : Int) (w : World) (h : api_GetU64.B0 b off w   R) :
    KW Try.prog 50 33 (api_GetU64.RV R) ([(0, [])].map (toItem (Try.f50.body.getD .skip))) [(0, .string b), (1, .int .i64 off)] w := by
  exact block_spec Try.func50 Try.mixed (stops_cons (fun σ w h => by
      obtain ⟨b_, e0, h⟩ := dS_elim h
      obtain ⟨off_, e1, h⟩ := dI_elim h
      obtain ⟨t15_, e2, h⟩ := dB_elim h
      exact (api_GetU64.B1_sound  b_ off_ t15_ w h).weaken (Sub.cons (Sub.cons (Sub.cons (Sub.nil _) e2) e1) e0)) stops_nil) (Eq.mp (api_GetU64.B0_eq b off w   R (fun b_ off_ t15_ w => api_GetU64.B1 b_ off_ t15_ w  R)) h)
theorem api_GetU64.sound (b : ByteArray) (off : Int) (w : World) (R : Int → World → Prop) (h : api_GetU64.B0 b off w R) : api_GetU64.Call b off w R := by
  have hc := calls_of_block (args := #[.string b, .int .i64 off]) Try.func50 (body := (Try.f50.body.getD .skip)) (by kernel_rfl) (by kernel_rfl) (args_slot _) (api_GetU64.B0_sound b off w h)
  exact hc.mono fun e w' he => by
    obtain ⟨v, rfl, hv⟩ := he
    exact api_GetU64.RV_elim hv
end Go.Proofs.Qxb6500429a
