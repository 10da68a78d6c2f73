import Derived.Test.Qxb6500430aGreatSig
set_option maxRecDepth 100000
set_option linter.unusedVariables false
open Go.Vc
namespace Go.Proofs.Qxb6500430aGreat
def kvm_KV_Val.B0 (k : Option Addr) (key : ByteArray) (w : World)   (R : ByteArray → Bool → World → Prop) : Prop :=
  Bm (decide (((key.size : Nat) : Int) > (2 : Int))) (
    R (ByteArray.mk #[]) false w) (
    kvm_KV_find.Call k key w fun r12 w1 =>
    Bm (decide (r12 < (0 : Int))) (
      R (ByteArray.mk #[]) false w1) (
      Pn k fun a =>
      (0 ≤ r12 ∧ r12 < ((4 : Nat) : Int)) ∧
      LdS (Addr.add (a.add 5) (r12.toNat * 1)) w1 fun x20 =>
      R x20 true w1))
theorem kvm_KV_Val.B0_eq (k : Option Addr) (key : ByteArray) (w : World)   (R : ByteArray → Bool → World → Prop)  :
    (
  Bm (decide (((key.size : Nat) : Int) > (2 : Int))) (
    R (ByteArray.mk #[]) false w) (
    kvm_KV_find.Call k key w fun r12 w1 =>
    Bm (decide (r12 < (0 : Int))) (
      R (ByteArray.mk #[]) false w1) (
      Pn k fun a =>
      (0 ≤ r12 ∧ r12 < ((4 : Nat) : Int)) ∧
      LdS (Addr.add (a.add 5) (r12.toNat * 1)) w1 fun x20 =>
      R x20 true w1))) = kstep Tryz.prog 21 Tryz.f194.results.toList (Tryz.f194.body.getD .skip) (kvm_KV_Val.RV R) (kvc Tryz.prog 21 Tryz.f194.results.toList (Tryz.f194.body.getD .skip) (kvm_KV_Val.RV R) [] 2000) [(0, [])] [(0, .pointer k), (1, .string key)] w := by kernel_rfl
theorem kvm_KV_Val.B0_sound {R : ByteArray → Bool → World → Prop}  (k : Option Addr) (key : ByteArray) (w : World) (h : kvm_KV_Val.B0 k key w   R) :
    KW Tryz.prog 194 21 (kvm_KV_Val.RV R) ([(0, [])].map (toItem (Tryz.f194.body.getD .skip))) [(0, .pointer k), (1, .string key)] w := by
  exact block_spec Tryz.func194 Tryz.mixed stops_nil (Eq.mp (kvm_KV_Val.B0_eq k key w   R ) h)
theorem kvm_KV_Val.sound (k : Option Addr) (key : ByteArray) (w : World) (R : ByteArray → Bool → World → Prop) (h : kvm_KV_Val.B0 k key w R) : kvm_KV_Val.Call k key w R := by
  have hc := calls_of_block (args := #[.pointer k, .string key]) Tryz.func194 (body := (Tryz.f194.body.getD .skip)) (by kernel_rfl) (by kernel_rfl) (args_slot _) (kvm_KV_Val.B0_sound k key w h)
  exact hc.mono fun e w' he => by
    obtain ⟨v, rfl, hv⟩ := he
    exact kvm_KV_Val.RV_elim hv
def kv_KV_Len.B0 (k : Option Addr) (w : World)   (R : Int → World → Prop) : Prop :=
  Pn k fun a =>
  LdI .i64 (a.add 64) w fun x7 =>
  R x7 w
theorem kv_KV_Len.B0_eq (k : Option Addr) (w : World)   (R : Int → World → Prop)  :
    (
  Pn k fun a =>
  LdI .i64 (a.add 64) w fun x7 =>
  R x7 w) = kstep Tryz.prog 8 Tryz.f195.results.toList (Tryz.f195.body.getD .skip) (kv_KV_Len.RV R) (kvc Tryz.prog 8 Tryz.f195.results.toList (Tryz.f195.body.getD .skip) (kv_KV_Len.RV R) [] 2000) [(0, [])] [(0, .pointer k)] w := by kernel_rfl
theorem kv_KV_Len.B0_sound {R : Int → World → Prop}  (k : Option Addr) (w : World) (h : kv_KV_Len.B0 k w   R) :
    KW Tryz.prog 195 8 (kv_KV_Len.RV R) ([(0, [])].map (toItem (Tryz.f195.body.getD .skip))) [(0, .pointer k)] w := by
  exact block_spec Tryz.func195 Tryz.mixed stops_nil (Eq.mp (kv_KV_Len.B0_eq k w   R ) h)
theorem kv_KV_Len.sound (k : Option Addr) (w : World) (R : Int → World → Prop) (h : kv_KV_Len.B0 k w R) : kv_KV_Len.Call k w R := by
  have hc := calls_of_block (args := #[.pointer k]) Tryz.func195 (body := (Tryz.f195.body.getD .skip)) (by kernel_rfl) (by kernel_rfl) (args_slot _) (kv_KV_Len.B0_sound k w h)
  exact hc.mono fun e w' he => by
    obtain ⟨v, rfl, hv⟩ := he
    exact kv_KV_Len.RV_elim hv
def kvm_KV_Len.B0 (k : Option Addr) (w : World)   (R : Int → World → Prop) : Prop :=
  Pn k fun a =>
  LdI .i64 a w fun x6 =>
  R x6 w
theorem kvm_KV_Len.B0_eq (k : Option Addr) (w : World)   (R : Int → World → Prop)  :
    (
  Pn k fun a =>
  LdI .i64 a w fun x6 =>
  R x6 w) = kstep Tryz.prog 7 Tryz.f196.results.toList (Tryz.f196.body.getD .skip) (kvm_KV_Len.RV R) (kvc Tryz.prog 7 Tryz.f196.results.toList (Tryz.f196.body.getD .skip) (kvm_KV_Len.RV R) [] 2000) [(0, [])] [(0, .pointer k)] w := by kernel_rfl
theorem kvm_KV_Len.B0_sound {R : Int → World → Prop}  (k : Option Addr) (w : World) (h : kvm_KV_Len.B0 k w   R) :
    KW Tryz.prog 196 7 (kvm_KV_Len.RV R) ([(0, [])].map (toItem (Tryz.f196.body.getD .skip))) [(0, .pointer k)] w := by
  exact block_spec Tryz.func196 Tryz.mixed stops_nil (Eq.mp (kvm_KV_Len.B0_eq k w   R ) h)
theorem kvm_KV_Len.sound (k : Option Addr) (w : World) (R : Int → World → Prop) (h : kvm_KV_Len.B0 k w R) : kvm_KV_Len.Call k w R := by
  have hc := calls_of_block (args := #[.pointer k]) Tryz.func196 (body := (Tryz.f196.body.getD .skip)) (by kernel_rfl) (by kernel_rfl) (args_slot _) (kvm_KV_Len.B0_sound k w h)
  exact hc.mono fun e w' he => by
    obtain ⟨v, rfl, hv⟩ := he
    exact kvm_KV_Len.RV_elim hv
def kv_KV_KeyAt.B1 (k : Option Addr) (i : Int) (t20 : Bool) (w : World)   (R : ByteArray → World → Prop) : Prop :=
  Bm t20 (
    R (ByteArray.mk #[]) w) (
    Pn k fun a =>
    kv_table_sorted.Call (some a) w fun r24_0 r24_1 r24_2 r24_3 w1 =>
    New (.cells #[.int .i64 (0 : Int), .int .i64 (0 : Int), .int .i64 (0 : Int), .int .i64 (0 : Int)] 262) w1 fun at0_ w2 =>
    Sts [.int .i64 r24_0, .int .i64 r24_1, .int .i64 r24_2, .int .i64 r24_3] ⟨at0_, 0, none⟩ 0 w2 fun w3 =>
    (0 ≤ i ∧ i < ((4 : Nat) : Int)) ∧
    LdI .i64 (Addr.add ⟨at0_, 0, none⟩ (i.toNat * 1)) w3.drew fun x28 =>
    Pn k fun a_1 =>
    (0 ≤ x28 ∧ x28 < ((8 : Nat) : Int)) ∧
    LdI .i64 (Addr.add a_1 (x28.toNat * 8)) w3.drew fun x33_0 =>
    LdI .i64 ((Addr.add a_1 (x28.toNat * 8)).add 1) w3.drew fun x33_1 =>
    LdI .u8 ((Addr.add a_1 (x28.toNat * 8)).add 2) w3.drew fun x33_2 =>
    LdI .u8 ((Addr.add a_1 (x28.toNat * 8)).add 3) w3.drew fun x33_3 =>
    LdI .i64 ((Addr.add a_1 (x28.toNat * 8)).add 4) w3.drew fun x33_4 =>
    LdI .u8 ((Addr.add a_1 (x28.toNat * 8)).add 5) w3.drew fun x33_5 =>
    LdI .u8 ((Addr.add a_1 (x28.toNat * 8)).add 6) w3.drew fun x33_6 =>
    LdI .u8 ((Addr.add a_1 (x28.toNat * 8)).add 7) w3.drew fun x33_7 =>
    kv_keyOf.Call x33_0 x33_1 x33_2 x33_3 x33_4 x33_5 x33_6 x33_7 w3.drew fun r34 w4 =>
    R r34 w4)
theorem kv_KV_KeyAt.B1_eq (k : Option Addr) (i : Int) (t20 : Bool) (w : World)   (R : ByteArray → World → Prop)  :
    (
  Bm t20 (
    R (ByteArray.mk #[]) w) (
    Pn k fun a =>
    kv_table_sorted.Call (some a) w fun r24_0 r24_1 r24_2 r24_3 w1 =>
    New (.cells #[.int .i64 (0 : Int), .int .i64 (0 : Int), .int .i64 (0 : Int), .int .i64 (0 : Int)] 262) w1 fun at0_ w2 =>
    Sts [.int .i64 r24_0, .int .i64 r24_1, .int .i64 r24_2, .int .i64 r24_3] ⟨at0_, 0, none⟩ 0 w2 fun w3 =>
    (0 ≤ i ∧ i < ((4 : Nat) : Int)) ∧
    LdI .i64 (Addr.add ⟨at0_, 0, none⟩ (i.toNat * 1)) w3.drew fun x28 =>
    Pn k fun a_1 =>
    (0 ≤ x28 ∧ x28 < ((8 : Nat) : Int)) ∧
    LdI .i64 (Addr.add a_1 (x28.toNat * 8)) w3.drew fun x33_0 =>
    LdI .i64 ((Addr.add a_1 (x28.toNat * 8)).add 1) w3.drew fun x33_1 =>
    LdI .u8 ((Addr.add a_1 (x28.toNat * 8)).add 2) w3.drew fun x33_2 =>
    LdI .u8 ((Addr.add a_1 (x28.toNat * 8)).add 3) w3.drew fun x33_3 =>
    LdI .i64 ((Addr.add a_1 (x28.toNat * 8)).add 4) w3.drew fun x33_4 =>
    LdI .u8 ((Addr.add a_1 (x28.toNat * 8)).add 5) w3.drew fun x33_5 =>
    LdI .u8 ((Addr.add a_1 (x28.toNat * 8)).add 6) w3.drew fun x33_6 =>
    LdI .u8 ((Addr.add a_1 (x28.toNat * 8)).add 7) w3.drew fun x33_7 =>
    kv_keyOf.Call x33_0 x33_1 x33_2 x33_3 x33_4 x33_5 x33_6 x33_7 w3.drew fun r34 w4 =>
    R r34 w4)) = kstep Tryz.prog 35 Tryz.f197.results.toList (Tryz.f197.body.getD .skip) (kv_KV_KeyAt.RV R) (kvc Tryz.prog 35 Tryz.f197.results.toList (Tryz.f197.body.getD .skip) (kv_KV_KeyAt.RV R) [] 2000) [(0, [1, 0, 1]), (0, [1, 1])] [(0, .pointer k), (1, .int .i64 i), (20, .bool t20)] w := by kernel_rfl
theorem kv_KV_KeyAt.B1_sound {R : ByteArray → World → Prop}  (k : Option Addr) (i : Int) (t20 : Bool) (w : World) (h : kv_KV_KeyAt.B1 k i t20 w   R) :
    KW Tryz.prog 197 35 (kv_KV_KeyAt.RV R) ([(0, [1, 0, 1]), (0, [1, 1])].map (toItem (Tryz.f197.body.getD .skip))) [(0, .pointer k), (1, .int .i64 i), (20, .bool t20)] w := by
  exact block_spec Tryz.func197 Tryz.mixed stops_nil (Eq.mp (kv_KV_KeyAt.B1_eq k i t20 w   R ) h)
def kv_KV_KeyAt.B0 (k : Option Addr) (i : Int) (w : World)   (R : ByteArray → World → Prop) : Prop :=
  Bm (decide (i < (0 : Int))) (
    kv_KV_KeyAt.B1 k i true w  R) (
    Pn k fun a =>
    LdI .i64 (a.add 64) w fun x14 =>
    Bm (decide (i ≥ x14)) (
      kv_KV_KeyAt.B1 k i true w  R) (
      kv_KV_KeyAt.B1 k i (decide (i ≥ (4 : Int))) w  R))
theorem kv_KV_KeyAt.B0_eq (k : Option Addr) (i : Int) (w : World)   (R : ByteArray → World → Prop) (sB1 : Option Addr → Int → Bool → World → Prop) :
    (
  Bm (decide (i < (0 : Int))) (
    sB1 k i true w) (
    Pn k fun a =>
    LdI .i64 (a.add 64) w fun x14 =>
    Bm (decide (i ≥ x14)) (
      sB1 k i true w) (
      sB1 k i (decide (i ≥ (4 : Int))) w))) = kstep Tryz.prog 35 Tryz.f197.results.toList (Tryz.f197.body.getD .skip) (kv_KV_KeyAt.RV R) (kvc Tryz.prog 35 Tryz.f197.results.toList (Tryz.f197.body.getD .skip) (kv_KV_KeyAt.RV R) [([(0, [1, 0, 1]), (0, [1, 1])], fun σ w => dP (slotOf σ 0) fun k_ => dI .i64 (slotOf σ 1) fun i_ => dB (slotOf σ 20) fun t20_ => sB1 k_ i_ t20_ w)] 2000) [(0, [])] [(0, .pointer k), (1, .int .i64 i)] w := by kernel_rfl
theorem kv_KV_KeyAt.B0_sound {R : ByteArray → World → Prop}  (k : Option Addr) (i : Int) (w : World) (h : kv_KV_KeyAt.B0 k i w   R) :
    KW Tryz.prog 197 35 (kv_KV_KeyAt.RV R) ([(0, [])].map (toItem (Tryz.f197.body.getD .skip))) [(0, .pointer k), (1, .int .i64 i)] w := by
  exact block_spec Tryz.func197 Tryz.mixed (stops_cons (fun σ w h => by
      obtain ⟨k_, e0, h⟩ := dP_elim h
      obtain ⟨i_, e1, h⟩ := dI_elim h
      obtain ⟨t20_, e2, h⟩ := dB_elim h
      exact (kv_KV_KeyAt.B1_sound  k_ i_ t20_ w h).weaken (Sub.cons (Sub.cons (Sub.cons (Sub.nil _) e2) e1) e0)) stops_nil) (Eq.mp (kv_KV_KeyAt.B0_eq k i w   R (fun k_ i_ t20_ w => kv_KV_KeyAt.B1 k_ i_ t20_ w  R)) h)
theorem kv_KV_KeyAt.sound (k : Option Addr) (i : Int) (w : World) (R : ByteArray → World → Prop) (h : kv_KV_KeyAt.B0 k i w R) : kv_KV_KeyAt.Call k i w R := by
  have hc := calls_of_block (args := #[.pointer k, .int .i64 i]) Tryz.func197 (body := (Tryz.f197.body.getD .skip)) (by kernel_rfl) (by kernel_rfl) (args_slot _) (kv_KV_KeyAt.B0_sound k i w h)
  exact hc.mono fun e w' he => by
    obtain ⟨v, rfl, hv⟩ := he
    exact kv_KV_KeyAt.RV_elim hv
def kvm_KV_KeyAt.B1 (k : Option Addr) (i : Int) (t14 : Bool) (w : World)   (R : ByteArray → World → Prop) : Prop :=
  Bm t14 (
    R (ByteArray.mk #[]) w) (
    Pn k fun a =>
    (0 ≤ i ∧ i < ((4 : Nat) : Int)) ∧
    LdS (Addr.add (a.add 1) (i.toNat * 1)) w fun x20 =>
    R x20 w)
theorem kvm_KV_KeyAt.B1_eq (k : Option Addr) (i : Int) (t14 : Bool) (w : World)   (R : ByteArray → World → Prop)  :
    (
  Bm t14 (
    R (ByteArray.mk #[]) w) (
    Pn k fun a =>
    (0 ≤ i ∧ i < ((4 : Nat) : Int)) ∧
    LdS (Addr.add (a.add 1) (i.toNat * 1)) w fun x20 =>
    R x20 w)) = kstep Tryz.prog 21 Tryz.f198.results.toList (Tryz.f198.body.getD .skip) (kvm_KV_KeyAt.RV R) (kvc Tryz.prog 21 Tryz.f198.results.toList (Tryz.f198.body.getD .skip) (kvm_KV_KeyAt.RV R) [] 2000) [(0, [1, 0, 1]), (0, [1, 1])] [(0, .pointer k), (1, .int .i64 i), (14, .bool t14)] w := by kernel_rfl
theorem kvm_KV_KeyAt.B1_sound {R : ByteArray → World → Prop}  (k : Option Addr) (i : Int) (t14 : Bool) (w : World) (h : kvm_KV_KeyAt.B1 k i t14 w   R) :
    KW Tryz.prog 198 21 (kvm_KV_KeyAt.RV R) ([(0, [1, 0, 1]), (0, [1, 1])].map (toItem (Tryz.f198.body.getD .skip))) [(0, .pointer k), (1, .int .i64 i), (14, .bool t14)] w := by
  exact block_spec Tryz.func198 Tryz.mixed stops_nil (Eq.mp (kvm_KV_KeyAt.B1_eq k i t14 w   R ) h)
def kvm_KV_KeyAt.B0 (k : Option Addr) (i : Int) (w : World)   (R : ByteArray → World → Prop) : Prop :=
  Bm (decide (i < (0 : Int))) (
    kvm_KV_KeyAt.B1 k i true w  R) (
    Pn k fun a =>
    LdI .i64 a w fun x12 =>
    kvm_KV_KeyAt.B1 k i (decide (i ≥ x12)) w  R)
theorem kvm_KV_KeyAt.B0_eq (k : Option Addr) (i : Int) (w : World)   (R : ByteArray → World → Prop) (sB1 : Option Addr → Int → Bool → World → Prop) :
    (
  Bm (decide (i < (0 : Int))) (
    sB1 k i true w) (
    Pn k fun a =>
    LdI .i64 a w fun x12 =>
    sB1 k i (decide (i ≥ x12)) w)) = kstep Tryz.prog 21 Tryz.f198.results.toList (Tryz.f198.body.getD .skip) (kvm_KV_KeyAt.RV R) (kvc Tryz.prog 21 Tryz.f198.results.toList (Tryz.f198.body.getD .skip) (kvm_KV_KeyAt.RV R) [([(0, [1, 0, 1]), (0, [1, 1])], fun σ w => dP (slotOf σ 0) fun k_ => dI .i64 (slotOf σ 1) fun i_ => dB (slotOf σ 14) fun t14_ => sB1 k_ i_ t14_ w)] 2000) [(0, [])] [(0, .pointer k), (1, .int .i64 i)] w := by kernel_rfl
theorem kvm_KV_KeyAt.B0_sound {R : ByteArray → World → Prop}  (k : Option Addr) (i : Int) (w : World) (h : kvm_KV_KeyAt.B0 k i w   R) :
    KW Tryz.prog 198 21 (kvm_KV_KeyAt.RV R) ([(0, [])].map (toItem (Tryz.f198.body.getD .skip))) [(0, .pointer k), (1, .int .i64 i)] w := by
  exact block_spec Tryz.func198 Tryz.mixed (stops_cons (fun σ w h => by
      obtain ⟨k_, e0, h⟩ := dP_elim h
      obtain ⟨i_, e1, h⟩ := dI_elim h
      obtain ⟨t14_, e2, h⟩ := dB_elim h
      exact (kvm_KV_KeyAt.B1_sound  k_ i_ t14_ w h).weaken (Sub.cons (Sub.cons (Sub.cons (Sub.nil _) e2) e1) e0)) stops_nil) (Eq.mp (kvm_KV_KeyAt.B0_eq k i w   R (fun k_ i_ t14_ w => kvm_KV_KeyAt.B1 k_ i_ t14_ w  R)) h)
theorem kvm_KV_KeyAt.sound (k : Option Addr) (i : Int) (w : World) (R : ByteArray → World → Prop) (h : kvm_KV_KeyAt.B0 k i w R) : kvm_KV_KeyAt.Call k i w R := by
  have hc := calls_of_block (args := #[.pointer k, .int .i64 i]) Tryz.func198 (body := (Tryz.f198.body.getD .skip)) (by kernel_rfl) (by kernel_rfl) (args_slot _) (kvm_KV_KeyAt.B0_sound k i w h)
  exact hc.mono fun e w' he => by
    obtain ⟨v, rfl, hv⟩ := he
    exact kvm_KV_KeyAt.RV_elim hv
def kv_KV_Sess.B1 (k : Option Addr) (client : Int) (t5 : Nat) (t12 : Bool) (w : World)   (R : Int → Int → ByteArray → World → Prop) : Prop :=
  Bm t12 (
    Sts [.int .i64 (0 : Int), .string (ByteArray.mk #[])] ⟨t5, 0, none⟩ 0 w fun w1 =>
    LdI .i64 ⟨t5, 0, none⟩ w1 fun r_0 =>
    LdS ⟨t5, 1, none⟩ w1 fun r_1 =>
    R (0 : Int) r_0 r_1 w1) (
    Pn k fun a =>
    (0 ≤ client ∧ client < ((3 : Nat) : Int)) ∧
    LdI .i64 (Addr.add (a.add 66) (client.toNat * 6)) w fun x19_0 =>
    LdI .i64 ((Addr.add (a.add 66) (client.toNat * 6)).add 1) w fun x19_1 =>
    LdI .i64 ((Addr.add (a.add 66) (client.toNat * 6)).add 2) w fun x19_2 =>
    LdI .u8 ((Addr.add (a.add 66) (client.toNat * 6)).add 3) w fun x19_3 =>
    LdI .u8 ((Addr.add (a.add 66) (client.toNat * 6)).add 4) w fun x19_4 =>
    LdI .u8 ((Addr.add (a.add 66) (client.toNat * 6)).add 5) w fun x19_5 =>
    New (.cells #[.int .i64 (0 : Int), .int .i64 (0 : Int), .int .i64 (0 : Int), .int .u8 (0 : Int), .int .u8 (0 : Int), .int .u8 (0 : Int)] 71) w fun s_ w2 =>
    Sts [.int .i64 x19_0, .int .i64 x19_1, .int .i64 x19_2, .int .u8 x19_3, .int .u8 x19_4, .int .u8 x19_5] ⟨s_, 0, none⟩ 0 w2 fun w3 =>
    LdI .i64 ⟨s_, 0, none⟩ w3.drew fun x21 =>
    LdI .i64 ⟨s_, 0, none⟩ w3.drew fun x22_0 =>
    LdI .i64 ⟨s_, 1, none⟩ w3.drew fun x22_1 =>
    LdI .i64 ⟨s_, 2, none⟩ w3.drew fun x22_2 =>
    LdI .u8 ⟨s_, 3, none⟩ w3.drew fun x22_3 =>
    LdI .u8 ⟨s_, 4, none⟩ w3.drew fun x22_4 =>
    LdI .u8 ⟨s_, 5, none⟩ w3.drew fun x22_5 =>
    kv_ansOf.Call x22_0 x22_1 x22_2 x22_3 x22_4 x22_5 w3.drew fun r23_0 r23_1 w4 =>
    w4.cell? ⟨s_, 0, none⟩ = some (.int .i64 x21) ∧
    Sts [.int .i64 r23_0, .string r23_1] ⟨t5, 0, none⟩ 0 w4 fun w5 =>
    LdI .i64 ⟨t5, 0, none⟩ w5 fun r_0_1 =>
    LdS ⟨t5, 1, none⟩ w5 fun r_1_1 =>
    R x21 r_0_1 r_1_1 w5)
theorem kv_KV_Sess.B1_eq (k : Option Addr) (client : Int) (t5 : Nat) (t12 : Bool) (w : World)   (R : Int → Int → ByteArray → World → Prop)  :
    (
  Bm t12 (
    Sts [.int .i64 (0 : Int), .string (ByteArray.mk #[])] ⟨t5, 0, none⟩ 0 w fun w1 =>
    LdI .i64 ⟨t5, 0, none⟩ w1 fun r_0 =>
    LdS ⟨t5, 1, none⟩ w1 fun r_1 =>
    R (0 : Int) r_0 r_1 w1) (
    Pn k fun a =>
    (0 ≤ client ∧ client < ((3 : Nat) : Int)) ∧
    LdI .i64 (Addr.add (a.add 66) (client.toNat * 6)) w fun x19_0 =>
    LdI .i64 ((Addr.add (a.add 66) (client.toNat * 6)).add 1) w fun x19_1 =>
    LdI .i64 ((Addr.add (a.add 66) (client.toNat * 6)).add 2) w fun x19_2 =>
    LdI .u8 ((Addr.add (a.add 66) (client.toNat * 6)).add 3) w fun x19_3 =>
    LdI .u8 ((Addr.add (a.add 66) (client.toNat * 6)).add 4) w fun x19_4 =>
    LdI .u8 ((Addr.add (a.add 66) (client.toNat * 6)).add 5) w fun x19_5 =>
    New (.cells #[.int .i64 (0 : Int), .int .i64 (0 : Int), .int .i64 (0 : Int), .int .u8 (0 : Int), .int .u8 (0 : Int), .int .u8 (0 : Int)] 71) w fun s_ w2 =>
    Sts [.int .i64 x19_0, .int .i64 x19_1, .int .i64 x19_2, .int .u8 x19_3, .int .u8 x19_4, .int .u8 x19_5] ⟨s_, 0, none⟩ 0 w2 fun w3 =>
    LdI .i64 ⟨s_, 0, none⟩ w3.drew fun x21 =>
    LdI .i64 ⟨s_, 0, none⟩ w3.drew fun x22_0 =>
    LdI .i64 ⟨s_, 1, none⟩ w3.drew fun x22_1 =>
    LdI .i64 ⟨s_, 2, none⟩ w3.drew fun x22_2 =>
    LdI .u8 ⟨s_, 3, none⟩ w3.drew fun x22_3 =>
    LdI .u8 ⟨s_, 4, none⟩ w3.drew fun x22_4 =>
    LdI .u8 ⟨s_, 5, none⟩ w3.drew fun x22_5 =>
    kv_ansOf.Call x22_0 x22_1 x22_2 x22_3 x22_4 x22_5 w3.drew fun r23_0 r23_1 w4 =>
    w4.cell? ⟨s_, 0, none⟩ = some (.int .i64 x21) ∧
    Sts [.int .i64 r23_0, .string r23_1] ⟨t5, 0, none⟩ 0 w4 fun w5 =>
    LdI .i64 ⟨t5, 0, none⟩ w5 fun r_0_1 =>
    LdS ⟨t5, 1, none⟩ w5 fun r_1_1 =>
    R x21 r_0_1 r_1_1 w5)) = kstep Tryz.prog 24 Tryz.f199.results.toList (Tryz.f199.body.getD .skip) (kv_KV_Sess.RV R) (kvc Tryz.prog 24 Tryz.f199.results.toList (Tryz.f199.body.getD .skip) (kv_KV_Sess.RV R) [] 2000) [(0, [1, 0, 1]), (0, [1, 1])] [(0, .pointer k), (1, .int .i64 client), (5, .pointer (some ⟨t5, 0, none⟩)), (12, .bool t12)] w := by kernel_rfl
theorem kv_KV_Sess.B1_sound {R : Int → Int → ByteArray → World → Prop}  (k : Option Addr) (client : Int) (t5 : Nat) (t12 : Bool) (w : World) (h : kv_KV_Sess.B1 k client t5 t12 w   R) :
    KW Tryz.prog 199 24 (kv_KV_Sess.RV R) ([(0, [1, 0, 1]), (0, [1, 1])].map (toItem (Tryz.f199.body.getD .skip))) [(0, .pointer k), (1, .int .i64 client), (5, .pointer (some ⟨t5, 0, none⟩)), (12, .bool t12)] w := by
  exact block_spec Tryz.func199 Tryz.mixed stops_nil (Eq.mp (kv_KV_Sess.B1_eq k client t5 t12 w   R ) h)
def kv_KV_Sess.B0 (k : Option Addr) (client : Int) (w : World)   (R : Int → Int → ByteArray → World → Prop) : Prop :=
  New (.cells #[.int .i64 (0 : Int), .string (ByteArray.mk #[])] 93) w fun b5 w1 =>
  Bm (decide (client < (0 : Int))) (
    kv_KV_Sess.B1 k client b5 true w1  R) (
    kv_KV_Sess.B1 k client b5 (decide (client ≥ (3 : Int))) w1  R)
theorem kv_KV_Sess.B0_eq (k : Option Addr) (client : Int) (w : World)   (R : Int → Int → ByteArray → World → Prop) (sB1 : Option Addr → Int → Nat → Bool → World → Prop) :
    (
  New (.cells #[.int .i64 (0 : Int), .string (ByteArray.mk #[])] 93) w fun b5 w1 =>
  Bm (decide (client < (0 : Int))) (
    sB1 k client b5 true w1) (
    sB1 k client b5 (decide (client ≥ (3 : Int))) w1)) = kstep Tryz.prog 24 Tryz.f199.results.toList (Tryz.f199.body.getD .skip) (kv_KV_Sess.RV R) (kvc Tryz.prog 24 Tryz.f199.results.toList (Tryz.f199.body.getD .skip) (kv_KV_Sess.RV R) [([(0, [1, 0, 1]), (0, [1, 1])], fun σ w => dP (slotOf σ 0) fun k_ => dI .i64 (slotOf σ 1) fun client_ => dK (slotOf σ 5) fun t5_ => dB (slotOf σ 12) fun t12_ => sB1 k_ client_ t5_ t12_ w)] 2000) [(0, [])] [(0, .pointer k), (1, .int .i64 client)] w := by kernel_rfl
theorem kv_KV_Sess.B0_sound {R : Int → Int → ByteArray → World → Prop}  (k : Option Addr) (client : Int) (w : World) (h : kv_KV_Sess.B0 k client w   R) :
    KW Tryz.prog 199 24 (kv_KV_Sess.RV R) ([(0, [])].map (toItem (Tryz.f199.body.getD .skip))) [(0, .pointer k), (1, .int .i64 client)] w := by
  exact block_spec Tryz.func199 Tryz.mixed (stops_cons (fun σ w h => by
      obtain ⟨k_, e0, h⟩ := dP_elim h
      obtain ⟨client_, e1, h⟩ := dI_elim h
      obtain ⟨t5_, e2, h⟩ := dK_elim h
      obtain ⟨t12_, e3, h⟩ := dB_elim h
      exact (kv_KV_Sess.B1_sound  k_ client_ t5_ t12_ w h).weaken (Sub.cons (Sub.cons (Sub.cons (Sub.cons (Sub.nil _) e3) e2) e1) e0)) stops_nil) (Eq.mp (kv_KV_Sess.B0_eq k client w   R (fun k_ client_ t5_ t12_ w => kv_KV_Sess.B1 k_ client_ t5_ t12_ w  R)) h)
theorem kv_KV_Sess.sound (k : Option Addr) (client : Int) (w : World) (R : Int → Int → ByteArray → World → Prop) (h : kv_KV_Sess.B0 k client w R) : kv_KV_Sess.Call k client w R := by
  have hc := calls_of_block (args := #[.pointer k, .int .i64 client]) Tryz.func199 (body := (Tryz.f199.body.getD .skip)) (by kernel_rfl) (by kernel_rfl) (args_slot _) (kv_KV_Sess.B0_sound k client w h)
  exact hc.mono fun e w' he => by
    obtain ⟨v, rfl, hv⟩ := he
    exact kv_KV_Sess.RV_elim hv
def kvm_KV_Sess.B1 (k : Option Addr) (client : Int) (t5 : Nat) (t11 : Bool) (w : World)   (R : Int → Int → ByteArray → World → Prop) : Prop :=
  Bm t11 (
    Sts [.int .i64 (0 : Int), .string (ByteArray.mk #[])] ⟨t5, 0, none⟩ 0 w fun w1 =>
    LdI .i64 ⟨t5, 0, none⟩ w1 fun r_0 =>
    LdS ⟨t5, 1, none⟩ w1 fun r_1 =>
    R (0 : Int) r_0 r_1 w1) (
    Pn k fun a =>
    (0 ≤ client ∧ client < ((3 : Nat) : Int)) ∧
    LdI .i64 (Addr.add (a.add 9) (client.toNat * 1)) w.drew fun x18 =>
    Pn k fun a_1 =>
    (0 ≤ client ∧ client < ((3 : Nat) : Int)) ∧
    LdI .i64 (Addr.add (a_1.add 12) (client.toNat * 2)) w.drew fun x24_0 =>
    LdS ((Addr.add (a_1.add 12) (client.toNat * 2)).add 1) w.drew fun x24_1 =>
    Sts [.int .i64 x24_0, .string x24_1] ⟨t5, 0, none⟩ 0 w.drew fun w2 =>
    LdI .i64 ⟨t5, 0, none⟩ w2 fun r_0_1 =>
    LdS ⟨t5, 1, none⟩ w2 fun r_1_1 =>
    R x18 r_0_1 r_1_1 w2)
theorem kvm_KV_Sess.B1_eq (k : Option Addr) (client : Int) (t5 : Nat) (t11 : Bool) (w : World)   (R : Int → Int → ByteArray → World → Prop)  :
    (
  Bm t11 (
    Sts [.int .i64 (0 : Int), .string (ByteArray.mk #[])] ⟨t5, 0, none⟩ 0 w fun w1 =>
    LdI .i64 ⟨t5, 0, none⟩ w1 fun r_0 =>
    LdS ⟨t5, 1, none⟩ w1 fun r_1 =>
    R (0 : Int) r_0 r_1 w1) (
    Pn k fun a =>
    (0 ≤ client ∧ client < ((3 : Nat) : Int)) ∧
    LdI .i64 (Addr.add (a.add 9) (client.toNat * 1)) w.drew fun x18 =>
    Pn k fun a_1 =>
    (0 ≤ client ∧ client < ((3 : Nat) : Int)) ∧
    LdI .i64 (Addr.add (a_1.add 12) (client.toNat * 2)) w.drew fun x24_0 =>
    LdS ((Addr.add (a_1.add 12) (client.toNat * 2)).add 1) w.drew fun x24_1 =>
    Sts [.int .i64 x24_0, .string x24_1] ⟨t5, 0, none⟩ 0 w.drew fun w2 =>
    LdI .i64 ⟨t5, 0, none⟩ w2 fun r_0_1 =>
    LdS ⟨t5, 1, none⟩ w2 fun r_1_1 =>
    R x18 r_0_1 r_1_1 w2)) = kstep Tryz.prog 25 Tryz.f200.results.toList (Tryz.f200.body.getD .skip) (kvm_KV_Sess.RV R) (kvc Tryz.prog 25 Tryz.f200.results.toList (Tryz.f200.body.getD .skip) (kvm_KV_Sess.RV R) [] 2000) [(0, [1, 0, 1]), (0, [1, 1])] [(0, .pointer k), (1, .int .i64 client), (5, .pointer (some ⟨t5, 0, none⟩)), (11, .bool t11)] w := by kernel_rfl
theorem kvm_KV_Sess.B1_sound {R : Int → Int → ByteArray → World → Prop}  (k : Option Addr) (client : Int) (t5 : Nat) (t11 : Bool) (w : World) (h : kvm_KV_Sess.B1 k client t5 t11 w   R) :
    KW Tryz.prog 200 25 (kvm_KV_Sess.RV R) ([(0, [1, 0, 1]), (0, [1, 1])].map (toItem (Tryz.f200.body.getD .skip))) [(0, .pointer k), (1, .int .i64 client), (5, .pointer (some ⟨t5, 0, none⟩)), (11, .bool t11)] w := by
  exact block_spec Tryz.func200 Tryz.mixed stops_nil (Eq.mp (kvm_KV_Sess.B1_eq k client t5 t11 w   R ) h)
def kvm_KV_Sess.B0 (k : Option Addr) (client : Int) (w : World)   (R : Int → Int → ByteArray → World → Prop) : Prop :=
  New (.cells #[.int .i64 (0 : Int), .string (ByteArray.mk #[])] 93) w fun b5 w1 =>
  Bm (decide (client < (0 : Int))) (
    kvm_KV_Sess.B1 k client b5 true w1  R) (
    kvm_KV_Sess.B1 k client b5 (decide (client ≥ (3 : Int))) w1  R)
theorem kvm_KV_Sess.B0_eq (k : Option Addr) (client : Int) (w : World)   (R : Int → Int → ByteArray → World → Prop) (sB1 : Option Addr → Int → Nat → Bool → World → Prop) :
    (
  New (.cells #[.int .i64 (0 : Int), .string (ByteArray.mk #[])] 93) w fun b5 w1 =>
  Bm (decide (client < (0 : Int))) (
    sB1 k client b5 true w1) (
    sB1 k client b5 (decide (client ≥ (3 : Int))) w1)) = kstep Tryz.prog 25 Tryz.f200.results.toList (Tryz.f200.body.getD .skip) (kvm_KV_Sess.RV R) (kvc Tryz.prog 25 Tryz.f200.results.toList (Tryz.f200.body.getD .skip) (kvm_KV_Sess.RV R) [([(0, [1, 0, 1]), (0, [1, 1])], fun σ w => dP (slotOf σ 0) fun k_ => dI .i64 (slotOf σ 1) fun client_ => dK (slotOf σ 5) fun t5_ => dB (slotOf σ 11) fun t11_ => sB1 k_ client_ t5_ t11_ w)] 2000) [(0, [])] [(0, .pointer k), (1, .int .i64 client)] w := by kernel_rfl
theorem kvm_KV_Sess.B0_sound {R : Int → Int → ByteArray → World → Prop}  (k : Option Addr) (client : Int) (w : World) (h : kvm_KV_Sess.B0 k client w   R) :
    KW Tryz.prog 200 25 (kvm_KV_Sess.RV R) ([(0, [])].map (toItem (Tryz.f200.body.getD .skip))) [(0, .pointer k), (1, .int .i64 client)] w := by
  exact block_spec Tryz.func200 Tryz.mixed (stops_cons (fun σ w h => by
      obtain ⟨k_, e0, h⟩ := dP_elim h
      obtain ⟨client_, e1, h⟩ := dI_elim h
      obtain ⟨t5_, e2, h⟩ := dK_elim h
      obtain ⟨t11_, e3, h⟩ := dB_elim h
      exact (kvm_KV_Sess.B1_sound  k_ client_ t5_ t11_ w h).weaken (Sub.cons (Sub.cons (Sub.cons (Sub.cons (Sub.nil _) e3) e2) e1) e0)) stops_nil) (Eq.mp (kvm_KV_Sess.B0_eq k client w   R (fun k_ client_ t5_ t11_ w => kvm_KV_Sess.B1 k_ client_ t5_ t11_ w  R)) h)
theorem kvm_KV_Sess.sound (k : Option Addr) (client : Int) (w : World) (R : Int → Int → ByteArray → World → Prop) (h : kvm_KV_Sess.B0 k client w R) : kvm_KV_Sess.Call k client w R := by
  have hc := calls_of_block (args := #[.pointer k, .int .i64 client]) Tryz.func200 (body := (Tryz.f200.body.getD .skip)) (by kernel_rfl) (by kernel_rfl) (args_slot _) (kvm_KV_Sess.B0_sound k client w h)
  exact hc.mono fun e w' he => by
    obtain ⟨v, rfl, hv⟩ := he
    exact kvm_KV_Sess.RV_elim hv
def node_enc_encode.L1b (w0 : Option Addr) (m0 : Nat) (i : Int) (w : World)  (N1 : Option Addr → Nat → Int → World → Prop) (R : ByteArray → World → Prop) : Prop :=
  LdL ⟨m0, 8, none⟩ w fun x61_b x61_l x61_c =>
  Bm (decide (i < ((x61_l : Nat) : Int))) (
    LdL ⟨m0, 8, none⟩ w fun x68_b x68_l x68_c =>
    Pn x68_b fun a =>
    (0 ≤ i ∧ i < ((x68_l : Nat) : Int)) ∧
    LdI .i64 (Addr.add a (i.toNat * 2)) w fun x72 =>
    node_enc_num.Call w0 x72 w fun w1 =>
    LdL ⟨m0, 8, none⟩ w1 fun x76_b x76_l x76_c =>
    Pn x76_b fun a_1 =>
    (0 ≤ i ∧ i < ((x76_l : Nat) : Int)) ∧
    LdS ((Addr.add a_1 (i.toNat * 2)).add 1) w1 fun x80 =>
    node_enc_text.Call w0 x80 w1 fun w2 =>
    N1 w0 m0 (IntKind.i64.wrap (i + (1 : Int))) w2) (
    LdS ⟨m0, 9, none⟩ w fun x84 =>
    node_enc_text.Call w0 x84 w fun w3 =>
    Pn w0 fun a_2 =>
    LdI .i64 (a_2.add 235) w3 fun x89 =>
    0 ≤ (8 : Int) ∧
    node_enc_put.Call w0 (IntKind.u8.wrap (x89.fdiv (2 ^ (min (8 : Int).toNat IntKind.i64.bits)))) w3 fun w4 =>
    node_enc_put.Call w0 (IntKind.u8.wrap x89) w4 fun w5 =>
    Pn w0 fun a_3 =>
    Pn w0 fun a_4 =>
    LdI .i64 (a_4.add 234) w5.drew fun x105 =>
    (0 ≤ x105 ∧ x105 ≤ ((234 : Nat) : Int)) ∧
    ToStr (some (slBaseA a_3 ((0 : Nat) : Int) ((234 : Nat) : Int) 1)) (x105.toNat - ((0 : Nat) : Int).toNat) w5.drew fun s107 =>
    R s107 w5.drew)
theorem node_enc_encode.L1b_eq (w0 : Option Addr) (m0 : Nat) (i : Int) (w : World)  (N1 : Option Addr → Nat → Int → World → Prop) (R : ByteArray → World → Prop)  :
    (
  LdL ⟨m0, 8, none⟩ w fun x61_b x61_l x61_c =>
  Bm (decide (i < ((x61_l : Nat) : Int))) (
    LdL ⟨m0, 8, none⟩ w fun x68_b x68_l x68_c =>
    Pn x68_b fun a =>
    (0 ≤ i ∧ i < ((x68_l : Nat) : Int)) ∧
    LdI .i64 (Addr.add a (i.toNat * 2)) w fun x72 =>
    node_enc_num.Call w0 x72 w fun w1 =>
    LdL ⟨m0, 8, none⟩ w1 fun x76_b x76_l x76_c =>
    Pn x76_b fun a_1 =>
    (0 ≤ i ∧ i < ((x76_l : Nat) : Int)) ∧
    LdS ((Addr.add a_1 (i.toNat * 2)).add 1) w1 fun x80 =>
    node_enc_text.Call w0 x80 w1 fun w2 =>
    N1 w0 m0 (IntKind.i64.wrap (i + (1 : Int))) w2) (
    LdS ⟨m0, 9, none⟩ w fun x84 =>
    node_enc_text.Call w0 x84 w fun w3 =>
    Pn w0 fun a_2 =>
    LdI .i64 (a_2.add 235) w3 fun x89 =>
    0 ≤ (8 : Int) ∧
    node_enc_put.Call w0 (IntKind.u8.wrap (x89.fdiv (2 ^ (min (8 : Int).toNat IntKind.i64.bits)))) w3 fun w4 =>
    node_enc_put.Call w0 (IntKind.u8.wrap x89) w4 fun w5 =>
    Pn w0 fun a_3 =>
    Pn w0 fun a_4 =>
    LdI .i64 (a_4.add 234) w5.drew fun x105 =>
    (0 ≤ x105 ∧ x105 ≤ ((234 : Nat) : Int)) ∧
    ToStr (some (slBaseA a_3 ((0 : Nat) : Int) ((234 : Nat) : Int) 1)) (x105.toNat - ((0 : Nat) : Int).toNat) w5.drew fun s107 =>
    R s107 w5.drew)) = kstep Tryz.prog 108 Tryz.f201.results.toList (Tryz.f201.body.getD .skip) (node_enc_encode.RV R) (kvc Tryz.prog 108 Tryz.f201.results.toList (Tryz.f201.body.getD .skip) (node_enc_encode.RV R) [([(0, [1, 1, 1, 1, 1, 1, 1, 1, 1, 1, 1, 1, 0, 1, 0, 0]), (2, [1, 1, 1, 1, 1, 1, 1, 1, 1, 1, 1, 1, 0, 1, 0, 0]), (1, [0]), (0, [1, 1, 1, 1, 1, 1, 1, 1, 1, 1, 1, 1, 1])], fun σ w => dP (slotOf σ 0) fun w0_ => dK (slotOf σ 3) fun m0_ => dI .i64 (slotOf σ 5) fun i_ => N1 w0_ m0_ i_ w)] 2000) [(0, [1, 1, 1, 1, 1, 1, 1, 1, 1, 1, 1, 1, 0, 1, 0, 0]), (2, [1, 1, 1, 1, 1, 1, 1, 1, 1, 1, 1, 1, 0, 1, 0, 0]), (1, [0]), (0, [1, 1, 1, 1, 1, 1, 1, 1, 1, 1, 1, 1, 1])] [(0, .pointer w0), (3, .pointer (some ⟨m0, 0, none⟩)), (5, .int .i64 i)] w := by kernel_rfl
theorem node_enc_encode.L1b_sound {R : ByteArray → World → Prop} {N1 : Option Addr → Nat → Int → World → Prop} (hN1 : ∀ w0 m0 i w, N1 w0 m0 i w → KW Tryz.prog 201 108 (node_enc_encode.RV R) ([(0, [1, 1, 1, 1, 1, 1, 1, 1, 1, 1, 1, 1, 0, 1, 0, 0]), (2, [1, 1, 1, 1, 1, 1, 1, 1, 1, 1, 1, 1, 0, 1, 0, 0]), (1, [0]), (0, [1, 1, 1, 1, 1, 1, 1, 1, 1, 1, 1, 1, 1])].map (toItem (Tryz.f201.body.getD .skip))) [(0, .pointer w0), (3, .pointer (some ⟨m0, 0, none⟩)), (5, .int .i64 i)] w) (w0 : Option Addr) (m0 : Nat) (i : Int) (w : World) (h : node_enc_encode.L1b w0 m0 i w  N1 R) :
    KW Tryz.prog 201 108 (node_enc_encode.RV R) ([(0, [1, 1, 1, 1, 1, 1, 1, 1, 1, 1, 1, 1, 0, 1, 0, 0]), (2, [1, 1, 1, 1, 1, 1, 1, 1, 1, 1, 1, 1, 0, 1, 0, 0]), (1, [0]), (0, [1, 1, 1, 1, 1, 1, 1, 1, 1, 1, 1, 1, 1])].map (toItem (Tryz.f201.body.getD .skip))) [(0, .pointer w0), (3, .pointer (some ⟨m0, 0, none⟩)), (5, .int .i64 i)] w := by
  exact block_spec Tryz.func201 Tryz.mixed (stops_cons (fun σ w h => by
      obtain ⟨w0_, e0, h⟩ := dP_elim h
      obtain ⟨m0_, e1, h⟩ := dK_elim h
      obtain ⟨i_, e2, h⟩ := dI_elim h
      exact (hN1 w0_ m0_ i_ w h).weaken (Sub.cons (Sub.cons (Sub.cons (Sub.nil _) e2) e1) e0)) stops_nil) (Eq.mp (node_enc_encode.L1b_eq w0 m0 i w  N1 R ) h)
def node_enc_encode.L1 (w0 : Option Addr) (m0 : Nat) (i : Int) (w : World)  (R : ByteArray → World → Prop) : Prop :=
  ∃ (I : Nat → Option Addr → Nat → Int → World → Prop) (m : Nat), I m w0 m0 i w ∧ ∀ m w0 m0 i w, I m w0 m0 i w → node_enc_encode.L1b w0 m0 i w  (fun w0' m0' i' w' => ∃ m', m' < m ∧ I m' w0' m0' i' w') R
theorem node_enc_encode.L1_sound {R : ByteArray → World → Prop}  (w0 : Option Addr) (m0 : Nat) (i : Int) (w : World) (h : node_enc_encode.L1 w0 m0 i w  R) :
    KW Tryz.prog 201 108 (node_enc_encode.RV R) ([(0, [1, 1, 1, 1, 1, 1, 1, 1, 1, 1, 1, 1, 0, 1, 0, 0]), (2, [1, 1, 1, 1, 1, 1, 1, 1, 1, 1, 1, 1, 0, 1, 0, 0]), (1, [0]), (0, [1, 1, 1, 1, 1, 1, 1, 1, 1, 1, 1, 1, 1])].map (toItem (Tryz.f201.body.getD .skip))) [(0, .pointer w0), (3, .pointer (some ⟨m0, 0, none⟩)), (5, .int .i64 i)] w := by
  obtain ⟨I, m, hBase, hr⟩ := h
  refine KW.loop (fun m σ w => ∃ (w0 : Option Addr) (m0 : Nat) (i : Int), σ = [(0, .pointer w0), (3, .pointer (some ⟨m0, 0, none⟩)), (5, .int .i64 i)] ∧ I m w0 m0 i w) ?_ m _ w ⟨w0, m0, i, rfl, hBase⟩
  rintro m ih σ w ⟨w0, m0, i, rfl, hI⟩
  exact node_enc_encode.L1b_sound  (N1 := fun w0' m0' i' w' => ∃ m', m' < m ∧ I m' w0' m0' i' w') (fun w0' m0' i' w' hx => by obtain ⟨m', hlt, hI'⟩ := hx; exact ih m' hlt _ w' ⟨w0', m0', i', rfl, hI'⟩) w0 m0 i w (hr m w0 m0 i w hI)
def node_enc_encode.B1 (w0 : Option Addr) (m0 : Nat) (w : World)   (R : ByteArray → World → Prop) : Prop :=
  LdI .i64 ⟨m0, 3, none⟩ w fun x39 =>
  node_enc_num.Call w0 x39 w fun w1 =>
  LdI .i64 ⟨m0, 4, none⟩ w1 fun x43 =>
  node_enc_num.Call w0 x43 w1 fun w2 =>
  LdI .i64 ⟨m0, 5, none⟩ w2 fun x47 =>
  node_enc_num.Call w0 x47 w2 fun w3 =>
  LdI .i64 ⟨m0, 6, none⟩ w3 fun x51 =>
  node_enc_num.Call w0 x51 w3 fun w4 =>
  LdL ⟨m0, 8, none⟩ w4 fun x55_b x55_l x55_c =>
  node_enc_put.Call w0 (IntKind.u8.wrap ((x55_l : Nat) : Int)) w4 fun w5 =>
  node_enc_encode.L1 w0 m0 (0 : Int) w5  R
theorem node_enc_encode.B1_eq (w0 : Option Addr) (m0 : Nat) (w : World)   (R : ByteArray → World → Prop) (sL1 : Option Addr → Nat → Int → World → Prop) :
    (
  LdI .i64 ⟨m0, 3, none⟩ w fun x39 =>
  node_enc_num.Call w0 x39 w fun w1 =>
  LdI .i64 ⟨m0, 4, none⟩ w1 fun x43 =>
  node_enc_num.Call w0 x43 w1 fun w2 =>
  LdI .i64 ⟨m0, 5, none⟩ w2 fun x47 =>
  node_enc_num.Call w0 x47 w2 fun w3 =>
  LdI .i64 ⟨m0, 6, none⟩ w3 fun x51 =>
  node_enc_num.Call w0 x51 w3 fun w4 =>
  LdL ⟨m0, 8, none⟩ w4 fun x55_b x55_l x55_c =>
  node_enc_put.Call w0 (IntKind.u8.wrap ((x55_l : Nat) : Int)) w4 fun w5 =>
  sL1 w0 m0 (0 : Int) w5) = kstep Tryz.prog 108 Tryz.f201.results.toList (Tryz.f201.body.getD .skip) (node_enc_encode.RV R) (kvc Tryz.prog 108 Tryz.f201.results.toList (Tryz.f201.body.getD .skip) (node_enc_encode.RV R) [([(0, [1, 1, 1, 1, 1, 1, 1, 1, 1, 1, 1, 1, 0, 1, 0, 0]), (2, [1, 1, 1, 1, 1, 1, 1, 1, 1, 1, 1, 1, 0, 1, 0, 0]), (1, [0]), (0, [1, 1, 1, 1, 1, 1, 1, 1, 1, 1, 1, 1, 1])], fun σ w => dP (slotOf σ 0) fun w0_ => dK (slotOf σ 3) fun m0_ => dI .i64 (slotOf σ 5) fun i_ => sL1 w0_ m0_ i_ w)] 2000) [(0, [1, 1, 1, 1, 1, 1, 1])] [(0, .pointer w0), (3, .pointer (some ⟨m0, 0, none⟩))] w := by kernel_rfl
theorem node_enc_encode.B1_sound {R : ByteArray → World → Prop}  (w0 : Option Addr) (m0 : Nat) (w : World) (h : node_enc_encode.B1 w0 m0 w   R) :
    KW Tryz.prog 201 108 (node_enc_encode.RV R) ([(0, [1, 1, 1, 1, 1, 1, 1])].map (toItem (Tryz.f201.body.getD .skip))) [(0, .pointer w0), (3, .pointer (some ⟨m0, 0, none⟩))] w := by
  exact block_spec Tryz.func201 Tryz.mixed (stops_cons (fun σ w h => by
      obtain ⟨w0_, e0, h⟩ := dP_elim h
      obtain ⟨m0_, e1, h⟩ := dK_elim h
      obtain ⟨i_, e2, h⟩ := dI_elim h
      exact (node_enc_encode.L1_sound  w0_ m0_ i_ w h).weaken (Sub.cons (Sub.cons (Sub.cons (Sub.nil _) e2) e1) e0)) stops_nil) (Eq.mp (node_enc_encode.B1_eq w0 m0 w   R (fun w0_ m0_ i_ w => node_enc_encode.L1 w0_ m0_ i_ w  R)) h)
def node_enc_encode.B0 (w0 : Option Addr) (m0_0 m0_1 m0_2 m0_3 m0_4 m0_5 m0_6 : Int) (m0_7 : Bool) (m0_8_b : Option Addr) (m0_8_l m0_8_c : Nat) (m0_9 : ByteArray) (w : World)   (R : ByteArray → World → Prop) : Prop :=
  New (.cells #[.int .i64 m0_0, .int .i64 m0_1, .int .i64 m0_2, .int .i64 m0_3, .int .i64 m0_4, .int .i64 m0_5, .int .i64 m0_6, .bool m0_7, .slice m0_8_b m0_8_l m0_8_c, .string m0_9] 101) w fun m0_ w1 =>
  LdI .i64 ⟨m0_, 0, none⟩ w1 fun x7_0 =>
  LdI .i64 ⟨m0_, 1, none⟩ w1 fun x7_1 =>
  LdI .i64 ⟨m0_, 2, none⟩ w1 fun x7_2 =>
  LdI .i64 ⟨m0_, 3, none⟩ w1 fun x7_3 =>
  LdI .i64 ⟨m0_, 4, none⟩ w1 fun x7_4 =>
  LdI .i64 ⟨m0_, 5, none⟩ w1 fun x7_5 =>
  LdI .i64 ⟨m0_, 6, none⟩ w1 fun x7_6 =>
  LdB ⟨m0_, 7, none⟩ w1 fun x7_7 =>
  LdL ⟨m0_, 8, none⟩ w1 fun x7_8_b x7_8_l x7_8_c =>
  LdS ⟨m0_, 9, none⟩ w1 fun x7_9 =>
  node_fits.Call x7_0 x7_1 x7_2 x7_3 x7_4 x7_5 x7_6 x7_7 x7_8_b x7_8_l x7_8_c x7_9 w1 fun r8 w2 =>
  Bm (!r8) (
    R (ByteArray.mk #[]) w2) (
    Pn w0 fun a =>
    Sts [.int .i64 (0 : Int)] (a.add 234) 0 w2 fun w3 =>
    Pn w0 fun a_1 =>
    Sts [.int .i64 (7439 : Int)] (a_1.add 235) 0 w3 fun w4 =>
    LdI .i64 ⟨m0_, 0, none⟩ w4 fun x18 =>
    node_enc_put.Call w0 (IntKind.u8.wrap x18) w4 fun w5 =>
    LdI .i64 ⟨m0_, 1, none⟩ w5 fun x23 =>
    node_enc_put.Call w0 (IntKind.u8.wrap x23) w5 fun w6 =>
    LdI .i64 ⟨m0_, 2, none⟩ w6 fun x28 =>
    node_enc_put.Call w0 (IntKind.u8.wrap x28) w6 fun w7 =>
    LdB ⟨m0_, 7, none⟩ w7 fun x32 =>
    Bm x32 (
      node_enc_put.Call w0 (1 : Int) w7 fun w8 =>
      node_enc_encode.B1 w0 m0_ w8  R) (
      node_enc_put.Call w0 (0 : Int) w7 fun w9 =>
      node_enc_encode.B1 w0 m0_ w9  R))
theorem node_enc_encode.B0_eq (w0 : Option Addr) (m0_0 m0_1 m0_2 m0_3 m0_4 m0_5 m0_6 : Int) (m0_7 : Bool) (m0_8_b : Option Addr) (m0_8_l m0_8_c : Nat) (m0_9 : ByteArray) (w : World)   (R : ByteArray → World → Prop) (sB1 : Option Addr → Nat → World → Prop) :
    (
  New (.cells #[.int .i64 m0_0, .int .i64 m0_1, .int .i64 m0_2, .int .i64 m0_3, .int .i64 m0_4, .int .i64 m0_5, .int .i64 m0_6, .bool m0_7, .slice m0_8_b m0_8_l m0_8_c, .string m0_9] 101) w fun m0_ w1 =>
  LdI .i64 ⟨m0_, 0, none⟩ w1 fun x7_0 =>
  LdI .i64 ⟨m0_, 1, none⟩ w1 fun x7_1 =>
  LdI .i64 ⟨m0_, 2, none⟩ w1 fun x7_2 =>
  LdI .i64 ⟨m0_, 3, none⟩ w1 fun x7_3 =>
  LdI .i64 ⟨m0_, 4, none⟩ w1 fun x7_4 =>
  LdI .i64 ⟨m0_, 5, none⟩ w1 fun x7_5 =>
  LdI .i64 ⟨m0_, 6, none⟩ w1 fun x7_6 =>
  LdB ⟨m0_, 7, none⟩ w1 fun x7_7 =>
  LdL ⟨m0_, 8, none⟩ w1 fun x7_8_b x7_8_l x7_8_c =>
  LdS ⟨m0_, 9, none⟩ w1 fun x7_9 =>
  node_fits.Call x7_0 x7_1 x7_2 x7_3 x7_4 x7_5 x7_6 x7_7 x7_8_b x7_8_l x7_8_c x7_9 w1 fun r8 w2 =>
  Bm (!r8) (
    R (ByteArray.mk #[]) w2) (
    Pn w0 fun a =>
    Sts [.int .i64 (0 : Int)] (a.add 234) 0 w2 fun w3 =>
    Pn w0 fun a_1 =>
    Sts [.int .i64 (7439 : Int)] (a_1.add 235) 0 w3 fun w4 =>
    LdI .i64 ⟨m0_, 0, none⟩ w4 fun x18 =>
    node_enc_put.Call w0 (IntKind.u8.wrap x18) w4 fun w5 =>
    LdI .i64 ⟨m0_, 1, none⟩ w5 fun x23 =>
    node_enc_put.Call w0 (IntKind.u8.wrap x23) w5 fun w6 =>
    LdI .i64 ⟨m0_, 2, none⟩ w6 fun x28 =>
    node_enc_put.Call w0 (IntKind.u8.wrap x28) w6 fun w7 =>
    LdB ⟨m0_, 7, none⟩ w7 fun x32 =>
    Bm x32 (
      node_enc_put.Call w0 (1 : Int) w7 fun w8 =>
      sB1 w0 m0_ w8) (
      node_enc_put.Call w0 (0 : Int) w7 fun w9 =>
      sB1 w0 m0_ w9))) = kstep Tryz.prog 108 Tryz.f201.results.toList (Tryz.f201.body.getD .skip) (node_enc_encode.RV R) (kvc Tryz.prog 108 Tryz.f201.results.toList (Tryz.f201.body.getD .skip) (node_enc_encode.RV R) [([(0, [1, 1, 1, 1, 1, 1, 1])], fun σ w => dP (slotOf σ 0) fun w0_ => dK (slotOf σ 3) fun m0_ => sB1 w0_ m0_ w)] 2000) [(0, [])] [(0, .pointer w0), (1, .agg #[.int .i64 m0_0, .int .i64 m0_1, .int .i64 m0_2, .int .i64 m0_3, .int .i64 m0_4, .int .i64 m0_5, .int .i64 m0_6, .bool m0_7, .slice m0_8_b m0_8_l m0_8_c, .string m0_9])] w := by kernel_rfl
theorem node_enc_encode.B0_sound {R : ByteArray → World → Prop}  (w0 : Option Addr) (m0_0 m0_1 m0_2 m0_3 m0_4 m0_5 m0_6 : Int) (m0_7 : Bool) (m0_8_b : Option Addr) (m0_8_l m0_8_c : Nat) (m0_9 : ByteArray) (w : World) (h : node_enc_encode.B0 w0 m0_0 m0_1 m0_2 m0_3 m0_4 m0_5 m0_6 m0_7 m0_8_b m0_8_l m0_8_c m0_9 w   R) :
    KW Tryz.prog 201 108 (node_enc_encode.RV R) ([(0, [])].map (toItem (Tryz.f201.body.getD .skip))) [(0, .pointer w0), (1, .agg #[.int .i64 m0_0, .int .i64 m0_1, .int .i64 m0_2, .int .i64 m0_3, .int .i64 m0_4, .int .i64 m0_5, .int .i64 m0_6, .bool m0_7, .slice m0_8_b m0_8_l m0_8_c, .string m0_9])] w := by
  exact block_spec Tryz.func201 Tryz.mixed (stops_cons (fun σ w h => by
      obtain ⟨w0_, e0, h⟩ := dP_elim h
      obtain ⟨m0_, e1, h⟩ := dK_elim h
      exact (node_enc_encode.B1_sound  w0_ m0_ w h).weaken (Sub.cons (Sub.cons (Sub.nil _) e1) e0)) stops_nil) (Eq.mp (node_enc_encode.B0_eq w0 m0_0 m0_1 m0_2 m0_3 m0_4 m0_5 m0_6 m0_7 m0_8_b m0_8_l m0_8_c m0_9 w   R (fun w0_ m0_ w => node_enc_encode.B1 w0_ m0_ w  R)) h)
theorem node_enc_encode.sound (w0 : Option Addr) (m0_0 m0_1 m0_2 m0_3 m0_4 m0_5 m0_6 : Int) (m0_7 : Bool) (m0_8_b : Option Addr) (m0_8_l m0_8_c : Nat) (m0_9 : ByteArray) (w : World) (R : ByteArray → World → Prop) (h : node_enc_encode.B0 w0 m0_0 m0_1 m0_2 m0_3 m0_4 m0_5 m0_6 m0_7 m0_8_b m0_8_l m0_8_c m0_9 w R) : node_enc_encode.Call w0 m0_0 m0_1 m0_2 m0_3 m0_4 m0_5 m0_6 m0_7 m0_8_b m0_8_l m0_8_c m0_9 w R := by
  have hc := calls_of_block (args := #[.pointer w0, .agg #[.int .i64 m0_0, .int .i64 m0_1, .int .i64 m0_2, .int .i64 m0_3, .int .i64 m0_4, .int .i64 m0_5, .int .i64 m0_6, .bool m0_7, .slice m0_8_b m0_8_l m0_8_c, .string m0_9]]) Tryz.func201 (body := (Tryz.f201.body.getD .skip)) (by kernel_rfl) (by kernel_rfl) (args_slot _) (node_enc_encode.B0_sound w0 m0_0 m0_1 m0_2 m0_3 m0_4 m0_5 m0_6 m0_7 m0_8_b m0_8_l m0_8_c m0_9 w h)
  exact hc.mono fun e w' he => by
    obtain ⟨v, rfl, hv⟩ := he
    exact node_enc_encode.RV_elim hv
def api_Timeout.B1 (id0 : Int) (t8 : Bool) (w : World)   (R : Int → World → Prop) : Prop :=
  Bm t8 (
    R (3 : Int) w) (
    R (IntKind.i64.wrap ((3 : Int) + (IntKind.i64.wrap ((2 : Int) * id0)))) w)
theorem api_Timeout.B1_eq (id0 : Int) (t8 : Bool) (w : World)   (R : Int → World → Prop)  :
    (
  Bm t8 (
    R (3 : Int) w) (
    R (IntKind.i64.wrap ((3 : Int) + (IntKind.i64.wrap ((2 : Int) * id0)))) w)) = kstep Tryz.prog 12 Tryz.f202.results.toList (Tryz.f202.body.getD .skip) (api_Timeout.RV R) (kvc Tryz.prog 12 Tryz.f202.results.toList (Tryz.f202.body.getD .skip) (api_Timeout.RV R) [] 2000) [(0, [1, 0, 1]), (0, [1, 1])] [(0, .int .i64 id0), (8, .bool t8)] w := by kernel_rfl
theorem api_Timeout.B1_sound {R : Int → World → Prop}  (id0 : Int) (t8 : Bool) (w : World) (h : api_Timeout.B1 id0 t8 w   R) :
    KW Tryz.prog 202 12 (api_Timeout.RV R) ([(0, [1, 0, 1]), (0, [1, 1])].map (toItem (Tryz.f202.body.getD .skip))) [(0, .int .i64 id0), (8, .bool t8)] w := by
  exact block_spec Tryz.func202 Tryz.mixed stops_nil (Eq.mp (api_Timeout.B1_eq id0 t8 w   R ) h)
def api_Timeout.B0 (id0 : Int) (w : World)   (R : Int → World → Prop) : Prop :=
  Bm (decide (id0 < (0 : Int))) (
    api_Timeout.B1 id0 true w  R) (
    api_Timeout.B1 id0 (decide (id0 ≥ (3 : Int))) w  R)
theorem api_Timeout.B0_eq (id0 : Int) (w : World)   (R : Int → World → Prop) (sB1 : Int → Bool → World → Prop) :
    (
  Bm (decide (id0 < (0 : Int))) (
    sB1 id0 true w) (
    sB1 id0 (decide (id0 ≥ (3 : Int))) w)) = kstep Tryz.prog 12 Tryz.f202.results.toList (Tryz.f202.body.getD .skip) (api_Timeout.RV R) (kvc Tryz.prog 12 Tryz.f202.results.toList (Tryz.f202.body.getD .skip) (api_Timeout.RV R) [([(0, [1, 0, 1]), (0, [1, 1])], fun σ w => dI .i64 (slotOf σ 0) fun id0_ => dB (slotOf σ 8) fun t8_ => sB1 id0_ t8_ w)] 2000) [(0, [])] [(0, .int .i64 id0)] w := by kernel_rfl
theorem api_Timeout.B0_sound {R : Int → World → Prop}  (id0 : Int) (w : World) (h : api_Timeout.B0 id0 w   R) :
    KW Tryz.prog 202 12 (api_Timeout.RV R) ([(0, [])].map (toItem (Tryz.f202.body.getD .skip))) [(0, .int .i64 id0)] w := by
  exact block_spec Tryz.func202 Tryz.mixed (stops_cons (fun σ w h => by
      obtain ⟨id0_, e0, h⟩ := dI_elim h
      obtain ⟨t8_, e1, h⟩ := dB_elim h
      exact (api_Timeout.B1_sound  id0_ t8_ w h).weaken (Sub.cons (Sub.cons (Sub.nil _) e1) e0)) stops_nil) (Eq.mp (api_Timeout.B0_eq id0 w   R (fun id0_ t8_ w => api_Timeout.B1 id0_ t8_ w  R)) h)
theorem api_Timeout.sound (id0 : Int) (w : World) (R : Int → World → Prop) (h : api_Timeout.B0 id0 w R) : api_Timeout.Call id0 w R := by
  have hc := calls_of_block (args := #[.int .i64 id0]) Tryz.func202 (body := (Tryz.f202.body.getD .skip)) (by kernel_rfl) (by kernel_rfl) (args_slot _) (api_Timeout.B0_sound id0 w h)
  exact hc.mono fun e w' he => by
    obtain ⟨v, rfl, hv⟩ := he
    exact api_Timeout.RV_elim hv
def elect_bit.L1b (p b i : Int) (w : World)  (N1 : Int → Int → Int → World → Prop) (R : Int → World → Prop) : Prop :=
  Bm (decide (i < p)) (
    0 ≤ (1 : Int) ∧
    N1 p (IntKind.i64.wrap (b * 2 ^ (min (1 : Int).toNat IntKind.i64.bits))) (IntKind.i64.wrap (i + (1 : Int))) w) (
    R b w)
theorem elect_bit.L1b_eq (p b i : Int) (w : World)  (N1 : Int → Int → Int → World → Prop) (R : Int → World → Prop)  :
    (
  Bm (decide (i < p)) (
    0 ≤ (1 : Int) ∧
    N1 p (IntKind.i64.wrap (b * 2 ^ (min (1 : Int).toNat IntKind.i64.bits))) (IntKind.i64.wrap (i + (1 : Int))) w) (
    R b w)) = kstep Tryz.prog 13 Tryz.f203.results.toList (Tryz.f203.body.getD .skip) (elect_bit.RV R) (kvc Tryz.prog 13 Tryz.f203.results.toList (Tryz.f203.body.getD .skip) (elect_bit.RV R) [([(0, [1, 1, 0, 1, 0, 0]), (2, [1, 1, 0, 1, 0, 0]), (1, [0]), (0, [1, 1, 1])], fun σ w => dI .i64 (slotOf σ 0) fun p_ => dI .i64 (slotOf σ 3) fun b_ => dI .i64 (slotOf σ 4) fun i_ => N1 p_ b_ i_ w)] 2000) [(0, [1, 1, 0, 1, 0, 0]), (2, [1, 1, 0, 1, 0, 0]), (1, [0]), (0, [1, 1, 1])] [(0, .int .i64 p), (3, .int .i64 b), (4, .int .i64 i)] w := by kernel_rfl
theorem elect_bit.L1b_sound {R : Int → World → Prop} {N1 : Int → Int → Int → World → Prop} (hN1 : ∀ p b i w, N1 p b i w → KW Tryz.prog 203 13 (elect_bit.RV R) ([(0, [1, 1, 0, 1, 0, 0]), (2, [1, 1, 0, 1, 0, 0]), (1, [0]), (0, [1, 1, 1])].map (toItem (Tryz.f203.body.getD .skip))) [(0, .int .i64 p), (3, .int .i64 b), (4, .int .i64 i)] w) (p b i : Int) (w : World) (h : elect_bit.L1b p b i w  N1 R) :
    KW Tryz.prog 203 13 (elect_bit.RV R) ([(0, [1, 1, 0, 1, 0, 0]), (2, [1, 1, 0, 1, 0, 0]), (1, [0]), (0, [1, 1, 1])].map (toItem (Tryz.f203.body.getD .skip))) [(0, .int .i64 p), (3, .int .i64 b), (4, .int .i64 i)] w := by
  exact block_spec Tryz.func203 Tryz.mixed (stops_cons (fun σ w h => by
      obtain ⟨p_, e0, h⟩ := dI_elim h
      obtain ⟨b_, e1, h⟩ := dI_elim h
      obtain ⟨i_, e2, h⟩ := dI_elim h
      exact (hN1 p_ b_ i_ w h).weaken (Sub.cons (Sub.cons (Sub.cons (Sub.nil _) e2) e1) e0)) stops_nil) (Eq.mp (elect_bit.L1b_eq p b i w  N1 R ) h)
def elect_bit.L1 (p b i : Int) (w : World)  (R : Int → World → Prop) : Prop :=
  ∃ (I : Nat → Int → Int → Int → World → Prop) (m : Nat), I m p b i w ∧ ∀ m p b i w, I m p b i w → elect_bit.L1b p b i w  (fun p' b' i' w' => ∃ m', m' < m ∧ I m' p' b' i' w') R
theorem elect_bit.L1_sound {R : Int → World → Prop}  (p b i : Int) (w : World) (h : elect_bit.L1 p b i w  R) :
    KW Tryz.prog 203 13 (elect_bit.RV R) ([(0, [1, 1, 0, 1, 0, 0]), (2, [1, 1, 0, 1, 0, 0]), (1, [0]), (0, [1, 1, 1])].map (toItem (Tryz.f203.body.getD .skip))) [(0, .int .i64 p), (3, .int .i64 b), (4, .int .i64 i)] w := by
  obtain ⟨I, m, hBase, hr⟩ := h
  refine KW.loop (fun m σ w => ∃ (p b i : Int), σ = [(0, .int .i64 p), (3, .int .i64 b), (4, .int .i64 i)] ∧ I m p b i w) ?_ m _ w ⟨p, b, i, rfl, hBase⟩
  rintro m ih σ w ⟨p, b, i, rfl, hI⟩
  exact elect_bit.L1b_sound  (N1 := fun p' b' i' w' => ∃ m', m' < m ∧ I m' p' b' i' w') (fun p' b' i' w' hx => by obtain ⟨m', hlt, hI'⟩ := hx; exact ih m' hlt _ w' ⟨p', b', i', rfl, hI'⟩) p b i w (hr m p b i w hI)
def elect_bit.B0 (p : Int) (w : World)   (R : Int → World → Prop) : Prop :=
  elect_bit.L1 p (1 : Int) (0 : Int) w  R
theorem elect_bit.B0_eq (p : Int) (w : World)   (R : Int → World → Prop) (sL1 : Int → Int → Int → World → Prop) :
    (
  sL1 p (1 : Int) (0 : Int) w) = kstep Tryz.prog 13 Tryz.f203.results.toList (Tryz.f203.body.getD .skip) (elect_bit.RV R) (kvc Tryz.prog 13 Tryz.f203.results.toList (Tryz.f203.body.getD .skip) (elect_bit.RV R) [([(0, [1, 1, 0, 1, 0, 0]), (2, [1, 1, 0, 1, 0, 0]), (1, [0]), (0, [1, 1, 1])], fun σ w => dI .i64 (slotOf σ 0) fun p_ => dI .i64 (slotOf σ 3) fun b_ => dI .i64 (slotOf σ 4) fun i_ => sL1 p_ b_ i_ w)] 2000) [(0, [])] [(0, .int .i64 p)] w := by kernel_rfl
theorem elect_bit.B0_sound {R : Int → World → Prop}  (p : Int) (w : World) (h : elect_bit.B0 p w   R) :
    KW Tryz.prog 203 13 (elect_bit.RV R) ([(0, [])].map (toItem (Tryz.f203.body.getD .skip))) [(0, .int .i64 p)] w := by
  exact block_spec Tryz.func203 Tryz.mixed (stops_cons (fun σ w h => by
      obtain ⟨p_, e0, h⟩ := dI_elim h
      obtain ⟨b_, e1, h⟩ := dI_elim h
      obtain ⟨i_, e2, h⟩ := dI_elim h
      exact (elect_bit.L1_sound  p_ b_ i_ w h).weaken (Sub.cons (Sub.cons (Sub.cons (Sub.nil _) e2) e1) e0)) stops_nil) (Eq.mp (elect_bit.B0_eq p w   R (fun p_ b_ i_ w => elect_bit.L1 p_ b_ i_ w  R)) h)
theorem elect_bit.sound (p : Int) (w : World) (R : Int → World → Prop) (h : elect_bit.B0 p w R) : elect_bit.Call p w R := by
  have hc := calls_of_block (args := #[.int .i64 p]) Tryz.func203 (body := (Tryz.f203.body.getD .skip)) (by kernel_rfl) (by kernel_rfl) (args_slot _) (elect_bit.B0_sound p w h)
  exact hc.mono fun e w' he => by
    obtain ⟨v, rfl, hv⟩ := he
    exact elect_bit.RV_elim hv
def kv_reader_one.B1 (r : Option Addr) (t18 : Bool) (w : World)   (R : Int → World → Prop) : Prop :=
  Bm t18 (
    Pn r fun a =>
    Sts [.bool true] (a.add 2) 0 w fun w1 =>
    R (0 : Int) w1) (
    Pn r fun a_1 =>
    LdI .i64 (a_1.add 1) w fun x25 =>
    Pn r fun a_2 =>
    Sts [.int .i64 (IntKind.i64.wrap (x25 + (1 : Int)))] (a_2.add 1) 0 w fun w2 =>
    Pn r fun a_3 =>
    LdS a_3 w2.drew fun x32 =>
    Pn r fun a_4 =>
    LdI .i64 (a_4.add 1) w2.drew fun x36 =>
    (0 ≤ (IntKind.i64.wrap (x36 - (1 : Int))) ∧ (IntKind.i64.wrap (x36 - (1 : Int))) < ((x32.size : Nat) : Int)) ∧
    R (IntKind.i64.wrap (byteAt x32 (IntKind.i64.wrap (x36 - (1 : Int))))) w2.drew)
theorem kv_reader_one.B1_eq (r : Option Addr) (t18 : Bool) (w : World)   (R : Int → World → Prop)  :
    (
  Bm t18 (
    Pn r fun a =>
    Sts [.bool true] (a.add 2) 0 w fun w1 =>
    R (0 : Int) w1) (
    Pn r fun a_1 =>
    LdI .i64 (a_1.add 1) w fun x25 =>
    Pn r fun a_2 =>
    Sts [.int .i64 (IntKind.i64.wrap (x25 + (1 : Int)))] (a_2.add 1) 0 w fun w2 =>
    Pn r fun a_3 =>
    LdS a_3 w2.drew fun x32 =>
    Pn r fun a_4 =>
    LdI .i64 (a_4.add 1) w2.drew fun x36 =>
    (0 ≤ (IntKind.i64.wrap (x36 - (1 : Int))) ∧ (IntKind.i64.wrap (x36 - (1 : Int))) < ((x32.size : Nat) : Int)) ∧
    R (IntKind.i64.wrap (byteAt x32 (IntKind.i64.wrap (x36 - (1 : Int))))) w2.drew)) = kstep Tryz.prog 40 Tryz.f204.results.toList (Tryz.f204.body.getD .skip) (kv_reader_one.RV R) (kvc Tryz.prog 40 Tryz.f204.results.toList (Tryz.f204.body.getD .skip) (kv_reader_one.RV R) [] 2000) [(0, [1, 0, 1]), (0, [1, 1])] [(0, .pointer r), (18, .bool t18)] w := by kernel_rfl
theorem kv_reader_one.B1_sound {R : Int → World → Prop}  (r : Option Addr) (t18 : Bool) (w : World) (h : kv_reader_one.B1 r t18 w   R) :
    KW Tryz.prog 204 40 (kv_reader_one.RV R) ([(0, [1, 0, 1]), (0, [1, 1])].map (toItem (Tryz.f204.body.getD .skip))) [(0, .pointer r), (18, .bool t18)] w := by
  exact block_spec Tryz.func204 Tryz.mixed stops_nil (Eq.mp (kv_reader_one.B1_eq r t18 w   R ) h)
def kv_reader_one.B0 (r : Option Addr) (w : World)   (R : Int → World → Prop) : Prop :=
  Pn r fun a =>
  LdB (a.add 2) w.drew fun x6 =>
  Bm x6 (
    kv_reader_one.B1 r true w.drew  R) (
    Pn r fun a_1 =>
    LdI .i64 (a_1.add 1) w.drew fun x11 =>
    Pn r fun a_2 =>
    LdS a_2 w.drew fun x15 =>
    kv_reader_one.B1 r (decide (x11 ≥ ((x15.size : Nat) : Int))) w.drew  R)
theorem kv_reader_one.B0_eq (r : Option Addr) (w : World)   (R : Int → World → Prop) (sB1 : Option Addr → Bool → World → Prop) :
    (
  Pn r fun a =>
  LdB (a.add 2) w.drew fun x6 =>
  Bm x6 (
    sB1 r true w.drew) (
    Pn r fun a_1 =>
    LdI .i64 (a_1.add 1) w.drew fun x11 =>
    Pn r fun a_2 =>
    LdS a_2 w.drew fun x15 =>
    sB1 r (decide (x11 ≥ ((x15.size : Nat) : Int))) w.drew)) = kstep Tryz.prog 40 Tryz.f204.results.toList (Tryz.f204.body.getD .skip) (kv_reader_one.RV R) (kvc Tryz.prog 40 Tryz.f204.results.toList (Tryz.f204.body.getD .skip) (kv_reader_one.RV R) [([(0, [1, 0, 1]), (0, [1, 1])], fun σ w => dP (slotOf σ 0) fun r_ => dB (slotOf σ 18) fun t18_ => sB1 r_ t18_ w)] 2000) [(0, [])] [(0, .pointer r)] w := by kernel_rfl
theorem kv_reader_one.B0_sound {R : Int → World → Prop}  (r : Option Addr) (w : World) (h : kv_reader_one.B0 r w   R) :
    KW Tryz.prog 204 40 (kv_reader_one.RV R) ([(0, [])].map (toItem (Tryz.f204.body.getD .skip))) [(0, .pointer r)] w := by
  exact block_spec Tryz.func204 Tryz.mixed (stops_cons (fun σ w h => by
      obtain ⟨r_, e0, h⟩ := dP_elim h
      obtain ⟨t18_, e1, h⟩ := dB_elim h
      exact (kv_reader_one.B1_sound  r_ t18_ w h).weaken (Sub.cons (Sub.cons (Sub.nil _) e1) e0)) stops_nil) (Eq.mp (kv_reader_one.B0_eq r w   R (fun r_ t18_ w => kv_reader_one.B1 r_ t18_ w  R)) h)
theorem kv_reader_one.sound (r : Option Addr) (w : World) (R : Int → World → Prop) (h : kv_reader_one.B0 r w R) : kv_reader_one.Call r w R := by
  have hc := calls_of_block (args := #[.pointer r]) Tryz.func204 (body := (Tryz.f204.body.getD .skip)) (by kernel_rfl) (by kernel_rfl) (args_slot _) (kv_reader_one.B0_sound r w h)
  exact hc.mono fun e w' he => by
    obtain ⟨v, rfl, hv⟩ := he
    exact kv_reader_one.RV_elim hv
def kv_reader_str.B1 (r : Option Addr) (n : Int) (t37 : Bool) (w : World)   (R : ByteArray → World → Prop) : Prop :=
  Bm t37 (
    Pn r fun a =>
    Sts [.bool true] (a.add 2) 0 w fun w1 =>
    R (ByteArray.mk #[]) w1) (
    Pn r fun a_1 =>
    LdI .i64 (a_1.add 1) w fun x44 =>
    Pn r fun a_2 =>
    Sts [.int .i64 (IntKind.i64.wrap (x44 + n))] (a_2.add 1) 0 w fun w2 =>
    Pn r fun a_3 =>
    LdS a_3 w2.drew fun x52 =>
    Pn r fun a_4 =>
    LdI .i64 (a_4.add 1) w2.drew fun x56 =>
    Pn r fun a_5 =>
    LdI .i64 (a_5.add 1) w2.drew fun x62 =>
    (0 ≤ x62 ∧ x62 ≤ ((x52.size : Nat) : Int)) ∧
    (0 ≤ (IntKind.i64.wrap (x56 - n)) ∧ (IntKind.i64.wrap (x56 - n)) ≤ x62) ∧
    R (x52.extract (IntKind.i64.wrap (x56 - n)).toNat x62.toNat) w2.drew)
theorem kv_reader_str.B1_eq (r : Option Addr) (n : Int) (t37 : Bool) (w : World)   (R : ByteArray → World → Prop)  :
    (
  Bm t37 (
    Pn r fun a =>
    Sts [.bool true] (a.add 2) 0 w fun w1 =>
    R (ByteArray.mk #[]) w1) (
    Pn r fun a_1 =>
    LdI .i64 (a_1.add 1) w fun x44 =>
    Pn r fun a_2 =>
    Sts [.int .i64 (IntKind.i64.wrap (x44 + n))] (a_2.add 1) 0 w fun w2 =>
    Pn r fun a_3 =>
    LdS a_3 w2.drew fun x52 =>
    Pn r fun a_4 =>
    LdI .i64 (a_4.add 1) w2.drew fun x56 =>
    Pn r fun a_5 =>
    LdI .i64 (a_5.add 1) w2.drew fun x62 =>
    (0 ≤ x62 ∧ x62 ≤ ((x52.size : Nat) : Int)) ∧
    (0 ≤ (IntKind.i64.wrap (x56 - n)) ∧ (IntKind.i64.wrap (x56 - n)) ≤ x62) ∧
    R (x52.extract (IntKind.i64.wrap (x56 - n)).toNat x62.toNat) w2.drew)) = kstep Tryz.prog 64 Tryz.f205.results.toList (Tryz.f205.body.getD .skip) (kv_reader_str.RV R) (kvc Tryz.prog 64 Tryz.f205.results.toList (Tryz.f205.body.getD .skip) (kv_reader_str.RV R) [] 2000) [(0, [1, 1, 0, 1]), (0, [1, 1, 1])] [(0, .pointer r), (7, .int .i64 n), (37, .bool t37)] w := by kernel_rfl
theorem kv_reader_str.B1_sound {R : ByteArray → World → Prop}  (r : Option Addr) (n : Int) (t37 : Bool) (w : World) (h : kv_reader_str.B1 r n t37 w   R) :
    KW Tryz.prog 205 64 (kv_reader_str.RV R) ([(0, [1, 1, 0, 1]), (0, [1, 1, 1])].map (toItem (Tryz.f205.body.getD .skip))) [(0, .pointer r), (7, .int .i64 n), (37, .bool t37)] w := by
  exact block_spec Tryz.func205 Tryz.mixed stops_nil (Eq.mp (kv_reader_str.B1_eq r n t37 w   R ) h)
def kv_reader_str.B0 (r : Option Addr) (lo hi : Int) (w : World)   (R : ByteArray → World → Prop) : Prop :=
  kv_reader_one.Call r w fun r9 w1 =>
  Pn r fun a =>
  LdB (a.add 2) w1.drew fun x13 =>
  Bm x13 (
    kv_reader_str.B1 r r9 true w1.drew  R) (
    Bm (decide (r9 < lo)) (
      kv_reader_str.B1 r r9 true w1.drew  R) (
      Bm (decide (r9 > hi)) (
        kv_reader_str.B1 r r9 true w1.drew  R) (
        Pn r fun a_1 =>
        LdS a_1 w1.drew fun x29 =>
        Pn r fun a_2 =>
        LdI .i64 (a_2.add 1) w1.drew fun x34 =>
        kv_reader_str.B1 r r9 (decide (r9 > (IntKind.i64.wrap (((x29.size : Nat) : Int) - x34)))) w1.drew  R)))
theorem kv_reader_str.B0_eq (r : Option Addr) (lo hi : Int) (w : World)   (R : ByteArray → World → Prop) (sB1 : Option Addr → Int → Bool → World → Prop) :
    (
  kv_reader_one.Call r w fun r9 w1 =>
  Pn r fun a =>
  LdB (a.add 2) w1.drew fun x13 =>
  Bm x13 (
    sB1 r r9 true w1.drew) (
    Bm (decide (r9 < lo)) (
      sB1 r r9 true w1.drew) (
      Bm (decide (r9 > hi)) (
        sB1 r r9 true w1.drew) (
        Pn r fun a_1 =>
        LdS a_1 w1.drew fun x29 =>
        Pn r fun a_2 =>
        LdI .i64 (a_2.add 1) w1.drew fun x34 =>
        sB1 r r9 (decide (r9 > (IntKind.i64.wrap (((x29.size : Nat) : Int) - x34)))) w1.drew)))) = kstep Tryz.prog 64 Tryz.f205.results.toList (Tryz.f205.body.getD .skip) (kv_reader_str.RV R) (kvc Tryz.prog 64 Tryz.f205.results.toList (Tryz.f205.body.getD .skip) (kv_reader_str.RV R) [([(0, [1, 1, 0, 1]), (0, [1, 1, 1])], fun σ w => dP (slotOf σ 0) fun r_ => dI .i64 (slotOf σ 7) fun n_ => dB (slotOf σ 37) fun t37_ => sB1 r_ n_ t37_ w)] 2000) [(0, [])] [(0, .pointer r), (1, .int .i64 lo), (2, .int .i64 hi)] w := by kernel_rfl
theorem kv_reader_str.B0_sound {R : ByteArray → World → Prop}  (r : Option Addr) (lo hi : Int) (w : World) (h : kv_reader_str.B0 r lo hi w   R) :
    KW Tryz.prog 205 64 (kv_reader_str.RV R) ([(0, [])].map (toItem (Tryz.f205.body.getD .skip))) [(0, .pointer r), (1, .int .i64 lo), (2, .int .i64 hi)] w := by
  exact block_spec Tryz.func205 Tryz.mixed (stops_cons (fun σ w h => by
      obtain ⟨r_, e0, h⟩ := dP_elim h
      obtain ⟨n_, e1, h⟩ := dI_elim h
      obtain ⟨t37_, e2, h⟩ := dB_elim h
      exact (kv_reader_str.B1_sound  r_ n_ t37_ w h).weaken (Sub.cons (Sub.cons (Sub.cons (Sub.nil _) e2) e1) e0)) stops_nil) (Eq.mp (kv_reader_str.B0_eq r lo hi w   R (fun r_ n_ t37_ w => kv_reader_str.B1 r_ n_ t37_ w  R)) h)
theorem kv_reader_str.sound (r : Option Addr) (lo hi : Int) (w : World) (R : ByteArray → World → Prop) (h : kv_reader_str.B0 r lo hi w R) : kv_reader_str.Call r lo hi w R := by
  have hc := calls_of_block (args := #[.pointer r, .int .i64 lo, .int .i64 hi]) Tryz.func205 (body := (Tryz.f205.body.getD .skip)) (by kernel_rfl) (by kernel_rfl) (args_slot _) (kv_reader_str.B0_sound r lo hi w h)
  exact hc.mono fun e w' he => by
    obtain ⟨v, rfl, hv⟩ := he
    exact kv_reader_str.RV_elim hv
def kv_table_add.B1 (t : Option Addr) (key val : ByteArray) (i : Int) (w : World)   (R : World → Prop) : Prop :=
  Pn t fun a =>
  kv_mkCell.Call key val w.drew fun r29_0 r29_1 r29_2 r29_3 r29_4 r29_5 r29_6 r29_7 w1 =>
  (0 ≤ i ∧ i < ((8 : Nat) : Int)) ∧
  Sts [.int .i64 r29_0, .int .i64 r29_1, .int .u8 r29_2, .int .u8 r29_3, .int .i64 r29_4, .int .u8 r29_5, .int .u8 r29_6, .int .u8 r29_7] (Addr.add a (i.toNat * 8)) 0 w1 fun w2 =>
  Pn t fun a_1 =>
  LdI .i64 (a_1.add 64) w2 fun x36 =>
  Pn t fun a_2 =>
  Sts [.int .i64 (IntKind.i64.wrap (x36 + (1 : Int)))] (a_2.add 64) 0 w2 fun w3 =>
  Pn t fun a_3 =>
  LdI .i64 (a_3.add 64) w3.drew fun x43 =>
  Pn t fun a_4 =>
  LdI .i64 (a_4.add 65) w3.drew fun x47 =>
  Bm (decide ((IntKind.i64.wrap (x43 + x47)) ≥ (6 : Int))) (
    kv_table_rebuild.Call t w3.drew fun w4 =>
    R  w4) (
    R  w3.drew)
theorem kv_table_add.B1_eq (t : Option Addr) (key val : ByteArray) (i : Int) (w : World)   (R : World → Prop)  :
    (
  Pn t fun a =>
  kv_mkCell.Call key val w.drew fun r29_0 r29_1 r29_2 r29_3 r29_4 r29_5 r29_6 r29_7 w1 =>
  (0 ≤ i ∧ i < ((8 : Nat) : Int)) ∧
  Sts [.int .i64 r29_0, .int .i64 r29_1, .int .u8 r29_2, .int .u8 r29_3, .int .i64 r29_4, .int .u8 r29_5, .int .u8 r29_6, .int .u8 r29_7] (Addr.add a (i.toNat * 8)) 0 w1 fun w2 =>
  Pn t fun a_1 =>
  LdI .i64 (a_1.add 64) w2 fun x36 =>
  Pn t fun a_2 =>
  Sts [.int .i64 (IntKind.i64.wrap (x36 + (1 : Int)))] (a_2.add 64) 0 w2 fun w3 =>
  Pn t fun a_3 =>
  LdI .i64 (a_3.add 64) w3.drew fun x43 =>
  Pn t fun a_4 =>
  LdI .i64 (a_4.add 65) w3.drew fun x47 =>
  Bm (decide ((IntKind.i64.wrap (x43 + x47)) ≥ (6 : Int))) (
    kv_table_rebuild.Call t w3.drew fun w4 =>
    R  w4) (
    R  w3.drew)) = kstep Tryz.prog 52 Tryz.f206.results.toList (Tryz.f206.body.getD .skip) (kv_table_add.RV R) (kvc Tryz.prog 52 Tryz.f206.results.toList (Tryz.f206.body.getD .skip) (kv_table_add.RV R) [] 2000) [(0, [1, 1])] [(0, .pointer t), (1, .string key), (2, .string val), (6, .int .i64 i)] w := by kernel_rfl
theorem kv_table_add.B1_sound {R : World → Prop}  (t : Option Addr) (key val : ByteArray) (i : Int) (w : World) (h : kv_table_add.B1 t key val i w   R) :
    KW Tryz.prog 206 52 (kv_table_add.RV R) ([(0, [1, 1])].map (toItem (Tryz.f206.body.getD .skip))) [(0, .pointer t), (1, .string key), (2, .string val), (6, .int .i64 i)] w := by
  exact block_spec Tryz.func206 Tryz.mixed stops_nil (Eq.mp (kv_table_add.B1_eq t key val i w   R ) h)
def kv_table_add.B0 (t : Option Addr) (key val : ByteArray) (w : World)   (R : World → Prop) : Prop :=
  kv_table_room.Call t key w fun r9 w1 =>
  Pn t fun a =>
  (0 ≤ r9 ∧ r9 < ((8 : Nat) : Int)) ∧
  LdI .i64 (Addr.add a (r9.toNat * 8)) w1 fun x16 =>
  Bm (x16 == (2 : Int)) (
    Pn t fun a_1 =>
    LdI .i64 (a_1.add 65) w1 fun x21 =>
    Pn t fun a_2 =>
    Sts [.int .i64 (IntKind.i64.wrap (x21 - (1 : Int)))] (a_2.add 65) 0 w1 fun w2 =>
    kv_table_add.B1 t key val r9 w2  R) (
    kv_table_add.B1 t key val r9 w1  R)
theorem kv_table_add.B0_eq (t : Option Addr) (key val : ByteArray) (w : World)   (R : World → Prop) (sB1 : Option Addr → ByteArray → ByteArray → Int → World → Prop) :
    (
  kv_table_room.Call t key w fun r9 w1 =>
  Pn t fun a =>
  (0 ≤ r9 ∧ r9 < ((8 : Nat) : Int)) ∧
  LdI .i64 (Addr.add a (r9.toNat * 8)) w1 fun x16 =>
  Bm (x16 == (2 : Int)) (
    Pn t fun a_1 =>
    LdI .i64 (a_1.add 65) w1 fun x21 =>
    Pn t fun a_2 =>
    Sts [.int .i64 (IntKind.i64.wrap (x21 - (1 : Int)))] (a_2.add 65) 0 w1 fun w2 =>
    sB1 t key val r9 w2) (
    sB1 t key val r9 w1)) = kstep Tryz.prog 52 Tryz.f206.results.toList (Tryz.f206.body.getD .skip) (kv_table_add.RV R) (kvc Tryz.prog 52 Tryz.f206.results.toList (Tryz.f206.body.getD .skip) (kv_table_add.RV R) [([(0, [1, 1])], fun σ w => dP (slotOf σ 0) fun t_ => dS (slotOf σ 1) fun key_ => dS (slotOf σ 2) fun val_ => dI .i64 (slotOf σ 6) fun i_ => sB1 t_ key_ val_ i_ w)] 2000) [(0, [])] [(0, .pointer t), (1, .string key), (2, .string val)] w := by kernel_rfl
theorem kv_table_add.B0_sound {R : World → Prop}  (t : Option Addr) (key val : ByteArray) (w : World) (h : kv_table_add.B0 t key val w   R) :
    KW Tryz.prog 206 52 (kv_table_add.RV R) ([(0, [])].map (toItem (Tryz.f206.body.getD .skip))) [(0, .pointer t), (1, .string key), (2, .string val)] w := by
  exact block_spec Tryz.func206 Tryz.mixed (stops_cons (fun σ w h => by
      obtain ⟨t_, e0, h⟩ := dP_elim h
      obtain ⟨key_, e1, h⟩ := dS_elim h
      obtain ⟨val_, e2, h⟩ := dS_elim h
      obtain ⟨i_, e3, h⟩ := dI_elim h
      exact (kv_table_add.B1_sound  t_ key_ val_ i_ w h).weaken (Sub.cons (Sub.cons (Sub.cons (Sub.cons (Sub.nil _) e3) e2) e1) e0)) stops_nil) (Eq.mp (kv_table_add.B0_eq t key val w   R (fun t_ key_ val_ i_ w => kv_table_add.B1 t_ key_ val_ i_ w  R)) h)
theorem kv_table_add.sound (t : Option Addr) (key val : ByteArray) (w : World) (R : World → Prop) (h : kv_table_add.B0 t key val w R) : kv_table_add.Call t key val w R := by
  have hc := calls_of_block (args := #[.pointer t, .string key, .string val]) Tryz.func206 (body := (Tryz.f206.body.getD .skip)) (by kernel_rfl) (by kernel_rfl) (args_slot _) (kv_table_add.B0_sound t key val w h)
  exact hc.mono fun e w' he => by
    obtain ⟨v, rfl, hv⟩ := he
    exact kv_table_add.RV_elim hv
end Go.Proofs.Qxb6500430aGreat
