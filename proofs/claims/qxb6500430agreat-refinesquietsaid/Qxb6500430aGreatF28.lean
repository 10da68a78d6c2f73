import Derived.Test.Qxb6500430aGreatSig
set_option maxRecDepth 100000
set_option linter.unusedVariables false
open Go.Vc
namespace Go.Proofs.Qxb6500430aGreat
def kvm_KV_put.B1 (k : Option Addr) (key val : ByteArray) (j : Int) (t41 : Bool) (w : World) (N1 : Option Addr → ByteArray → ByteArray → Int → World → Prop)  (R : Int → World → Prop) : Prop :=
  Bm t41 (
    Pn k fun a =>
    (0 ≤ (IntKind.i64.wrap (j - (1 : Int))) ∧ (IntKind.i64.wrap (j - (1 : Int))) < ((4 : Nat) : Int)) ∧
    LdS (Addr.add (a.add 1) ((IntKind.i64.wrap (j - (1 : Int))).toNat * 1)) w.drew fun x52 =>
    Pn k fun a_1 =>
    (0 ≤ (IntKind.i64.wrap (j - (1 : Int))) ∧ (IntKind.i64.wrap (j - (1 : Int))) < ((4 : Nat) : Int)) ∧
    LdS (Addr.add (a_1.add 5) ((IntKind.i64.wrap (j - (1 : Int))).toNat * 1)) w.drew fun x59 =>
    Pn k fun a_2 =>
    (0 ≤ j ∧ j < ((4 : Nat) : Int)) ∧
    Pn k fun a_3 =>
    Sts [.string x52] (Addr.add (a_2.add 1) (j.toNat * 1)) 0 w.drew fun w1 =>
    (0 ≤ j ∧ j < ((4 : Nat) : Int)) ∧
    Sts [.string x59] (Addr.add (a_3.add 5) (j.toNat * 1)) 0 w1 fun w2 =>
    N1 k key val (IntKind.i64.wrap (j - (1 : Int))) w2) (
    Pn k fun a_4 =>
    (0 ≤ j ∧ j < ((4 : Nat) : Int)) ∧
    Pn k fun a_5 =>
    Sts [.string key] (Addr.add (a_4.add 1) (j.toNat * 1)) 0 w.drew fun w3 =>
    (0 ≤ j ∧ j < ((4 : Nat) : Int)) ∧
    Sts [.string val] (Addr.add (a_5.add 5) (j.toNat * 1)) 0 w3 fun w4 =>
    Pn k fun a_6 =>
    LdI .i64 a_6 w4 fun x83 =>
    Pn k fun a_7 =>
    Sts [.int .i64 (IntKind.i64.wrap (x83 + (1 : Int)))] a_7 0 w4 fun w5 =>
    R (0 : Int) w5)
theorem kvm_KV_put.B1_eq (k : Option Addr) (key val : ByteArray) (j : Int) (t41 : Bool) (w : World) (N1 : Option Addr → ByteArray → ByteArray → Int → World → Prop)  (R : Int → World → Prop)  :
    (
  Bm t41 (
    Pn k fun a =>
    (0 ≤ (IntKind.i64.wrap (j - (1 : Int))) ∧ (IntKind.i64.wrap (j - (1 : Int))) < ((4 : Nat) : Int)) ∧
    LdS (Addr.add (a.add 1) ((IntKind.i64.wrap (j - (1 : Int))).toNat * 1)) w.drew fun x52 =>
    Pn k fun a_1 =>
    (0 ≤ (IntKind.i64.wrap (j - (1 : Int))) ∧ (IntKind.i64.wrap (j - (1 : Int))) < ((4 : Nat) : Int)) ∧
    LdS (Addr.add (a_1.add 5) ((IntKind.i64.wrap (j - (1 : Int))).toNat * 1)) w.drew fun x59 =>
    Pn k fun a_2 =>
    (0 ≤ j ∧ j < ((4 : Nat) : Int)) ∧
    Pn k fun a_3 =>
    Sts [.string x52] (Addr.add (a_2.add 1) (j.toNat * 1)) 0 w.drew fun w1 =>
    (0 ≤ j ∧ j < ((4 : Nat) : Int)) ∧
    Sts [.string x59] (Addr.add (a_3.add 5) (j.toNat * 1)) 0 w1 fun w2 =>
    N1 k key val (IntKind.i64.wrap (j - (1 : Int))) w2) (
    Pn k fun a_4 =>
    (0 ≤ j ∧ j < ((4 : Nat) : Int)) ∧
    Pn k fun a_5 =>
    Sts [.string key] (Addr.add (a_4.add 1) (j.toNat * 1)) 0 w.drew fun w3 =>
    (0 ≤ j ∧ j < ((4 : Nat) : Int)) ∧
    Sts [.string val] (Addr.add (a_5.add 5) (j.toNat * 1)) 0 w3 fun w4 =>
    Pn k fun a_6 =>
    LdI .i64 a_6 w4 fun x83 =>
    Pn k fun a_7 =>
    Sts [.int .i64 (IntKind.i64.wrap (x83 + (1 : Int)))] a_7 0 w4 fun w5 =>
    R (0 : Int) w5)) = kstep Tryz.prog 87 Tryz.f276.results.toList (Tryz.f276.body.getD .skip) (kvm_KV_put.RV R) (kvc Tryz.prog 87 Tryz.f276.results.toList (Tryz.f276.body.getD .skip) (kvm_KV_put.RV R) [([(0, [1, 1, 1, 1, 1, 0, 0, 0]), (2, [1, 1, 1, 1, 1, 0, 0, 0]), (1, [0]), (0, [1, 1, 1, 1, 1, 1])], fun σ w => dP (slotOf σ 0) fun k_ => dS (slotOf σ 1) fun key_ => dS (slotOf σ 2) fun val_ => dI .i64 (slotOf σ 8) fun j_ => N1 k_ key_ val_ j_ w)] 2000) [(0, [1, 1, 1, 1, 1, 0, 0, 0, 0, 1]), (0, [1, 1, 1, 1, 1, 0, 0, 0, 1]), (2, [1, 1, 1, 1, 1, 0, 0, 0]), (1, [0]), (0, [1, 1, 1, 1, 1, 1])] [(0, .pointer k), (1, .string key), (2, .string val), (8, .int .i64 j), (41, .bool t41)] w := by kernel_rfl
theorem kvm_KV_put.B1_sound {R : Int → World → Prop} {N1 : Option Addr → ByteArray → ByteArray → Int → World → Prop} (hN1 : ∀ k key val j w, N1 k key val j w → KW Tryz.prog 276 87 (kvm_KV_put.RV R) ([(0, [1, 1, 1, 1, 1, 0, 0, 0]), (2, [1, 1, 1, 1, 1, 0, 0, 0]), (1, [0]), (0, [1, 1, 1, 1, 1, 1])].map (toItem (Tryz.f276.body.getD .skip))) [(0, .pointer k), (1, .string key), (2, .string val), (8, .int .i64 j)] w) (k : Option Addr) (key val : ByteArray) (j : Int) (t41 : Bool) (w : World) (h : kvm_KV_put.B1 k key val j t41 w N1  R) :
    KW Tryz.prog 276 87 (kvm_KV_put.RV R) ([(0, [1, 1, 1, 1, 1, 0, 0, 0, 0, 1]), (0, [1, 1, 1, 1, 1, 0, 0, 0, 1]), (2, [1, 1, 1, 1, 1, 0, 0, 0]), (1, [0]), (0, [1, 1, 1, 1, 1, 1])].map (toItem (Tryz.f276.body.getD .skip))) [(0, .pointer k), (1, .string key), (2, .string val), (8, .int .i64 j), (41, .bool t41)] w := by
  exact block_spec Tryz.func276 Tryz.mixed (stops_cons (fun σ w h => by
      obtain ⟨k_, e0, h⟩ := dP_elim h
      obtain ⟨key_, e1, h⟩ := dS_elim h
      obtain ⟨val_, e2, h⟩ := dS_elim h
      obtain ⟨j_, e3, h⟩ := dI_elim h
      exact (hN1 k_ key_ val_ j_ w h).weaken (Sub.cons (Sub.cons (Sub.cons (Sub.cons (Sub.nil _) e3) e2) e1) e0)) stops_nil) (Eq.mp (kvm_KV_put.B1_eq k key val j t41 w N1  R ) h)
def kvm_KV_put.L1b (k : Option Addr) (key val : ByteArray) (j : Int) (w : World)  (N1 : Option Addr → ByteArray → ByteArray → Int → World → Prop) (R : Int → World → Prop) : Prop :=
  Bm (decide (j > (0 : Int))) (
    Pn k fun a =>
    (0 ≤ (IntKind.i64.wrap (j - (1 : Int))) ∧ (IntKind.i64.wrap (j - (1 : Int))) < ((4 : Nat) : Int)) ∧
    LdS (Addr.add (a.add 1) ((IntKind.i64.wrap (j - (1 : Int))).toNat * 1)) w fun x39 =>
    kvm_KV_put.B1 k key val j (Op.bytesLess key.toList x39.toList) w N1 R) (
    kvm_KV_put.B1 k key val j false w N1 R)
theorem kvm_KV_put.L1b_eq (k : Option Addr) (key val : ByteArray) (j : Int) (w : World)  (N1 : Option Addr → ByteArray → ByteArray → Int → World → Prop) (R : Int → World → Prop) (sB1 : Option Addr → ByteArray → ByteArray → Int → Bool → World → Prop) :
    (
  Bm (decide (j > (0 : Int))) (
    Pn k fun a =>
    (0 ≤ (IntKind.i64.wrap (j - (1 : Int))) ∧ (IntKind.i64.wrap (j - (1 : Int))) < ((4 : Nat) : Int)) ∧
    LdS (Addr.add (a.add 1) ((IntKind.i64.wrap (j - (1 : Int))).toNat * 1)) w fun x39 =>
    sB1 k key val j (Op.bytesLess key.toList x39.toList) w) (
    sB1 k key val j false w)) = kstep Tryz.prog 87 Tryz.f276.results.toList (Tryz.f276.body.getD .skip) (kvm_KV_put.RV R) (kvc Tryz.prog 87 Tryz.f276.results.toList (Tryz.f276.body.getD .skip) (kvm_KV_put.RV R) [([(0, [1, 1, 1, 1, 1, 0, 0, 0, 0, 1]), (0, [1, 1, 1, 1, 1, 0, 0, 0, 1]), (2, [1, 1, 1, 1, 1, 0, 0, 0]), (1, [0]), (0, [1, 1, 1, 1, 1, 1])], fun σ w => dP (slotOf σ 0) fun k_ => dS (slotOf σ 1) fun key_ => dS (slotOf σ 2) fun val_ => dI .i64 (slotOf σ 8) fun j_ => dB (slotOf σ 41) fun t41_ => sB1 k_ key_ val_ j_ t41_ w)] 2000) [(0, [1, 1, 1, 1, 1, 0, 0, 0]), (2, [1, 1, 1, 1, 1, 0, 0, 0]), (1, [0]), (0, [1, 1, 1, 1, 1, 1])] [(0, .pointer k), (1, .string key), (2, .string val), (8, .int .i64 j)] w := by kernel_rfl
theorem kvm_KV_put.L1b_sound {R : Int → World → Prop} {N1 : Option Addr → ByteArray → ByteArray → Int → World → Prop} (hN1 : ∀ k key val j w, N1 k key val j w → KW Tryz.prog 276 87 (kvm_KV_put.RV R) ([(0, [1, 1, 1, 1, 1, 0, 0, 0]), (2, [1, 1, 1, 1, 1, 0, 0, 0]), (1, [0]), (0, [1, 1, 1, 1, 1, 1])].map (toItem (Tryz.f276.body.getD .skip))) [(0, .pointer k), (1, .string key), (2, .string val), (8, .int .i64 j)] w) (k : Option Addr) (key val : ByteArray) (j : Int) (w : World) (h : kvm_KV_put.L1b k key val j w  N1 R) :
    KW Tryz.prog 276 87 (kvm_KV_put.RV R) ([(0, [1, 1, 1, 1, 1, 0, 0, 0]), (2, [1, 1, 1, 1, 1, 0, 0, 0]), (1, [0]), (0, [1, 1, 1, 1, 1, 1])].map (toItem (Tryz.f276.body.getD .skip))) [(0, .pointer k), (1, .string key), (2, .string val), (8, .int .i64 j)] w := by
  exact block_spec Tryz.func276 Tryz.mixed (stops_cons (fun σ w h => by
      obtain ⟨k_, e0, h⟩ := dP_elim h
      obtain ⟨key_, e1, h⟩ := dS_elim h
      obtain ⟨val_, e2, h⟩ := dS_elim h
      obtain ⟨j_, e3, h⟩ := dI_elim h
      obtain ⟨t41_, e4, h⟩ := dB_elim h
      exact (kvm_KV_put.B1_sound hN1 k_ key_ val_ j_ t41_ w h).weaken (Sub.cons (Sub.cons (Sub.cons (Sub.cons (Sub.cons (Sub.nil _) e4) e3) e2) e1) e0)) stops_nil) (Eq.mp (kvm_KV_put.L1b_eq k key val j w  N1 R (fun k_ key_ val_ j_ t41_ w => kvm_KV_put.B1 k_ key_ val_ j_ t41_ w N1 R)) h)
def kvm_KV_put.L1 (k : Option Addr) (key val : ByteArray) (j : Int) (w : World)  (R : Int → World → Prop) : Prop :=
  ∃ (I : Nat → Option Addr → ByteArray → ByteArray → Int → World → Prop) (m : Nat), I m k key val j w ∧ ∀ m k key val j w, I m k key val j w → kvm_KV_put.L1b k key val j w  (fun k' key' val' j' w' => ∃ m', m' < m ∧ I m' k' key' val' j' w') R
theorem kvm_KV_put.L1_sound {R : Int → World → Prop}  (k : Option Addr) (key val : ByteArray) (j : Int) (w : World) (h : kvm_KV_put.L1 k key val j w  R) :
    KW Tryz.prog 276 87 (kvm_KV_put.RV R) ([(0, [1, 1, 1, 1, 1, 0, 0, 0]), (2, [1, 1, 1, 1, 1, 0, 0, 0]), (1, [0]), (0, [1, 1, 1, 1, 1, 1])].map (toItem (Tryz.f276.body.getD .skip))) [(0, .pointer k), (1, .string key), (2, .string val), (8, .int .i64 j)] w := by
  obtain ⟨I, m, hBase, hr⟩ := h
  refine KW.loop (fun m σ w => ∃ (k : Option Addr) (key val : ByteArray) (j : Int), σ = [(0, .pointer k), (1, .string key), (2, .string val), (8, .int .i64 j)] ∧ I m k key val j w) ?_ m _ w ⟨k, key, val, j, rfl, hBase⟩
  rintro m ih σ w ⟨k, key, val, j, rfl, hI⟩
  exact kvm_KV_put.L1b_sound  (N1 := fun k' key' val' j' w' => ∃ m', m' < m ∧ I m' k' key' val' j' w') (fun k' key' val' j' w' hx => by obtain ⟨m', hlt, hI'⟩ := hx; exact ih m' hlt _ w' ⟨k', key', val', j', rfl, hI'⟩) k key val j w (hr m k key val j w hI)
def kvm_KV_put.B0 (k : Option Addr) (key val : ByteArray) (w : World)   (R : Int → World → Prop) : Prop :=
  kvm_KV_find.Call k key w fun r11 w1 =>
  Bm (decide (r11 ≥ (0 : Int))) (
    Pn k fun a =>
    (0 ≤ r11 ∧ r11 < ((4 : Nat) : Int)) ∧
    Sts [.string val] (Addr.add (a.add 5) (r11.toNat * 1)) 0 w1 fun w2 =>
    R (0 : Int) w2) (
    Pn k fun a_1 =>
    LdI .i64 a_1 w1 fun x23 =>
    Bm (decide (x23 ≥ (4 : Int))) (
      R (6 : Int) w1) (
      Pn k fun a_2 =>
      LdI .i64 a_2 w1 fun x28 =>
      kvm_KV_put.L1 k key val x28 w1  R))
theorem kvm_KV_put.B0_eq (k : Option Addr) (key val : ByteArray) (w : World)   (R : Int → World → Prop) (sL1 : Option Addr → ByteArray → ByteArray → Int → World → Prop) :
    (
  kvm_KV_find.Call k key w fun r11 w1 =>
  Bm (decide (r11 ≥ (0 : Int))) (
    Pn k fun a =>
    (0 ≤ r11 ∧ r11 < ((4 : Nat) : Int)) ∧
    Sts [.string val] (Addr.add (a.add 5) (r11.toNat * 1)) 0 w1 fun w2 =>
    R (0 : Int) w2) (
    Pn k fun a_1 =>
    LdI .i64 a_1 w1 fun x23 =>
    Bm (decide (x23 ≥ (4 : Int))) (
      R (6 : Int) w1) (
      Pn k fun a_2 =>
      LdI .i64 a_2 w1 fun x28 =>
      sL1 k key val x28 w1))) = kstep Tryz.prog 87 Tryz.f276.results.toList (Tryz.f276.body.getD .skip) (kvm_KV_put.RV R) (kvc Tryz.prog 87 Tryz.f276.results.toList (Tryz.f276.body.getD .skip) (kvm_KV_put.RV R) [([(0, [1, 1, 1, 1, 1, 0, 0, 0]), (2, [1, 1, 1, 1, 1, 0, 0, 0]), (1, [0]), (0, [1, 1, 1, 1, 1, 1])], fun σ w => dP (slotOf σ 0) fun k_ => dS (slotOf σ 1) fun key_ => dS (slotOf σ 2) fun val_ => dI .i64 (slotOf σ 8) fun j_ => sL1 k_ key_ val_ j_ w)] 2000) [(0, [])] [(0, .pointer k), (1, .string key), (2, .string val)] w := by kernel_rfl
theorem kvm_KV_put.B0_sound {R : Int → World → Prop}  (k : Option Addr) (key val : ByteArray) (w : World) (h : kvm_KV_put.B0 k key val w   R) :
    KW Tryz.prog 276 87 (kvm_KV_put.RV R) ([(0, [])].map (toItem (Tryz.f276.body.getD .skip))) [(0, .pointer k), (1, .string key), (2, .string val)] w := by
  exact block_spec Tryz.func276 Tryz.mixed (stops_cons (fun σ w h => by
      obtain ⟨k_, e0, h⟩ := dP_elim h
      obtain ⟨key_, e1, h⟩ := dS_elim h
      obtain ⟨val_, e2, h⟩ := dS_elim h
      obtain ⟨j_, e3, h⟩ := dI_elim h
      exact (kvm_KV_put.L1_sound  k_ key_ val_ j_ w h).weaken (Sub.cons (Sub.cons (Sub.cons (Sub.cons (Sub.nil _) e3) e2) e1) e0)) stops_nil) (Eq.mp (kvm_KV_put.B0_eq k key val w   R (fun k_ key_ val_ j_ w => kvm_KV_put.L1 k_ key_ val_ j_ w  R)) h)
theorem kvm_KV_put.sound (k : Option Addr) (key val : ByteArray) (w : World) (R : Int → World → Prop) (h : kvm_KV_put.B0 k key val w R) : kvm_KV_put.Call k key val w R := by
  have hc := calls_of_block (args := #[.pointer k, .string key, .string val]) Tryz.func276 (body := (Tryz.f276.body.getD .skip)) (by kernel_rfl) (by kernel_rfl) (args_slot _) (kvm_KV_put.B0_sound k key val w h)
  exact hc.mono fun e w' he => by
    obtain ⟨v, rfl, hv⟩ := he
    exact kvm_KV_put.RV_elim hv
def kv_hash.L1b (key : ByteArray) (h0 i : Int) (w : World)  (N1 : ByteArray → Int → Int → World → Prop) (R : Int → World → Prop) : Prop :=
  Bm (decide (i < ((key.size : Nat) : Int))) (
    (0 ≤ i ∧ i < ((key.size : Nat) : Int)) ∧
    N1 key (IntKind.i64.wrap (BitVec.ofInt IntKind.i64.bits (IntKind.i64.wrap ((IntKind.i64.wrap (h0 * (31 : Int))) + (IntKind.i64.wrap (byteAt key i)))) &&& BitVec.ofInt IntKind.i64.bits (65535 : Int)).toNat) (IntKind.i64.wrap (i + (1 : Int))) w) (
    R (IntKind.i64.wrap (BitVec.ofInt IntKind.i64.bits h0 &&& BitVec.ofInt IntKind.i64.bits (7 : Int)).toNat) w)
theorem kv_hash.L1b_eq (key : ByteArray) (h0 i : Int) (w : World)  (N1 : ByteArray → Int → Int → World → Prop) (R : Int → World → Prop)  :
    (
  Bm (decide (i < ((key.size : Nat) : Int))) (
    (0 ≤ i ∧ i < ((key.size : Nat) : Int)) ∧
    N1 key (IntKind.i64.wrap (BitVec.ofInt IntKind.i64.bits (IntKind.i64.wrap ((IntKind.i64.wrap (h0 * (31 : Int))) + (IntKind.i64.wrap (byteAt key i)))) &&& BitVec.ofInt IntKind.i64.bits (65535 : Int)).toNat) (IntKind.i64.wrap (i + (1 : Int))) w) (
    R (IntKind.i64.wrap (BitVec.ofInt IntKind.i64.bits h0 &&& BitVec.ofInt IntKind.i64.bits (7 : Int)).toNat) w)) = kstep Tryz.prog 23 Tryz.f277.results.toList (Tryz.f277.body.getD .skip) (kv_hash.RV R) (kvc Tryz.prog 23 Tryz.f277.results.toList (Tryz.f277.body.getD .skip) (kv_hash.RV R) [([(0, [1, 1, 0, 1, 0, 0]), (2, [1, 1, 0, 1, 0, 0]), (1, [0]), (0, [1, 1, 1])], fun σ w => dS (slotOf σ 0) fun key_ => dI .i64 (slotOf σ 3) fun h0_ => dI .i64 (slotOf σ 4) fun i_ => N1 key_ h0_ i_ w)] 2000) [(0, [1, 1, 0, 1, 0, 0]), (2, [1, 1, 0, 1, 0, 0]), (1, [0]), (0, [1, 1, 1])] [(0, .string key), (3, .int .i64 h0), (4, .int .i64 i)] w := by kernel_rfl
theorem kv_hash.L1b_sound {R : Int → World → Prop} {N1 : ByteArray → Int → Int → World → Prop} (hN1 : ∀ key h0 i w, N1 key h0 i w → KW Tryz.prog 277 23 (kv_hash.RV R) ([(0, [1, 1, 0, 1, 0, 0]), (2, [1, 1, 0, 1, 0, 0]), (1, [0]), (0, [1, 1, 1])].map (toItem (Tryz.f277.body.getD .skip))) [(0, .string key), (3, .int .i64 h0), (4, .int .i64 i)] w) (key : ByteArray) (h0 i : Int) (w : World) (h : kv_hash.L1b key h0 i w  N1 R) :
    KW Tryz.prog 277 23 (kv_hash.RV R) ([(0, [1, 1, 0, 1, 0, 0]), (2, [1, 1, 0, 1, 0, 0]), (1, [0]), (0, [1, 1, 1])].map (toItem (Tryz.f277.body.getD .skip))) [(0, .string key), (3, .int .i64 h0), (4, .int .i64 i)] w := by
  exact block_spec Tryz.func277 Tryz.mixed (stops_cons (fun σ w h => by
      obtain ⟨key_, e0, h⟩ := dS_elim h
      obtain ⟨h0_, e1, h⟩ := dI_elim h
      obtain ⟨i_, e2, h⟩ := dI_elim h
      exact (hN1 key_ h0_ i_ w h).weaken (Sub.cons (Sub.cons (Sub.cons (Sub.nil _) e2) e1) e0)) stops_nil) (Eq.mp (kv_hash.L1b_eq key h0 i w  N1 R ) h)
def kv_hash.L1 (key : ByteArray) (h0 i : Int) (w : World)  (R : Int → World → Prop) : Prop :=
  ∃ (I : Nat → ByteArray → Int → Int → World → Prop) (m : Nat), I m key h0 i w ∧ ∀ m key h0 i w, I m key h0 i w → kv_hash.L1b key h0 i w  (fun key' h0' i' w' => ∃ m', m' < m ∧ I m' key' h0' i' w') R
theorem kv_hash.L1_sound {R : Int → World → Prop}  (key : ByteArray) (h0 i : Int) (w : World) (h : kv_hash.L1 key h0 i w  R) :
    KW Tryz.prog 277 23 (kv_hash.RV R) ([(0, [1, 1, 0, 1, 0, 0]), (2, [1, 1, 0, 1, 0, 0]), (1, [0]), (0, [1, 1, 1])].map (toItem (Tryz.f277.body.getD .skip))) [(0, .string key), (3, .int .i64 h0), (4, .int .i64 i)] w := by
  obtain ⟨I, m, hBase, hr⟩ := h
  refine KW.loop (fun m σ w => ∃ (key : ByteArray) (h0 i : Int), σ = [(0, .string key), (3, .int .i64 h0), (4, .int .i64 i)] ∧ I m key h0 i w) ?_ m _ w ⟨key, h0, i, rfl, hBase⟩
  rintro m ih σ w ⟨key, h0, i, rfl, hI⟩
  exact kv_hash.L1b_sound  (N1 := fun key' h0' i' w' => ∃ m', m' < m ∧ I m' key' h0' i' w') (fun key' h0' i' w' hx => by obtain ⟨m', hlt, hI'⟩ := hx; exact ih m' hlt _ w' ⟨key', h0', i', rfl, hI'⟩) key h0 i w (hr m key h0 i w hI)
def kv_hash.B0 (key : ByteArray) (w : World)   (R : Int → World → Prop) : Prop :=
  kv_hash.L1 key ((key.size : Nat) : Int) (0 : Int) w  R
theorem kv_hash.B0_eq (key : ByteArray) (w : World)   (R : Int → World → Prop) (sL1 : ByteArray → Int → Int → World → Prop) :
    (
  sL1 key ((key.size : Nat) : Int) (0 : Int) w) = kstep Tryz.prog 23 Tryz.f277.results.toList (Tryz.f277.body.getD .skip) (kv_hash.RV R) (kvc Tryz.prog 23 Tryz.f277.results.toList (Tryz.f277.body.getD .skip) (kv_hash.RV R) [([(0, [1, 1, 0, 1, 0, 0]), (2, [1, 1, 0, 1, 0, 0]), (1, [0]), (0, [1, 1, 1])], fun σ w => dS (slotOf σ 0) fun key_ => dI .i64 (slotOf σ 3) fun h0_ => dI .i64 (slotOf σ 4) fun i_ => sL1 key_ h0_ i_ w)] 2000) [(0, [])] [(0, .string key)] w := by kernel_rfl
theorem kv_hash.B0_sound {R : Int → World → Prop}  (key : ByteArray) (w : World) (h : kv_hash.B0 key w   R) :
    KW Tryz.prog 277 23 (kv_hash.RV R) ([(0, [])].map (toItem (Tryz.f277.body.getD .skip))) [(0, .string key)] w := by
  exact block_spec Tryz.func277 Tryz.mixed (stops_cons (fun σ w h => by
      obtain ⟨key_, e0, h⟩ := dS_elim h
      obtain ⟨h0_, e1, h⟩ := dI_elim h
      obtain ⟨i_, e2, h⟩ := dI_elim h
      exact (kv_hash.L1_sound  key_ h0_ i_ w h).weaken (Sub.cons (Sub.cons (Sub.cons (Sub.nil _) e2) e1) e0)) stops_nil) (Eq.mp (kv_hash.B0_eq key w   R (fun key_ h0_ i_ w => kv_hash.L1 key_ h0_ i_ w  R)) h)
theorem kv_hash.sound (key : ByteArray) (w : World) (R : Int → World → Prop) (h : kv_hash.B0 key w R) : kv_hash.Call key w R := by
  have hc := calls_of_block (args := #[.string key]) Tryz.func277 (body := (Tryz.f277.body.getD .skip)) (by kernel_rfl) (by kernel_rfl) (args_slot _) (kv_hash.B0_sound key w h)
  exact hc.mono fun e w' he => by
    obtain ⟨v, rfl, hv⟩ := he
    exact kv_hash.RV_elim hv
def kv_keyIs.L1b (key : ByteArray) (c : Nat) (i : Int) (w : World)  (N1 : ByteArray → Nat → Int → World → Prop) (R : Bool → World → Prop) : Prop :=
  LdI .i64 ⟨c, 1, none⟩ w fun x18 =>
  Bm (decide (i < x18)) (
    (0 ≤ i ∧ i < ((2 : Nat) : Int)) ∧
    LdI .u8 (Addr.add ⟨c, 2, none⟩ (i.toNat * 1)) w.drew fun x25 =>
    (0 ≤ i ∧ i < ((key.size : Nat) : Int)) ∧
    Bm (x25 != (byteAt key i)) (
      R false w.drew) (
      N1 key c (IntKind.i64.wrap (i + (1 : Int))) w.drew)) (
    R true w)
theorem kv_keyIs.L1b_eq (key : ByteArray) (c : Nat) (i : Int) (w : World)  (N1 : ByteArray → Nat → Int → World → Prop) (R : Bool → World → Prop)  :
    (
  LdI .i64 ⟨c, 1, none⟩ w fun x18 =>
  Bm (decide (i < x18)) (
    (0 ≤ i ∧ i < ((2 : Nat) : Int)) ∧
    LdI .u8 (Addr.add ⟨c, 2, none⟩ (i.toNat * 1)) w.drew fun x25 =>
    (0 ≤ i ∧ i < ((key.size : Nat) : Int)) ∧
    Bm (x25 != (byteAt key i)) (
      R false w.drew) (
      N1 key c (IntKind.i64.wrap (i + (1 : Int))) w.drew)) (
    R true w)) = kstep Tryz.prog 30 Tryz.f278.results.toList (Tryz.f278.body.getD .skip) (kv_keyIs.RV R) (kvc Tryz.prog 30 Tryz.f278.results.toList (Tryz.f278.body.getD .skip) (kv_keyIs.RV R) [([(0, [1, 1, 0, 1, 0, 0]), (2, [1, 1, 0, 1, 0, 0]), (1, [0]), (0, [1, 1, 1])], fun σ w => dS (slotOf σ 1) fun key_ => dK (slotOf σ 2) fun c_ => dI .i64 (slotOf σ 5) fun i_ => N1 key_ c_ i_ w)] 2000) [(0, [1, 1, 0, 1, 0, 0]), (2, [1, 1, 0, 1, 0, 0]), (1, [0]), (0, [1, 1, 1])] [(1, .string key), (2, .pointer (some ⟨c, 0, none⟩)), (5, .int .i64 i)] w := by kernel_rfl
theorem kv_keyIs.L1b_sound {R : Bool → World → Prop} {N1 : ByteArray → Nat → Int → World → Prop} (hN1 : ∀ key c i w, N1 key c i w → KW Tryz.prog 278 30 (kv_keyIs.RV R) ([(0, [1, 1, 0, 1, 0, 0]), (2, [1, 1, 0, 1, 0, 0]), (1, [0]), (0, [1, 1, 1])].map (toItem (Tryz.f278.body.getD .skip))) [(1, .string key), (2, .pointer (some ⟨c, 0, none⟩)), (5, .int .i64 i)] w) (key : ByteArray) (c : Nat) (i : Int) (w : World) (h : kv_keyIs.L1b key c i w  N1 R) :
    KW Tryz.prog 278 30 (kv_keyIs.RV R) ([(0, [1, 1, 0, 1, 0, 0]), (2, [1, 1, 0, 1, 0, 0]), (1, [0]), (0, [1, 1, 1])].map (toItem (Tryz.f278.body.getD .skip))) [(1, .string key), (2, .pointer (some ⟨c, 0, none⟩)), (5, .int .i64 i)] w := by
  exact block_spec Tryz.func278 Tryz.mixed (stops_cons (fun σ w h => by
      obtain ⟨key_, e0, h⟩ := dS_elim h
      obtain ⟨c_, e1, h⟩ := dK_elim h
      obtain ⟨i_, e2, h⟩ := dI_elim h
      exact (hN1 key_ c_ i_ w h).weaken (Sub.cons (Sub.cons (Sub.cons (Sub.nil _) e2) e1) e0)) stops_nil) (Eq.mp (kv_keyIs.L1b_eq key c i w  N1 R ) h)
def kv_keyIs.L1 (key : ByteArray) (c : Nat) (i : Int) (w : World)  (R : Bool → World → Prop) : Prop :=
  ∃ (I : Nat → ByteArray → Nat → Int → World → Prop) (m : Nat), I m key c i w ∧ ∀ m key c i w, I m key c i w → kv_keyIs.L1b key c i w  (fun key' c' i' w' => ∃ m', m' < m ∧ I m' key' c' i' w') R
theorem kv_keyIs.L1_sound {R : Bool → World → Prop}  (key : ByteArray) (c : Nat) (i : Int) (w : World) (h : kv_keyIs.L1 key c i w  R) :
    KW Tryz.prog 278 30 (kv_keyIs.RV R) ([(0, [1, 1, 0, 1, 0, 0]), (2, [1, 1, 0, 1, 0, 0]), (1, [0]), (0, [1, 1, 1])].map (toItem (Tryz.f278.body.getD .skip))) [(1, .string key), (2, .pointer (some ⟨c, 0, none⟩)), (5, .int .i64 i)] w := by
  obtain ⟨I, m, hBase, hr⟩ := h
  refine KW.loop (fun m σ w => ∃ (key : ByteArray) (c : Nat) (i : Int), σ = [(1, .string key), (2, .pointer (some ⟨c, 0, none⟩)), (5, .int .i64 i)] ∧ I m key c i w) ?_ m _ w ⟨key, c, i, rfl, hBase⟩
  rintro m ih σ w ⟨key, c, i, rfl, hI⟩
  exact kv_keyIs.L1b_sound  (N1 := fun key' c' i' w' => ∃ m', m' < m ∧ I m' key' c' i' w') (fun key' c' i' w' hx => by obtain ⟨m', hlt, hI'⟩ := hx; exact ih m' hlt _ w' ⟨key', c', i', rfl, hI'⟩) key c i w (hr m key c i w hI)
def kv_keyIs.B1 (key : ByteArray) (c : Nat) (t15 : Bool) (w : World)   (R : Bool → World → Prop) : Prop :=
  Bm t15 (
    R false w) (
    kv_keyIs.L1 key c (0 : Int) w  R)
theorem kv_keyIs.B1_eq (key : ByteArray) (c : Nat) (t15 : Bool) (w : World)   (R : Bool → World → Prop) (sL1 : ByteArray → Nat → Int → World → Prop) :
    (
  Bm t15 (
    R false w) (
    sL1 key c (0 : Int) w)) = kstep Tryz.prog 30 Tryz.f278.results.toList (Tryz.f278.body.getD .skip) (kv_keyIs.RV R) (kvc Tryz.prog 30 Tryz.f278.results.toList (Tryz.f278.body.getD .skip) (kv_keyIs.RV R) [([(0, [1, 1, 0, 1, 0, 0]), (2, [1, 1, 0, 1, 0, 0]), (1, [0]), (0, [1, 1, 1])], fun σ w => dS (slotOf σ 1) fun key_ => dK (slotOf σ 2) fun c_ => dI .i64 (slotOf σ 5) fun i_ => sL1 key_ c_ i_ w)] 2000) [(0, [1, 0, 1]), (0, [1, 1])] [(1, .string key), (2, .pointer (some ⟨c, 0, none⟩)), (15, .bool t15)] w := by kernel_rfl
theorem kv_keyIs.B1_sound {R : Bool → World → Prop}  (key : ByteArray) (c : Nat) (t15 : Bool) (w : World) (h : kv_keyIs.B1 key c t15 w   R) :
    KW Tryz.prog 278 30 (kv_keyIs.RV R) ([(0, [1, 0, 1]), (0, [1, 1])].map (toItem (Tryz.f278.body.getD .skip))) [(1, .string key), (2, .pointer (some ⟨c, 0, none⟩)), (15, .bool t15)] w := by
  exact block_spec Tryz.func278 Tryz.mixed (stops_cons (fun σ w h => by
      obtain ⟨key_, e0, h⟩ := dS_elim h
      obtain ⟨c_, e1, h⟩ := dK_elim h
      obtain ⟨i_, e2, h⟩ := dI_elim h
      exact (kv_keyIs.L1_sound  key_ c_ i_ w h).weaken (Sub.cons (Sub.cons (Sub.cons (Sub.nil _) e2) e1) e0)) stops_nil) (Eq.mp (kv_keyIs.B1_eq key c t15 w   R (fun key_ c_ i_ w => kv_keyIs.L1 key_ c_ i_ w  R)) h)
def kv_keyIs.B0 (c_0 c_1 c_2 c_3 c_4 c_5 c_6 c_7 : Int) (key : ByteArray) (w : World)   (R : Bool → World → Prop) : Prop :=
  New (.cells #[.int .i64 c_0, .int .i64 c_1, .int .u8 c_2, .int .u8 c_3, .int .i64 c_4, .int .u8 c_5, .int .u8 c_6, .int .u8 c_7] 66) w fun c_ w1 =>
  LdI .i64 ⟨c_, 1, none⟩ w1 fun x7 =>
  Bm (x7 != ((key.size : Nat) : Int)) (
    kv_keyIs.B1 key c_ true w1  R) (
    LdI .i64 ⟨c_, 1, none⟩ w1 fun x13 =>
    kv_keyIs.B1 key c_ (decide (x13 > (2 : Int))) w1  R)
theorem kv_keyIs.B0_eq (c_0 c_1 c_2 c_3 c_4 c_5 c_6 c_7 : Int) (key : ByteArray) (w : World)   (R : Bool → World → Prop) (sB1 : ByteArray → Nat → Bool → World → Prop) :
    (
  New (.cells #[.int .i64 c_0, .int .i64 c_1, .int .u8 c_2, .int .u8 c_3, .int .i64 c_4, .int .u8 c_5, .int .u8 c_6, .int .u8 c_7] 66) w fun c_ w1 =>
  LdI .i64 ⟨c_, 1, none⟩ w1 fun x7 =>
  Bm (x7 != ((key.size : Nat) : Int)) (
    sB1 key c_ true w1) (
    LdI .i64 ⟨c_, 1, none⟩ w1 fun x13 =>
    sB1 key c_ (decide (x13 > (2 : Int))) w1)) = kstep Tryz.prog 30 Tryz.f278.results.toList (Tryz.f278.body.getD .skip) (kv_keyIs.RV R) (kvc Tryz.prog 30 Tryz.f278.results.toList (Tryz.f278.body.getD .skip) (kv_keyIs.RV R) [([(0, [1, 0, 1]), (0, [1, 1])], fun σ w => dS (slotOf σ 1) fun key_ => dK (slotOf σ 2) fun c_ => dB (slotOf σ 15) fun t15_ => sB1 key_ c_ t15_ w)] 2000) [(0, [])] [(0, .agg #[.int .i64 c_0, .int .i64 c_1, .int .u8 c_2, .int .u8 c_3, .int .i64 c_4, .int .u8 c_5, .int .u8 c_6, .int .u8 c_7]), (1, .string key)] w := by kernel_rfl
theorem kv_keyIs.B0_sound {R : Bool → World → Prop}  (c_0 c_1 c_2 c_3 c_4 c_5 c_6 c_7 : Int) (key : ByteArray) (w : World) (h : kv_keyIs.B0 c_0 c_1 c_2 c_3 c_4 c_5 c_6 c_7 key w   R) :
    KW Tryz.prog 278 30 (kv_keyIs.RV R) ([(0, [])].map (toItem (Tryz.f278.body.getD .skip))) [(0, .agg #[.int .i64 c_0, .int .i64 c_1, .int .u8 c_2, .int .u8 c_3, .int .i64 c_4, .int .u8 c_5, .int .u8 c_6, .int .u8 c_7]), (1, .string key)] w := by
  exact block_spec Tryz.func278 Tryz.mixed (stops_cons (fun σ w h => by
      obtain ⟨key_, e0, h⟩ := dS_elim h
      obtain ⟨c_, e1, h⟩ := dK_elim h
      obtain ⟨t15_, e2, h⟩ := dB_elim h
      exact (kv_keyIs.B1_sound  key_ c_ t15_ w h).weaken (Sub.cons (Sub.cons (Sub.cons (Sub.nil _) e2) e1) e0)) stops_nil) (Eq.mp (kv_keyIs.B0_eq c_0 c_1 c_2 c_3 c_4 c_5 c_6 c_7 key w   R (fun key_ c_ t15_ w => kv_keyIs.B1 key_ c_ t15_ w  R)) h)
theorem kv_keyIs.sound (c_0 c_1 c_2 c_3 c_4 c_5 c_6 c_7 : Int) (key : ByteArray) (w : World) (R : Bool → World → Prop) (h : kv_keyIs.B0 c_0 c_1 c_2 c_3 c_4 c_5 c_6 c_7 key w R) : kv_keyIs.Call c_0 c_1 c_2 c_3 c_4 c_5 c_6 c_7 key w R := by
  have hc := calls_of_block (args := #[.agg #[.int .i64 c_0, .int .i64 c_1, .int .u8 c_2, .int .u8 c_3, .int .i64 c_4, .int .u8 c_5, .int .u8 c_6, .int .u8 c_7], .string key]) Tryz.func278 (body := (Tryz.f278.body.getD .skip)) (by kernel_rfl) (by kernel_rfl) (args_slot _) (kv_keyIs.B0_sound c_0 c_1 c_2 c_3 c_4 c_5 c_6 c_7 key w h)
  exact hc.mono fun e w' he => by
    obtain ⟨v, rfl, hv⟩ := he
    exact kv_keyIs.RV_elim hv
def kv_next.B0 (i : Int) (w : World)   (R : Int → World → Prop) : Prop :=
  R (IntKind.i64.wrap (BitVec.ofInt IntKind.i64.bits (IntKind.i64.wrap (i + (1 : Int))) &&& BitVec.ofInt IntKind.i64.bits (7 : Int)).toNat) w
theorem kv_next.B0_eq (i : Int) (w : World)   (R : Int → World → Prop)  :
    (
  R (IntKind.i64.wrap (BitVec.ofInt IntKind.i64.bits (IntKind.i64.wrap (i + (1 : Int))) &&& BitVec.ofInt IntKind.i64.bits (7 : Int)).toNat) w) = kstep Tryz.prog 6 Tryz.f279.results.toList (Tryz.f279.body.getD .skip) (kv_next.RV R) (kvc Tryz.prog 6 Tryz.f279.results.toList (Tryz.f279.body.getD .skip) (kv_next.RV R) [] 2000) [(0, [])] [(0, .int .i64 i)] w := by kernel_rfl
theorem kv_next.B0_sound {R : Int → World → Prop}  (i : Int) (w : World) (h : kv_next.B0 i w   R) :
    KW Tryz.prog 279 6 (kv_next.RV R) ([(0, [])].map (toItem (Tryz.f279.body.getD .skip))) [(0, .int .i64 i)] w := by
  exact block_spec Tryz.func279 Tryz.mixed stops_nil (Eq.mp (kv_next.B0_eq i w   R ) h)
theorem kv_next.sound (i : Int) (w : World) (R : Int → World → Prop) (h : kv_next.B0 i w R) : kv_next.Call i w R := by
  have hc := calls_of_block (args := #[.int .i64 i]) Tryz.func279 (body := (Tryz.f279.body.getD .skip)) (by kernel_rfl) (by kernel_rfl) (args_slot _) (kv_next.B0_sound i w h)
  exact hc.mono fun e w' he => by
    obtain ⟨v, rfl, hv⟩ := he
    exact kv_next.RV_elim hv
def node_narrow.B0 (v : Int) (w : World)   (R : Bool → World → Prop) : Prop :=
  Bm (decide (v ≥ (0 : Int))) (
    R (decide (v ≤ (72057594037927936 : Int))) w) (
    R false w)
theorem node_narrow.B0_eq (v : Int) (w : World)   (R : Bool → World → Prop)  :
    (
  Bm (decide (v ≥ (0 : Int))) (
    R (decide (v ≤ (72057594037927936 : Int))) w) (
    R false w)) = kstep Tryz.prog 9 Tryz.f280.results.toList (Tryz.f280.body.getD .skip) (node_narrow.RV R) (kvc Tryz.prog 9 Tryz.f280.results.toList (Tryz.f280.body.getD .skip) (node_narrow.RV R) [] 2000) [(0, [])] [(0, .int .i64 v)] w := by kernel_rfl
theorem node_narrow.B0_sound {R : Bool → World → Prop}  (v : Int) (w : World) (h : node_narrow.B0 v w   R) :
    KW Tryz.prog 280 9 (node_narrow.RV R) ([(0, [])].map (toItem (Tryz.f280.body.getD .skip))) [(0, .int .i64 v)] w := by
  exact block_spec Tryz.func280 Tryz.mixed stops_nil (Eq.mp (node_narrow.B0_eq v w   R ) h)
theorem node_narrow.sound (v : Int) (w : World) (R : Bool → World → Prop) (h : node_narrow.B0 v w R) : node_narrow.Call v w R := by
  have hc := calls_of_block (args := #[.int .i64 v]) Tryz.func280 (body := (Tryz.f280.body.getD .skip)) (by kernel_rfl) (by kernel_rfl) (args_slot _) (node_narrow.B0_sound v w h)
  exact hc.mono fun e w' he => by
    obtain ⟨v, rfl, hv⟩ := he
    exact node_narrow.RV_elim hv
def store_next.B0 (old : Int) (w : World)   (R : Int → World → Prop) : Prop :=
  (255 : Int) ≠ 0 ∧
  R (IntKind.u8.wrap (IntKind.i64.wrap (((IntKind.i64.wrap old).tmod (255 : Int)) + (1 : Int)))) w
theorem store_next.B0_eq (old : Int) (w : World)   (R : Int → World → Prop)  :
    (
  (255 : Int) ≠ 0 ∧
  R (IntKind.u8.wrap (IntKind.i64.wrap (((IntKind.i64.wrap old).tmod (255 : Int)) + (1 : Int)))) w) = kstep Tryz.prog 8 Tryz.f281.results.toList (Tryz.f281.body.getD .skip) (store_next.RV R) (kvc Tryz.prog 8 Tryz.f281.results.toList (Tryz.f281.body.getD .skip) (store_next.RV R) [] 2000) [(0, [])] [(0, .int .u8 old)] w := by kernel_rfl
theorem store_next.B0_sound {R : Int → World → Prop}  (old : Int) (w : World) (h : store_next.B0 old w   R) :
    KW Tryz.prog 281 8 (store_next.RV R) ([(0, [])].map (toItem (Tryz.f281.body.getD .skip))) [(0, .int .u8 old)] w := by
  exact block_spec Tryz.func281 Tryz.mixed stops_nil (Eq.mp (store_next.B0_eq old w   R ) h)
theorem store_next.sound (old : Int) (w : World) (R : Int → World → Prop) (h : store_next.B0 old w R) : store_next.Call old w R := by
  have hc := calls_of_block (args := #[.int .u8 old]) Tryz.func281 (body := (Tryz.f281.body.getD .skip)) (by kernel_rfl) (by kernel_rfl) (args_slot _) (store_next.B0_sound old w h)
  exact hc.mono fun e w' he => by
    obtain ⟨v, rfl, hv⟩ := he
    exact store_next.RV_elim hv
def diskm_Disk_Write.B1 (d : Option Addr) (b : Int) (x : ByteArray) (t17 : Bool) (w : World)   (R : Int → World → Prop) : Prop :=
  Bm t17 (
    R (1 : Int) w) (
    Pn d fun a =>
    LdL a w fun x21_b x21_l x21_c =>
    Pn x21_b fun a_1 =>
    (0 ≤ b ∧ b < ((x21_l : Nat) : Int)) ∧
    Sts [.string x] (Addr.add a_1 (b.toNat * 1)) 0 w fun w1 =>
    Pn d fun a_2 =>
    LdL (a_2.add 2) w1.drew fun x29_b x29_l x29_c =>
    (0 ≤ (32 : Int) ∧ (32 : Int) ≤ ((x.size : Nat) : Int)) ∧
    New (.cells #[.int .i64 b, .int .i64 (0 : Int), .string (x.extract ((0 : Nat) : Int).toNat (32 : Int).toNat)] 171) w1.drew fun b34 w2 =>
    w2.cell? (a_2.add 2) = some (.slice x29_b x29_l x29_c) ∧
    Append 171 (.agg #[.int .i64 (0 : Int), .int .i64 (0 : Int), .string (ByteArray.mk #[])]) 3 32 x29_b x29_l x29_c (some ⟨b34, 0, none⟩) 1 w2 fun b35 c35 w3 =>
    Pn d fun a_3 =>
    Sts [.slice b35 (x29_l + 1) c35] (a_3.add 2) 0 w3 fun w4 =>
    Pn d fun a_4 =>
    LdL (a_4.add 2) w4.drew fun x42_b x42_l x42_c =>
    (0 ≤ (32 : Int) ∧ (32 : Int) ≤ ((x.size : Nat) : Int)) ∧
    New (.cells #[.int .i64 b, .int .i64 (1 : Int), .string (x.extract (32 : Int).toNat ((x.size : Nat) : Int).toNat)] 171) w4.drew fun b47 w5 =>
    w5.cell? (a_4.add 2) = some (.slice x42_b x42_l x42_c) ∧
    Append 171 (.agg #[.int .i64 (0 : Int), .int .i64 (0 : Int), .string (ByteArray.mk #[])]) 3 32 x42_b x42_l x42_c (some ⟨b47, 0, none⟩) 1 w5 fun b48 c48 w6 =>
    Pn d fun a_5 =>
    Sts [.slice b48 (x42_l + 1) c48] (a_5.add 2) 0 w6 fun w7 =>
    R (0 : Int) w7)
theorem diskm_Disk_Write.B1_eq (d : Option Addr) (b : Int) (x : ByteArray) (t17 : Bool) (w : World)   (R : Int → World → Prop)  :
    (
  Bm t17 (
    R (1 : Int) w) (
    Pn d fun a =>
    LdL a w fun x21_b x21_l x21_c =>
    Pn x21_b fun a_1 =>
    (0 ≤ b ∧ b < ((x21_l : Nat) : Int)) ∧
    Sts [.string x] (Addr.add a_1 (b.toNat * 1)) 0 w fun w1 =>
    Pn d fun a_2 =>
    LdL (a_2.add 2) w1.drew fun x29_b x29_l x29_c =>
    (0 ≤ (32 : Int) ∧ (32 : Int) ≤ ((x.size : Nat) : Int)) ∧
    New (.cells #[.int .i64 b, .int .i64 (0 : Int), .string (x.extract ((0 : Nat) : Int).toNat (32 : Int).toNat)] 171) w1.drew fun b34 w2 =>
    w2.cell? (a_2.add 2) = some (.slice x29_b x29_l x29_c) ∧
    Append 171 (.agg #[.int .i64 (0 : Int), .int .i64 (0 : Int), .string (ByteArray.mk #[])]) 3 32 x29_b x29_l x29_c (some ⟨b34, 0, none⟩) 1 w2 fun b35 c35 w3 =>
    Pn d fun a_3 =>
    Sts [.slice b35 (x29_l + 1) c35] (a_3.add 2) 0 w3 fun w4 =>
    Pn d fun a_4 =>
    LdL (a_4.add 2) w4.drew fun x42_b x42_l x42_c =>
    (0 ≤ (32 : Int) ∧ (32 : Int) ≤ ((x.size : Nat) : Int)) ∧
    New (.cells #[.int .i64 b, .int .i64 (1 : Int), .string (x.extract (32 : Int).toNat ((x.size : Nat) : Int).toNat)] 171) w4.drew fun b47 w5 =>
    w5.cell? (a_4.add 2) = some (.slice x42_b x42_l x42_c) ∧
    Append 171 (.agg #[.int .i64 (0 : Int), .int .i64 (0 : Int), .string (ByteArray.mk #[])]) 3 32 x42_b x42_l x42_c (some ⟨b47, 0, none⟩) 1 w5 fun b48 c48 w6 =>
    Pn d fun a_5 =>
    Sts [.slice b48 (x42_l + 1) c48] (a_5.add 2) 0 w6 fun w7 =>
    R (0 : Int) w7)) = kstep Tryz.prog 51 Tryz.f282.results.toList (Tryz.f282.body.getD .skip) (diskm_Disk_Write.RV R) (kvc Tryz.prog 51 Tryz.f282.results.toList (Tryz.f282.body.getD .skip) (diskm_Disk_Write.RV R) [] 2000) [(0, [1, 0, 1]), (0, [1, 1])] [(0, .pointer d), (1, .int .i64 b), (2, .string x), (17, .bool t17)] w := by kernel_rfl
theorem diskm_Disk_Write.B1_sound {R : Int → World → Prop}  (d : Option Addr) (b : Int) (x : ByteArray) (t17 : Bool) (w : World) (h : diskm_Disk_Write.B1 d b x t17 w   R) :
    KW Tryz.prog 282 51 (diskm_Disk_Write.RV R) ([(0, [1, 0, 1]), (0, [1, 1])].map (toItem (Tryz.f282.body.getD .skip))) [(0, .pointer d), (1, .int .i64 b), (2, .string x), (17, .bool t17)] w := by
  exact block_spec Tryz.func282 Tryz.mixed stops_nil (Eq.mp (diskm_Disk_Write.B1_eq d b x t17 w   R ) h)
def diskm_Disk_Write.B0 (d : Option Addr) (b : Int) (x : ByteArray) (w : World)   (R : Int → World → Prop) : Prop :=
  Bm (decide (b < (0 : Int))) (
    diskm_Disk_Write.B1 d b x true w  R) (
    Bm (decide (b ≥ (14 : Int))) (
      diskm_Disk_Write.B1 d b x true w  R) (
      diskm_Disk_Write.B1 d b x (((x.size : Nat) : Int) != (64 : Int)) w  R))
theorem diskm_Disk_Write.B0_eq (d : Option Addr) (b : Int) (x : ByteArray) (w : World)   (R : Int → World → Prop) (sB1 : Option Addr → Int → ByteArray → Bool → World → Prop) :
    (
  Bm (decide (b < (0 : Int))) (
    sB1 d b x true w) (
    Bm (decide (b ≥ (14 : Int))) (
      sB1 d b x true w) (
      sB1 d b x (((x.size : Nat) : Int) != (64 : Int)) w))) = kstep Tryz.prog 51 Tryz.f282.results.toList (Tryz.f282.body.getD .skip) (diskm_Disk_Write.RV R) (kvc Tryz.prog 51 Tryz.f282.results.toList (Tryz.f282.body.getD .skip) (diskm_Disk_Write.RV R) [([(0, [1, 0, 1]), (0, [1, 1])], fun σ w => dP (slotOf σ 0) fun d_ => dI .i64 (slotOf σ 1) fun b_ => dS (slotOf σ 2) fun x_ => dB (slotOf σ 17) fun t17_ => sB1 d_ b_ x_ t17_ w)] 2000) [(0, [])] [(0, .pointer d), (1, .int .i64 b), (2, .string x)] w := by kernel_rfl
theorem diskm_Disk_Write.B0_sound {R : Int → World → Prop}  (d : Option Addr) (b : Int) (x : ByteArray) (w : World) (h : diskm_Disk_Write.B0 d b x w   R) :
    KW Tryz.prog 282 51 (diskm_Disk_Write.RV R) ([(0, [])].map (toItem (Tryz.f282.body.getD .skip))) [(0, .pointer d), (1, .int .i64 b), (2, .string x)] w := by
  exact block_spec Tryz.func282 Tryz.mixed (stops_cons (fun σ w h => by
      obtain ⟨d_, e0, h⟩ := dP_elim h
      obtain ⟨b_, e1, h⟩ := dI_elim h
      obtain ⟨x_, e2, h⟩ := dS_elim h
      obtain ⟨t17_, e3, h⟩ := dB_elim h
      exact (diskm_Disk_Write.B1_sound  d_ b_ x_ t17_ w h).weaken (Sub.cons (Sub.cons (Sub.cons (Sub.cons (Sub.nil _) e3) e2) e1) e0)) stops_nil) (Eq.mp (diskm_Disk_Write.B0_eq d b x w   R (fun d_ b_ x_ t17_ w => diskm_Disk_Write.B1 d_ b_ x_ t17_ w  R)) h)
theorem diskm_Disk_Write.sound (d : Option Addr) (b : Int) (x : ByteArray) (w : World) (R : Int → World → Prop) (h : diskm_Disk_Write.B0 d b x w R) : diskm_Disk_Write.Call d b x w R := by
  have hc := calls_of_block (args := #[.pointer d, .int .i64 b, .string x]) Tryz.func282 (body := (Tryz.f282.body.getD .skip)) (by kernel_rfl) (by kernel_rfl) (args_slot _) (diskm_Disk_Write.B0_sound d b x w h)
  exact hc.mono fun e w' he => by
    obtain ⟨v, rfl, hv⟩ := he
    exact diskm_Disk_Write.RV_elim hv
def store_encMeta.B0 (m0_0 : Bool) (m0_1 m0_2 m0_3 : Int) (w : World)   (R : Option Addr → Nat → Nat → World → Prop) : Prop :=
  New (.cells #[.bool m0_0, .int .i64 m0_1, .int .i64 m0_2, .int .i64 m0_3] 180) w fun m0_ w1 =>
  Make 5 (.int .u8 (0 : Int)) 1 1 (64 : Int) (64 : Int) w1 fun b4 w2 =>
  LdI .i64 ⟨m0_, 1, none⟩ w2 fun x7 =>
  store_put8.Call (some ⟨b4, 0, none⟩) 64 64 (1 : Int) x7 w2 fun r8_b r8_l r8_c w3 =>
  LdI .i64 ⟨m0_, 2, none⟩ w3 fun x11 =>
  store_put8.Call r8_b r8_l r8_c (9 : Int) x11 w3 fun r12_b r12_l r12_c w4 =>
  LdI .i64 ⟨m0_, 3, none⟩ w4 fun x15 =>
  Pn r12_b fun a =>
  (0 ≤ (32 : Int) ∧ (32 : Int) < ((r12_l : Nat) : Int)) ∧
  Sts [.int .u8 (IntKind.u8.wrap (IntKind.i64.wrap (x15 + (1 : Int))))] (a.add 32) 0 w4 fun w5 =>
  R r12_b r12_l r12_c w5
theorem store_encMeta.B0_eq (m0_0 : Bool) (m0_1 m0_2 m0_3 : Int) (w : World)   (R : Option Addr → Nat → Nat → World → Prop)  :
    (
  New (.cells #[.bool m0_0, .int .i64 m0_1, .int .i64 m0_2, .int .i64 m0_3] 180) w fun m0_ w1 =>
  Make 5 (.int .u8 (0 : Int)) 1 1 (64 : Int) (64 : Int) w1 fun b4 w2 =>
  LdI .i64 ⟨m0_, 1, none⟩ w2 fun x7 =>
  store_put8.Call (some ⟨b4, 0, none⟩) 64 64 (1 : Int) x7 w2 fun r8_b r8_l r8_c w3 =>
  LdI .i64 ⟨m0_, 2, none⟩ w3 fun x11 =>
  store_put8.Call r8_b r8_l r8_c (9 : Int) x11 w3 fun r12_b r12_l r12_c w4 =>
  LdI .i64 ⟨m0_, 3, none⟩ w4 fun x15 =>
  Pn r12_b fun a =>
  (0 ≤ (32 : Int) ∧ (32 : Int) < ((r12_l : Nat) : Int)) ∧
  Sts [.int .u8 (IntKind.u8.wrap (IntKind.i64.wrap (x15 + (1 : Int))))] (a.add 32) 0 w4 fun w5 =>
  R r12_b r12_l r12_c w5) = kstep Tryz.prog 20 Tryz.f283.results.toList (Tryz.f283.body.getD .skip) (store_encMeta.RV R) (kvc Tryz.prog 20 Tryz.f283.results.toList (Tryz.f283.body.getD .skip) (store_encMeta.RV R) [] 2000) [(0, [])] [(0, .agg #[.bool m0_0, .int .i64 m0_1, .int .i64 m0_2, .int .i64 m0_3])] w := by kernel_rfl
theorem store_encMeta.B0_sound {R : Option Addr → Nat → Nat → World → Prop}  (m0_0 : Bool) (m0_1 m0_2 m0_3 : Int) (w : World) (h : store_encMeta.B0 m0_0 m0_1 m0_2 m0_3 w   R) :
    KW Tryz.prog 283 20 (store_encMeta.RV R) ([(0, [])].map (toItem (Tryz.f283.body.getD .skip))) [(0, .agg #[.bool m0_0, .int .i64 m0_1, .int .i64 m0_2, .int .i64 m0_3])] w := by
  exact block_spec Tryz.func283 Tryz.mixed stops_nil (Eq.mp (store_encMeta.B0_eq m0_0 m0_1 m0_2 m0_3 w   R ) h)
theorem store_encMeta.sound (m0_0 : Bool) (m0_1 m0_2 m0_3 : Int) (w : World) (R : Option Addr → Nat → Nat → World → Prop) (h : store_encMeta.B0 m0_0 m0_1 m0_2 m0_3 w R) : store_encMeta.Call m0_0 m0_1 m0_2 m0_3 w R := by
  have hc := calls_of_block (args := #[.agg #[.bool m0_0, .int .i64 m0_1, .int .i64 m0_2, .int .i64 m0_3]]) Tryz.func283 (body := (Tryz.f283.body.getD .skip)) (by kernel_rfl) (by kernel_rfl) (args_slot _) (store_encMeta.B0_sound m0_0 m0_1 m0_2 m0_3 w h)
  exact hc.mono fun e w' he => by
    obtain ⟨v, rfl, hv⟩ := he
    exact store_encMeta.RV_elim hv
def kv_KV_put.B0 (k : Option Addr) (i c_0 c_1 c_2 : Int) (c_3 c_4 c_5 : ByteArray) (w : World)   (R : Int → ByteArray → World → Prop) : Prop :=
  New (.cells #[.int .i64 c_0, .int .i64 c_1, .int .i64 c_2, .string c_3, .string c_4, .string c_5] 87) w fun c_ w1 =>
  New (.cells #[.int .i64 (0 : Int), .string (ByteArray.mk #[])] 93) w1 fun b6 w2 =>
  Bm (decide (i ≥ (0 : Int))) (
    LdS ⟨c_, 3, none⟩ w2.drew fun x12 =>
    LdS ⟨c_, 4, none⟩ w2.drew fun x14 =>
    Pn k fun a =>
    kv_mkCell.Call x12 x14 w2.drew fun r15_0 r15_1 r15_2 r15_3 r15_4 r15_5 r15_6 r15_7 w3 =>
    (0 ≤ i ∧ i < ((8 : Nat) : Int)) ∧
    Sts [.int .i64 r15_0, .int .i64 r15_1, .int .u8 r15_2, .int .u8 r15_3, .int .i64 r15_4, .int .u8 r15_5, .int .u8 r15_6, .int .u8 r15_7] (Addr.add a (i.toNat * 8)) 0 w3 fun w4 =>
    Sts [.int .i64 (0 : Int), .string (ByteArray.mk #[])] ⟨b6, 0, none⟩ 0 w4 fun w5 =>
    LdI .i64 ⟨b6, 0, none⟩ w5 fun r_0 =>
    LdS ⟨b6, 1, none⟩ w5 fun r_1 =>
    R r_0 r_1 w5) (
    Pn k fun a_1 =>
    LdI .i64 (a_1.add 64) w2 fun x25 =>
    Bm (decide (x25 ≥ (4 : Int))) (
      Sts [.int .i64 (6 : Int), .string (ByteArray.mk #[])] ⟨b6, 0, none⟩ 0 w2 fun w6 =>
      LdI .i64 ⟨b6, 0, none⟩ w6 fun r_0_1 =>
      LdS ⟨b6, 1, none⟩ w6 fun r_1_1 =>
      R r_0_1 r_1_1 w6) (
      Pn k fun a_2 =>
      LdS ⟨c_, 3, none⟩ w2.drew fun x32 =>
      LdS ⟨c_, 4, none⟩ w2.drew fun x34 =>
      kv_table_add.Call (some a_2) x32 x34 w2.drew fun w7 =>
      Sts [.int .i64 (0 : Int), .string (ByteArray.mk #[])] ⟨b6, 0, none⟩ 0 w7 fun w8 =>
      LdI .i64 ⟨b6, 0, none⟩ w8 fun r_0_2 =>
      LdS ⟨b6, 1, none⟩ w8 fun r_1_2 =>
      R r_0_2 r_1_2 w8))
theorem kv_KV_put.B0_eq (k : Option Addr) (i c_0 c_1 c_2 : Int) (c_3 c_4 c_5 : ByteArray) (w : World)   (R : Int → ByteArray → World → Prop)  :
    (
  New (.cells #[.int .i64 c_0, .int .i64 c_1, .int .i64 c_2, .string c_3, .string c_4, .string c_5] 87) w fun c_ w1 =>
  New (.cells #[.int .i64 (0 : Int), .string (ByteArray.mk #[])] 93) w1 fun b6 w2 =>
  Bm (decide (i ≥ (0 : Int))) (
    LdS ⟨c_, 3, none⟩ w2.drew fun x12 =>
    LdS ⟨c_, 4, none⟩ w2.drew fun x14 =>
    Pn k fun a =>
    kv_mkCell.Call x12 x14 w2.drew fun r15_0 r15_1 r15_2 r15_3 r15_4 r15_5 r15_6 r15_7 w3 =>
    (0 ≤ i ∧ i < ((8 : Nat) : Int)) ∧
    Sts [.int .i64 r15_0, .int .i64 r15_1, .int .u8 r15_2, .int .u8 r15_3, .int .i64 r15_4, .int .u8 r15_5, .int .u8 r15_6, .int .u8 r15_7] (Addr.add a (i.toNat * 8)) 0 w3 fun w4 =>
    Sts [.int .i64 (0 : Int), .string (ByteArray.mk #[])] ⟨b6, 0, none⟩ 0 w4 fun w5 =>
    LdI .i64 ⟨b6, 0, none⟩ w5 fun r_0 =>
    LdS ⟨b6, 1, none⟩ w5 fun r_1 =>
    R r_0 r_1 w5) (
    Pn k fun a_1 =>
    LdI .i64 (a_1.add 64) w2 fun x25 =>
    Bm (decide (x25 ≥ (4 : Int))) (
      Sts [.int .i64 (6 : Int), .string (ByteArray.mk #[])] ⟨b6, 0, none⟩ 0 w2 fun w6 =>
      LdI .i64 ⟨b6, 0, none⟩ w6 fun r_0_1 =>
      LdS ⟨b6, 1, none⟩ w6 fun r_1_1 =>
      R r_0_1 r_1_1 w6) (
      Pn k fun a_2 =>
      LdS ⟨c_, 3, none⟩ w2.drew fun x32 =>
      LdS ⟨c_, 4, none⟩ w2.drew fun x34 =>
      kv_table_add.Call (some a_2) x32 x34 w2.drew fun w7 =>
      Sts [.int .i64 (0 : Int), .string (ByteArray.mk #[])] ⟨b6, 0, none⟩ 0 w7 fun w8 =>
      LdI .i64 ⟨b6, 0, none⟩ w8 fun r_0_2 =>
      LdS ⟨b6, 1, none⟩ w8 fun r_1_2 =>
      R r_0_2 r_1_2 w8))) = kstep Tryz.prog 37 Tryz.f284.results.toList (Tryz.f284.body.getD .skip) (kv_KV_put.RV R) (kvc Tryz.prog 37 Tryz.f284.results.toList (Tryz.f284.body.getD .skip) (kv_KV_put.RV R) [] 2000) [(0, [])] [(0, .pointer k), (1, .int .i64 i), (2, .agg #[.int .i64 c_0, .int .i64 c_1, .int .i64 c_2, .string c_3, .string c_4, .string c_5])] w := by kernel_rfl
theorem kv_KV_put.B0_sound {R : Int → ByteArray → World → Prop}  (k : Option Addr) (i c_0 c_1 c_2 : Int) (c_3 c_4 c_5 : ByteArray) (w : World) (h : kv_KV_put.B0 k i c_0 c_1 c_2 c_3 c_4 c_5 w   R) :
    KW Tryz.prog 284 37 (kv_KV_put.RV R) ([(0, [])].map (toItem (Tryz.f284.body.getD .skip))) [(0, .pointer k), (1, .int .i64 i), (2, .agg #[.int .i64 c_0, .int .i64 c_1, .int .i64 c_2, .string c_3, .string c_4, .string c_5])] w := by
  exact block_spec Tryz.func284 Tryz.mixed stops_nil (Eq.mp (kv_KV_put.B0_eq k i c_0 c_1 c_2 c_3 c_4 c_5 w   R ) h)
theorem kv_KV_put.sound (k : Option Addr) (i c_0 c_1 c_2 : Int) (c_3 c_4 c_5 : ByteArray) (w : World) (R : Int → ByteArray → World → Prop) (h : kv_KV_put.B0 k i c_0 c_1 c_2 c_3 c_4 c_5 w R) : kv_KV_put.Call k i c_0 c_1 c_2 c_3 c_4 c_5 w R := by
  have hc := calls_of_block (args := #[.pointer k, .int .i64 i, .agg #[.int .i64 c_0, .int .i64 c_1, .int .i64 c_2, .string c_3, .string c_4, .string c_5]]) Tryz.func284 (body := (Tryz.f284.body.getD .skip)) (by kernel_rfl) (by kernel_rfl) (args_slot _) (kv_KV_put.B0_sound k i c_0 c_1 c_2 c_3 c_4 c_5 w h)
  exact hc.mono fun e w' he => by
    obtain ⟨v, rfl, hv⟩ := he
    exact kv_KV_put.RV_elim hv
def kv_table_drop.B0 (t : Option Addr) (i : Int) (w : World)   (R : World → Prop) : Prop :=
  Pn t fun a =>
  (0 ≤ i ∧ i < ((8 : Nat) : Int)) ∧
  Sts [.int .i64 (2 : Int), .int .i64 (0 : Int), .int .u8 (0 : Int), .int .u8 (0 : Int), .int .i64 (0 : Int), .int .u8 (0 : Int), .int .u8 (0 : Int), .int .u8 (0 : Int)] (Addr.add a (i.toNat * 8)) 0 w fun w1 =>
  Pn t fun a_1 =>
  LdI .i64 (a_1.add 64) w1 fun x13 =>
  Pn t fun a_2 =>
  Sts [.int .i64 (IntKind.i64.wrap (x13 - (1 : Int)))] (a_2.add 64) 0 w1 fun w2 =>
  Pn t fun a_3 =>
  LdI .i64 (a_3.add 65) w2 fun x20 =>
  Pn t fun a_4 =>
  Sts [.int .i64 (IntKind.i64.wrap (x20 + (1 : Int)))] (a_4.add 65) 0 w2 fun w3 =>
  R  w3
theorem kv_table_drop.B0_eq (t : Option Addr) (i : Int) (w : World)   (R : World → Prop)  :
    (
  Pn t fun a =>
  (0 ≤ i ∧ i < ((8 : Nat) : Int)) ∧
  Sts [.int .i64 (2 : Int), .int .i64 (0 : Int), .int .u8 (0 : Int), .int .u8 (0 : Int), .int .i64 (0 : Int), .int .u8 (0 : Int), .int .u8 (0 : Int), .int .u8 (0 : Int)] (Addr.add a (i.toNat * 8)) 0 w fun w1 =>
  Pn t fun a_1 =>
  LdI .i64 (a_1.add 64) w1 fun x13 =>
  Pn t fun a_2 =>
  Sts [.int .i64 (IntKind.i64.wrap (x13 - (1 : Int)))] (a_2.add 64) 0 w1 fun w2 =>
  Pn t fun a_3 =>
  LdI .i64 (a_3.add 65) w2 fun x20 =>
  Pn t fun a_4 =>
  Sts [.int .i64 (IntKind.i64.wrap (x20 + (1 : Int)))] (a_4.add 65) 0 w2 fun w3 =>
  R  w3) = kstep Tryz.prog 24 Tryz.f285.results.toList (Tryz.f285.body.getD .skip) (kv_table_drop.RV R) (kvc Tryz.prog 24 Tryz.f285.results.toList (Tryz.f285.body.getD .skip) (kv_table_drop.RV R) [] 2000) [(0, [])] [(0, .pointer t), (1, .int .i64 i)] w := by kernel_rfl
theorem kv_table_drop.B0_sound {R : World → Prop}  (t : Option Addr) (i : Int) (w : World) (h : kv_table_drop.B0 t i w   R) :
    KW Tryz.prog 285 24 (kv_table_drop.RV R) ([(0, [])].map (toItem (Tryz.f285.body.getD .skip))) [(0, .pointer t), (1, .int .i64 i)] w := by
  exact block_spec Tryz.func285 Tryz.mixed stops_nil (Eq.mp (kv_table_drop.B0_eq t i w   R ) h)
theorem kv_table_drop.sound (t : Option Addr) (i : Int) (w : World) (R : World → Prop) (h : kv_table_drop.B0 t i w R) : kv_table_drop.Call t i w R := by
  have hc := calls_of_block (args := #[.pointer t, .int .i64 i]) Tryz.func285 (body := (Tryz.f285.body.getD .skip)) (by kernel_rfl) (by kernel_rfl) (args_slot _) (kv_table_drop.B0_sound t i w h)
  exact hc.mono fun e w' he => by
    obtain ⟨v, rfl, hv⟩ := he
    exact kv_table_drop.RV_elim hv
def rlog_Log_TruncateFrom.B0 (l : Option Addr) (i : Int) (w : World)   (R : Int → World → Prop) : Prop :=
  Pn l fun a =>
  LdI .i64 (a.add 3) w fun x9 =>
  Bm (decide (i ≤ x9)) (
    R (7 : Int) w) (
    rlog_Log_dropFrom.Call l i w fun r13 w1 =>
    R r13 w1)
theorem rlog_Log_TruncateFrom.B0_eq (l : Option Addr) (i : Int) (w : World)   (R : Int → World → Prop)  :
    (
  Pn l fun a =>
  LdI .i64 (a.add 3) w fun x9 =>
  Bm (decide (i ≤ x9)) (
    R (7 : Int) w) (
    rlog_Log_dropFrom.Call l i w fun r13 w1 =>
    R r13 w1)) = kstep Tryz.prog 14 Tryz.f286.results.toList (Tryz.f286.body.getD .skip) (rlog_Log_TruncateFrom.RV R) (kvc Tryz.prog 14 Tryz.f286.results.toList (Tryz.f286.body.getD .skip) (rlog_Log_TruncateFrom.RV R) [] 2000) [(0, [])] [(0, .pointer l), (1, .int .i64 i)] w := by kernel_rfl
theorem rlog_Log_TruncateFrom.B0_sound {R : Int → World → Prop}  (l : Option Addr) (i : Int) (w : World) (h : rlog_Log_TruncateFrom.B0 l i w   R) :
    KW Tryz.prog 286 14 (rlog_Log_TruncateFrom.RV R) ([(0, [])].map (toItem (Tryz.f286.body.getD .skip))) [(0, .pointer l), (1, .int .i64 i)] w := by
  exact block_spec Tryz.func286 Tryz.mixed stops_nil (Eq.mp (rlog_Log_TruncateFrom.B0_eq l i w   R ) h)
theorem rlog_Log_TruncateFrom.sound (l : Option Addr) (i : Int) (w : World) (R : Int → World → Prop) (h : rlog_Log_TruncateFrom.B0 l i w R) : rlog_Log_TruncateFrom.Call l i w R := by
  have hc := calls_of_block (args := #[.pointer l, .int .i64 i]) Tryz.func286 (body := (Tryz.f286.body.getD .skip)) (by kernel_rfl) (by kernel_rfl) (args_slot _) (rlog_Log_TruncateFrom.B0_sound l i w h)
  exact hc.mono fun e w' he => by
    obtain ⟨v, rfl, hv⟩ := he
    exact rlog_Log_TruncateFrom.RV_elim hv
def store_chunk.B1 (data : ByteArray) (k : Int) (b_b : Option Addr) (b_l b_c : Nat) (i : Int) (t18 : Bool) (w : World) (N1 : ByteArray → Int → Option Addr → Nat → Nat → Int → World → Prop)  (R : ByteArray → World → Prop) : Prop :=
  Bm t18 (
    (0 ≤ (IntKind.i64.wrap ((IntKind.i64.wrap (k * (64 : Int))) + i)) ∧ (IntKind.i64.wrap ((IntKind.i64.wrap (k * (64 : Int))) + i)) < ((data.size : Nat) : Int)) ∧
    Pn b_b fun a =>
    (0 ≤ i ∧ i < ((b_l : Nat) : Int)) ∧
    Sts [.int .u8 (byteAt data (IntKind.i64.wrap ((IntKind.i64.wrap (k * (64 : Int))) + i)))] (Addr.add a (i.toNat * 1)) 0 w fun w1 =>
    N1 data k b_b b_l b_c (IntKind.i64.wrap (i + (1 : Int))) w1) (
    ToStr b_b b_l w fun s31 =>
    R s31 w)
theorem store_chunk.B1_eq (data : ByteArray) (k : Int) (b_b : Option Addr) (b_l b_c : Nat) (i : Int) (t18 : Bool) (w : World) (N1 : ByteArray → Int → Option Addr → Nat → Nat → Int → World → Prop)  (R : ByteArray → World → Prop)  :
    (
  Bm t18 (
    (0 ≤ (IntKind.i64.wrap ((IntKind.i64.wrap (k * (64 : Int))) + i)) ∧ (IntKind.i64.wrap ((IntKind.i64.wrap (k * (64 : Int))) + i)) < ((data.size : Nat) : Int)) ∧
    Pn b_b fun a =>
    (0 ≤ i ∧ i < ((b_l : Nat) : Int)) ∧
    Sts [.int .u8 (byteAt data (IntKind.i64.wrap ((IntKind.i64.wrap (k * (64 : Int))) + i)))] (Addr.add a (i.toNat * 1)) 0 w fun w1 =>
    N1 data k b_b b_l b_c (IntKind.i64.wrap (i + (1 : Int))) w1) (
    ToStr b_b b_l w fun s31 =>
    R s31 w)) = kstep Tryz.prog 32 Tryz.f287.results.toList (Tryz.f287.body.getD .skip) (store_chunk.RV R) (kvc Tryz.prog 32 Tryz.f287.results.toList (Tryz.f287.body.getD .skip) (store_chunk.RV R) [([(0, [1, 1, 0, 1, 0, 0]), (2, [1, 1, 0, 1, 0, 0]), (1, [0]), (0, [1, 1, 1])], fun σ w => dS (slotOf σ 0) fun data_ => dI .i64 (slotOf σ 1) fun k_ => dL (slotOf σ 5) fun b_b_ b_l_ b_c_ => dI .i64 (slotOf σ 6) fun i_ => N1 data_ k_ b_b_ b_l_ b_c_ i_ w)] 2000) [(0, [1, 1, 0, 1, 0, 0, 0, 1]), (0, [1, 1, 0, 1, 0, 0, 1]), (2, [1, 1, 0, 1, 0, 0]), (1, [0]), (0, [1, 1, 1])] [(0, .string data), (1, .int .i64 k), (5, .slice b_b b_l b_c), (6, .int .i64 i), (18, .bool t18)] w := by kernel_rfl
theorem store_chunk.B1_sound {R : ByteArray → World → Prop} {N1 : ByteArray → Int → Option Addr → Nat → Nat → Int → World → Prop} (hN1 : ∀ data k b_b b_l b_c i w, N1 data k b_b b_l b_c i w → KW Tryz.prog 287 32 (store_chunk.RV R) ([(0, [1, 1, 0, 1, 0, 0]), (2, [1, 1, 0, 1, 0, 0]), (1, [0]), (0, [1, 1, 1])].map (toItem (Tryz.f287.body.getD .skip))) [(0, .string data), (1, .int .i64 k), (5, .slice b_b b_l b_c), (6, .int .i64 i)] w) (data : ByteArray) (k : Int) (b_b : Option Addr) (b_l b_c : Nat) (i : Int) (t18 : Bool) (w : World) (h : store_chunk.B1 data k b_b b_l b_c i t18 w N1  R) :
    KW Tryz.prog 287 32 (store_chunk.RV R) ([(0, [1, 1, 0, 1, 0, 0, 0, 1]), (0, [1, 1, 0, 1, 0, 0, 1]), (2, [1, 1, 0, 1, 0, 0]), (1, [0]), (0, [1, 1, 1])].map (toItem (Tryz.f287.body.getD .skip))) [(0, .string data), (1, .int .i64 k), (5, .slice b_b b_l b_c), (6, .int .i64 i), (18, .bool t18)] w := by
  exact block_spec Tryz.func287 Tryz.mixed (stops_cons (fun σ w h => by
      obtain ⟨data_, e0, h⟩ := dS_elim h
      obtain ⟨k_, e1, h⟩ := dI_elim h
      obtain ⟨b_b_, b_l_, b_c_, e2, h⟩ := dL_elim h
      obtain ⟨i_, e3, h⟩ := dI_elim h
      exact (hN1 data_ k_ b_b_ b_l_ b_c_ i_ w h).weaken (Sub.cons (Sub.cons (Sub.cons (Sub.cons (Sub.nil _) e3) e2) e1) e0)) stops_nil) (Eq.mp (store_chunk.B1_eq data k b_b b_l b_c i t18 w N1  R ) h)
def store_chunk.L1b (data : ByteArray) (k : Int) (b_b : Option Addr) (b_l b_c : Nat) (i : Int) (w : World)  (N1 : ByteArray → Int → Option Addr → Nat → Nat → Int → World → Prop) (R : ByteArray → World → Prop) : Prop :=
  Bm (decide (i < (64 : Int))) (
    store_chunk.B1 data k b_b b_l b_c i (decide ((IntKind.i64.wrap ((IntKind.i64.wrap (k * (64 : Int))) + i)) < ((data.size : Nat) : Int))) w N1 R) (
    store_chunk.B1 data k b_b b_l b_c i false w N1 R)
theorem store_chunk.L1b_eq (data : ByteArray) (k : Int) (b_b : Option Addr) (b_l b_c : Nat) (i : Int) (w : World)  (N1 : ByteArray → Int → Option Addr → Nat → Nat → Int → World → Prop) (R : ByteArray → World → Prop) (sB1 : ByteArray → Int → Option Addr → Nat → Nat → Int → Bool → World → Prop) :
    (
  Bm (decide (i < (64 : Int))) (
    sB1 data k b_b b_l b_c i (decide ((IntKind.i64.wrap ((IntKind.i64.wrap (k * (64 : Int))) + i)) < ((data.size : Nat) : Int))) w) (
    sB1 data k b_b b_l b_c i false w)) = kstep Tryz.prog 32 Tryz.f287.results.toList (Tryz.f287.body.getD .skip) (store_chunk.RV R) (kvc Tryz.prog 32 Tryz.f287.results.toList (Tryz.f287.body.getD .skip) (store_chunk.RV R) [([(0, [1, 1, 0, 1, 0, 0, 0, 1]), (0, [1, 1, 0, 1, 0, 0, 1]), (2, [1, 1, 0, 1, 0, 0]), (1, [0]), (0, [1, 1, 1])], fun σ w => dS (slotOf σ 0) fun data_ => dI .i64 (slotOf σ 1) fun k_ => dL (slotOf σ 5) fun b_b_ b_l_ b_c_ => dI .i64 (slotOf σ 6) fun i_ => dB (slotOf σ 18) fun t18_ => sB1 data_ k_ b_b_ b_l_ b_c_ i_ t18_ w)] 2000) [(0, [1, 1, 0, 1, 0, 0]), (2, [1, 1, 0, 1, 0, 0]), (1, [0]), (0, [1, 1, 1])] [(0, .string data), (1, .int .i64 k), (5, .slice b_b b_l b_c), (6, .int .i64 i)] w := by kernel_rfl
theorem store_chunk.L1b_sound {R : ByteArray → World → Prop} {N1 : ByteArray → Int → Option Addr → Nat → Nat → Int → World → Prop} (hN1 : ∀ data k b_b b_l b_c i w, N1 data k b_b b_l b_c i w → KW Tryz.prog 287 32 (store_chunk.RV R) ([(0, [1, 1, 0, 1, 0, 0]), (2, [1, 1, 0, 1, 0, 0]), (1, [0]), (0, [1, 1, 1])].map (toItem (Tryz.f287.body.getD .skip))) [(0, .string data), (1, .int .i64 k), (5, .slice b_b b_l b_c), (6, .int .i64 i)] w) (data : ByteArray) (k : Int) (b_b : Option Addr) (b_l b_c : Nat) (i : Int) (w : World) (h : store_chunk.L1b data k b_b b_l b_c i w  N1 R) :
    KW Tryz.prog 287 32 (store_chunk.RV R) ([(0, [1, 1, 0, 1, 0, 0]), (2, [1, 1, 0, 1, 0, 0]), (1, [0]), (0, [1, 1, 1])].map (toItem (Tryz.f287.body.getD .skip))) [(0, .string data), (1, .int .i64 k), (5, .slice b_b b_l b_c), (6, .int .i64 i)] w := by
  exact block_spec Tryz.func287 Tryz.mixed (stops_cons (fun σ w h => by
      obtain ⟨data_, e0, h⟩ := dS_elim h
      obtain ⟨k_, e1, h⟩ := dI_elim h
      obtain ⟨b_b_, b_l_, b_c_, e2, h⟩ := dL_elim h
      obtain ⟨i_, e3, h⟩ := dI_elim h
      obtain ⟨t18_, e4, h⟩ := dB_elim h
      exact (store_chunk.B1_sound hN1 data_ k_ b_b_ b_l_ b_c_ i_ t18_ w h).weaken (Sub.cons (Sub.cons (Sub.cons (Sub.cons (Sub.cons (Sub.nil _) e4) e3) e2) e1) e0)) stops_nil) (Eq.mp (store_chunk.L1b_eq data k b_b b_l b_c i w  N1 R (fun data_ k_ b_b_ b_l_ b_c_ i_ t18_ w => store_chunk.B1 data_ k_ b_b_ b_l_ b_c_ i_ t18_ w N1 R)) h)
def store_chunk.L1 (data : ByteArray) (k : Int) (b_b : Option Addr) (b_l b_c : Nat) (i : Int) (w : World)  (R : ByteArray → World → Prop) : Prop :=
  ∃ (I : Nat → ByteArray → Int → Option Addr → Nat → Nat → Int → World → Prop) (m : Nat), I m data k b_b b_l b_c i w ∧ ∀ m data k b_b b_l b_c i w, I m data k b_b b_l b_c i w → store_chunk.L1b data k b_b b_l b_c i w  (fun data' k' b_b' b_l' b_c' i' w' => ∃ m', m' < m ∧ I m' data' k' b_b' b_l' b_c' i' w') R
theorem store_chunk.L1_sound {R : ByteArray → World → Prop}  (data : ByteArray) (k : Int) (b_b : Option Addr) (b_l b_c : Nat) (i : Int) (w : World) (h : store_chunk.L1 data k b_b b_l b_c i w  R) :
    KW Tryz.prog 287 32 (store_chunk.RV R) ([(0, [1, 1, 0, 1, 0, 0]), (2, [1, 1, 0, 1, 0, 0]), (1, [0]), (0, [1, 1, 1])].map (toItem (Tryz.f287.body.getD .skip))) [(0, .string data), (1, .int .i64 k), (5, .slice b_b b_l b_c), (6, .int .i64 i)] w := by
  obtain ⟨I, m, hBase, hr⟩ := h
  refine KW.loop (fun m σ w => ∃ (data : ByteArray) (k : Int) (b_b : Option Addr) (b_l b_c : Nat) (i : Int), σ = [(0, .string data), (1, .int .i64 k), (5, .slice b_b b_l b_c), (6, .int .i64 i)] ∧ I m data k b_b b_l b_c i w) ?_ m _ w ⟨data, k, b_b, b_l, b_c, i, rfl, hBase⟩
  rintro m ih σ w ⟨data, k, b_b, b_l, b_c, i, rfl, hI⟩
  exact store_chunk.L1b_sound  (N1 := fun data' k' b_b' b_l' b_c' i' w' => ∃ m', m' < m ∧ I m' data' k' b_b' b_l' b_c' i' w') (fun data' k' b_b' b_l' b_c' i' w' hx => by obtain ⟨m', hlt, hI'⟩ := hx; exact ih m' hlt _ w' ⟨data', k', b_b', b_l', b_c', i', rfl, hI'⟩) data k b_b b_l b_c i w (hr m data k b_b b_l b_c i w hI)
def store_chunk.B0 (data : ByteArray) (k : Int) (w : World)   (R : ByteArray → World → Prop) : Prop :=
  Make 5 (.int .u8 (0 : Int)) 1 1 (64 : Int) (64 : Int) w fun b7 w1 =>
  store_chunk.L1 data k (some ⟨b7, 0, none⟩) 64 64 (0 : Int) w1  R
theorem store_chunk.B0_eq (data : ByteArray) (k : Int) (w : World)   (R : ByteArray → World → Prop) (sL1 : ByteArray → Int → Option Addr → Nat → Nat → Int → World → Prop) :
    (
  Make 5 (.int .u8 (0 : Int)) 1 1 (64 : Int) (64 : Int) w fun b7 w1 =>
  sL1 data k (some ⟨b7, 0, none⟩) 64 64 (0 : Int) w1) = kstep Tryz.prog 32 Tryz.f287.results.toList (Tryz.f287.body.getD .skip) (store_chunk.RV R) (kvc Tryz.prog 32 Tryz.f287.results.toList (Tryz.f287.body.getD .skip) (store_chunk.RV R) [([(0, [1, 1, 0, 1, 0, 0]), (2, [1, 1, 0, 1, 0, 0]), (1, [0]), (0, [1, 1, 1])], fun σ w => dS (slotOf σ 0) fun data_ => dI .i64 (slotOf σ 1) fun k_ => dL (slotOf σ 5) fun b_b_ b_l_ b_c_ => dI .i64 (slotOf σ 6) fun i_ => sL1 data_ k_ b_b_ b_l_ b_c_ i_ w)] 2000) [(0, [])] [(0, .string data), (1, .int .i64 k)] w := by kernel_rfl
theorem store_chunk.B0_sound {R : ByteArray → World → Prop}  (data : ByteArray) (k : Int) (w : World) (h : store_chunk.B0 data k w   R) :
    KW Tryz.prog 287 32 (store_chunk.RV R) ([(0, [])].map (toItem (Tryz.f287.body.getD .skip))) [(0, .string data), (1, .int .i64 k)] w := by
  exact block_spec Tryz.func287 Tryz.mixed (stops_cons (fun σ w h => by
      obtain ⟨data_, e0, h⟩ := dS_elim h
      obtain ⟨k_, e1, h⟩ := dI_elim h
      obtain ⟨b_b_, b_l_, b_c_, e2, h⟩ := dL_elim h
      obtain ⟨i_, e3, h⟩ := dI_elim h
      exact (store_chunk.L1_sound  data_ k_ b_b_ b_l_ b_c_ i_ w h).weaken (Sub.cons (Sub.cons (Sub.cons (Sub.cons (Sub.nil _) e3) e2) e1) e0)) stops_nil) (Eq.mp (store_chunk.B0_eq data k w   R (fun data_ k_ b_b_ b_l_ b_c_ i_ w => store_chunk.L1 data_ k_ b_b_ b_l_ b_c_ i_ w  R)) h)
theorem store_chunk.sound (data : ByteArray) (k : Int) (w : World) (R : ByteArray → World → Prop) (h : store_chunk.B0 data k w R) : store_chunk.Call data k w R := by
  have hc := calls_of_block (args := #[.string data, .int .i64 k]) Tryz.func287 (body := (Tryz.f287.body.getD .skip)) (by kernel_rfl) (by kernel_rfl) (args_slot _) (store_chunk.B0_sound data k w h)
  exact hc.mono fun e w' he => by
    obtain ⟨v, rfl, hv⟩ := he
    exact store_chunk.RV_elim hv
def store_encHead.B0 (h0_0 : Bool) (h0_1 h0_2 h0_3 h0_4 h0_5 : Int) (w : World)   (R : Option Addr → Nat → Nat → World → Prop) : Prop :=
  New (.cells #[.bool h0_0, .int .i64 h0_1, .int .i64 h0_2, .int .i64 h0_3, .int .i64 h0_4, .int .i64 h0_5] 182) w fun h0_ w1 =>
  Make 5 (.int .u8 (0 : Int)) 1 1 (64 : Int) (64 : Int) w1 fun b4 w2 =>
  LdI .i64 ⟨h0_, 1, none⟩ w2 fun x7 =>
  store_put8.Call (some ⟨b4, 0, none⟩) 64 64 (1 : Int) x7 w2 fun r8_b r8_l r8_c w3 =>
  LdI .i64 ⟨h0_, 2, none⟩ w3 fun x11 =>
  store_put8.Call r8_b r8_l r8_c (9 : Int) x11 w3 fun r12_b r12_l r12_c w4 =>
  LdI .i64 ⟨h0_, 3, none⟩ w4 fun x15 =>
  store_put8.Call r12_b r12_l r12_c (32 : Int) x15 w4 fun r16_b r16_l r16_c w5 =>
  LdI .i64 ⟨h0_, 4, none⟩ w5 fun x19 =>
  Pn r16_b fun a =>
  (0 ≤ (40 : Int) ∧ (40 : Int) < ((r16_l : Nat) : Int)) ∧
  Sts [.int .u8 (IntKind.u8.wrap x19)] (a.add 40) 0 w5 fun w6 =>
  LdI .i64 ⟨h0_, 5, none⟩ w6 fun x24 =>
  Pn r16_b fun a_1 =>
  (0 ≤ (41 : Int) ∧ (41 : Int) < ((r16_l : Nat) : Int)) ∧
  Sts [.int .u8 (IntKind.u8.wrap x24)] (a_1.add 41) 0 w6 fun w7 =>
  R r16_b r16_l r16_c w7
theorem store_encHead.B0_eq (h0_0 : Bool) (h0_1 h0_2 h0_3 h0_4 h0_5 : Int) (w : World)   (R : Option Addr → Nat → Nat → World → Prop)  :
    (
  New (.cells #[.bool h0_0, .int .i64 h0_1, .int .i64 h0_2, .int .i64 h0_3, .int .i64 h0_4, .int .i64 h0_5] 182) w fun h0_ w1 =>
  Make 5 (.int .u8 (0 : Int)) 1 1 (64 : Int) (64 : Int) w1 fun b4 w2 =>
  LdI .i64 ⟨h0_, 1, none⟩ w2 fun x7 =>
  store_put8.Call (some ⟨b4, 0, none⟩) 64 64 (1 : Int) x7 w2 fun r8_b r8_l r8_c w3 =>
  LdI .i64 ⟨h0_, 2, none⟩ w3 fun x11 =>
  store_put8.Call r8_b r8_l r8_c (9 : Int) x11 w3 fun r12_b r12_l r12_c w4 =>
  LdI .i64 ⟨h0_, 3, none⟩ w4 fun x15 =>
  store_put8.Call r12_b r12_l r12_c (32 : Int) x15 w4 fun r16_b r16_l r16_c w5 =>
  LdI .i64 ⟨h0_, 4, none⟩ w5 fun x19 =>
  Pn r16_b fun a =>
  (0 ≤ (40 : Int) ∧ (40 : Int) < ((r16_l : Nat) : Int)) ∧
  Sts [.int .u8 (IntKind.u8.wrap x19)] (a.add 40) 0 w5 fun w6 =>
  LdI .i64 ⟨h0_, 5, none⟩ w6 fun x24 =>
  Pn r16_b fun a_1 =>
  (0 ≤ (41 : Int) ∧ (41 : Int) < ((r16_l : Nat) : Int)) ∧
  Sts [.int .u8 (IntKind.u8.wrap x24)] (a_1.add 41) 0 w6 fun w7 =>
  R r16_b r16_l r16_c w7) = kstep Tryz.prog 28 Tryz.f288.results.toList (Tryz.f288.body.getD .skip) (store_encHead.RV R) (kvc Tryz.prog 28 Tryz.f288.results.toList (Tryz.f288.body.getD .skip) (store_encHead.RV R) [] 2000) [(0, [])] [(0, .agg #[.bool h0_0, .int .i64 h0_1, .int .i64 h0_2, .int .i64 h0_3, .int .i64 h0_4, .int .i64 h0_5])] w := by kernel_rfl
theorem store_encHead.B0_sound {R : Option Addr → Nat → Nat → World → Prop}  (h0_0 : Bool) (h0_1 h0_2 h0_3 h0_4 h0_5 : Int) (w : World) (h : store_encHead.B0 h0_0 h0_1 h0_2 h0_3 h0_4 h0_5 w   R) :
    KW Tryz.prog 288 28 (store_encHead.RV R) ([(0, [])].map (toItem (Tryz.f288.body.getD .skip))) [(0, .agg #[.bool h0_0, .int .i64 h0_1, .int .i64 h0_2, .int .i64 h0_3, .int .i64 h0_4, .int .i64 h0_5])] w := by
  exact block_spec Tryz.func288 Tryz.mixed stops_nil (Eq.mp (store_encHead.B0_eq h0_0 h0_1 h0_2 h0_3 h0_4 h0_5 w   R ) h)
theorem store_encHead.sound (h0_0 : Bool) (h0_1 h0_2 h0_3 h0_4 h0_5 : Int) (w : World) (R : Option Addr → Nat → Nat → World → Prop) (h : store_encHead.B0 h0_0 h0_1 h0_2 h0_3 h0_4 h0_5 w R) : store_encHead.Call h0_0 h0_1 h0_2 h0_3 h0_4 h0_5 w R := by
  have hc := calls_of_block (args := #[.agg #[.bool h0_0, .int .i64 h0_1, .int .i64 h0_2, .int .i64 h0_3, .int .i64 h0_4, .int .i64 h0_5]]) Tryz.func288 (body := (Tryz.f288.body.getD .skip)) (by kernel_rfl) (by kernel_rfl) (args_slot _) (store_encHead.B0_sound h0_0 h0_1 h0_2 h0_3 h0_4 h0_5 w h)
  exact hc.mono fun e w' he => by
    obtain ⟨v, rfl, hv⟩ := he
    exact store_encHead.RV_elim hv
end Go.Proofs.Qxb6500430aGreat
