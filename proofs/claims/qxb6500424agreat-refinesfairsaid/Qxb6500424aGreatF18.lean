import Derived.Test.Qxb6500424aGreatSig
set_option maxRecDepth 100000
set_option linter.unusedVariables false
open Go.Vc
namespace Go.Proofs.Qxb6500424aGreat
def sock_Table_Free.B2 (t : Option Addr) (sd i k : Int) (w : World) (N1 : Option Addr → Int → Int → Int → World → Prop)  (R : Int → World → Prop) : Prop :=
  N1 t sd i (IntKind.i64.wrap (k + (1 : Int))) w
theorem sock_Table_Free.B2_eq (t : Option Addr) (sd i k : Int) (w : World) (N1 : Option Addr → Int → Int → Int → World → Prop)  (R : Int → World → Prop)  :
    (
  N1 t sd i (IntKind.i64.wrap (k + (1 : Int))) w) = kstep Tryz.prog 103 Tryz.f127.results.toList (Tryz.f127.body.getD .skip) (sock_Table_Free.RV R) (kvc Tryz.prog 103 Tryz.f127.results.toList (Tryz.f127.body.getD .skip) (sock_Table_Free.RV R) [([(0, [1, 1, 1, 0, 1, 0, 1, 1, 1, 0, 0]), (2, [1, 1, 1, 0, 1, 0, 1, 1, 1, 0, 0]), (1, [0]), (0, [1, 1, 1, 1])], fun σ w => dP (slotOf σ 0) fun t_ => dI .i64 (slotOf σ 1) fun sd_ => dI .i64 (slotOf σ 5) fun i_ => dI .i64 (slotOf σ 6) fun k_ => N1 t_ sd_ i_ k_ w)] 2000) [(0, [1, 1, 1, 0, 1, 0, 1, 1, 1, 0, 0, 1, 1]), (2, [1, 1, 1, 0, 1, 0, 1, 1, 1, 0, 0]), (1, [0]), (0, [1, 1, 1, 1])] [(0, .pointer t), (1, .int .i64 sd), (5, .int .i64 i), (6, .int .i64 k)] w := by kernel_rfl
theorem sock_Table_Free.B2_sound {R : Int → World → Prop} {N1 : Option Addr → Int → Int → Int → World → Prop} (hN1 : ∀ t sd i k w, N1 t sd i k w → KW Tryz.prog 127 103 (sock_Table_Free.RV R) ([(0, [1, 1, 1, 0, 1, 0, 1, 1, 1, 0, 0]), (2, [1, 1, 1, 0, 1, 0, 1, 1, 1, 0, 0]), (1, [0]), (0, [1, 1, 1, 1])].map (toItem (Tryz.f127.body.getD .skip))) [(0, .pointer t), (1, .int .i64 sd), (5, .int .i64 i), (6, .int .i64 k)] w) (t : Option Addr) (sd i k : Int) (w : World) (h : sock_Table_Free.B2 t sd i k w N1  R) :
    KW Tryz.prog 127 103 (sock_Table_Free.RV R) ([(0, [1, 1, 1, 0, 1, 0, 1, 1, 1, 0, 0, 1, 1]), (2, [1, 1, 1, 0, 1, 0, 1, 1, 1, 0, 0]), (1, [0]), (0, [1, 1, 1, 1])].map (toItem (Tryz.f127.body.getD .skip))) [(0, .pointer t), (1, .int .i64 sd), (5, .int .i64 i), (6, .int .i64 k)] w := by
  exact block_spec Tryz.func127 Tryz.mixed (stops_cons (fun σ w h => by
      obtain ⟨t_, e0, h⟩ := dP_elim h
      obtain ⟨sd_, e1, h⟩ := dI_elim h
      obtain ⟨i_, e2, h⟩ := dI_elim h
      obtain ⟨k_, e3, h⟩ := dI_elim h
      exact (hN1 t_ sd_ i_ k_ w h).weaken (Sub.cons (Sub.cons (Sub.cons (Sub.cons (Sub.nil _) e3) e2) e1) e0)) stops_nil) (Eq.mp (sock_Table_Free.B2_eq t sd i k w N1  R ) h)
def sock_Table_Free.B1 (t : Option Addr) (sd i k : Int) (t62 : Bool) (w : World) (N1 : Option Addr → Int → Int → Int → World → Prop)  (R : Int → World → Prop) : Prop :=
  Bm t62 (
    Pn t fun a =>
    (0 ≤ k ∧ k < ((6 : Nat) : Int)) ∧
    Sts [.int .i64 (0 : Int)] (((Addr.add a (k.toNat * 15)).add 1).add 6) 0 w fun w1 =>
    Pn t fun a_1 =>
    (0 ≤ k ∧ k < ((6 : Nat) : Int)) ∧
    Sts [.bool false] (((Addr.add a_1 (k.toNat * 15)).add 1).add 7) 0 w1 fun w2 =>
    sock_Table_Free.B2 t sd i k w2 N1 R) (
    sock_Table_Free.B2 t sd i k w N1 R)
theorem sock_Table_Free.B1_eq (t : Option Addr) (sd i k : Int) (t62 : Bool) (w : World) (N1 : Option Addr → Int → Int → Int → World → Prop)  (R : Int → World → Prop) (sB2 : Option Addr → Int → Int → Int → World → Prop) :
    (
  Bm t62 (
    Pn t fun a =>
    (0 ≤ k ∧ k < ((6 : Nat) : Int)) ∧
    Sts [.int .i64 (0 : Int)] (((Addr.add a (k.toNat * 15)).add 1).add 6) 0 w fun w1 =>
    Pn t fun a_1 =>
    (0 ≤ k ∧ k < ((6 : Nat) : Int)) ∧
    Sts [.bool false] (((Addr.add a_1 (k.toNat * 15)).add 1).add 7) 0 w1 fun w2 =>
    sB2 t sd i k w2) (
    sB2 t sd i k w)) = kstep Tryz.prog 103 Tryz.f127.results.toList (Tryz.f127.body.getD .skip) (sock_Table_Free.RV R) (kvc Tryz.prog 103 Tryz.f127.results.toList (Tryz.f127.body.getD .skip) (sock_Table_Free.RV R) [([(0, [1, 1, 1, 0, 1, 0, 1, 1, 1, 0, 0, 1, 1]), (2, [1, 1, 1, 0, 1, 0, 1, 1, 1, 0, 0]), (1, [0]), (0, [1, 1, 1, 1])], fun σ w => dP (slotOf σ 0) fun t_ => dI .i64 (slotOf σ 1) fun sd_ => dI .i64 (slotOf σ 5) fun i_ => dI .i64 (slotOf σ 6) fun k_ => sB2 t_ sd_ i_ k_ w)] 2000) [(0, [1, 1, 1, 0, 1, 0, 1, 1, 1, 0, 0, 1, 0, 0, 1]), (1, [1]), (0, [1, 1, 1, 0, 1, 0, 1, 1, 1, 0, 0, 1, 1]), (2, [1, 1, 1, 0, 1, 0, 1, 1, 1, 0, 0]), (1, [0]), (0, [1, 1, 1, 1])] [(0, .pointer t), (1, .int .i64 sd), (5, .int .i64 i), (6, .int .i64 k), (62, .bool t62)] w := by kernel_rfl
theorem sock_Table_Free.B1_sound {R : Int → World → Prop} {N1 : Option Addr → Int → Int → Int → World → Prop} (hN1 : ∀ t sd i k w, N1 t sd i k w → KW Tryz.prog 127 103 (sock_Table_Free.RV R) ([(0, [1, 1, 1, 0, 1, 0, 1, 1, 1, 0, 0]), (2, [1, 1, 1, 0, 1, 0, 1, 1, 1, 0, 0]), (1, [0]), (0, [1, 1, 1, 1])].map (toItem (Tryz.f127.body.getD .skip))) [(0, .pointer t), (1, .int .i64 sd), (5, .int .i64 i), (6, .int .i64 k)] w) (t : Option Addr) (sd i k : Int) (t62 : Bool) (w : World) (h : sock_Table_Free.B1 t sd i k t62 w N1  R) :
    KW Tryz.prog 127 103 (sock_Table_Free.RV R) ([(0, [1, 1, 1, 0, 1, 0, 1, 1, 1, 0, 0, 1, 0, 0, 1]), (1, [1]), (0, [1, 1, 1, 0, 1, 0, 1, 1, 1, 0, 0, 1, 1]), (2, [1, 1, 1, 0, 1, 0, 1, 1, 1, 0, 0]), (1, [0]), (0, [1, 1, 1, 1])].map (toItem (Tryz.f127.body.getD .skip))) [(0, .pointer t), (1, .int .i64 sd), (5, .int .i64 i), (6, .int .i64 k), (62, .bool t62)] w := by
  exact block_spec Tryz.func127 Tryz.mixed (stops_cons (fun σ w h => by
      obtain ⟨t_, e0, h⟩ := dP_elim h
      obtain ⟨sd_, e1, h⟩ := dI_elim h
      obtain ⟨i_, e2, h⟩ := dI_elim h
      obtain ⟨k_, e3, h⟩ := dI_elim h
      exact (sock_Table_Free.B2_sound hN1 t_ sd_ i_ k_ w h).weaken (Sub.cons (Sub.cons (Sub.cons (Sub.cons (Sub.nil _) e3) e2) e1) e0)) stops_nil) (Eq.mp (sock_Table_Free.B1_eq t sd i k t62 w N1  R (fun t_ sd_ i_ k_ w => sock_Table_Free.B2 t_ sd_ i_ k_ w N1 R)) h)
def sock_Table_Free.L1b (t : Option Addr) (sd i k : Int) (w : World)  (N1 : Option Addr → Int → Int → Int → World → Prop) (R : Int → World → Prop) : Prop :=
  Bm (decide (k < (6 : Int))) (
    Pn t fun a =>
    (0 ≤ k ∧ k < ((6 : Nat) : Int)) ∧
    LdB (Addr.add a (k.toNat * 15)) w fun x50 =>
    Bm x50 (
      Pn t fun a_1 =>
      (0 ≤ k ∧ k < ((6 : Nat) : Int)) ∧
      LdI .i64 (((Addr.add a_1 (k.toNat * 15)).add 1).add 6) w fun x59 =>
      sock_Table_Free.B1 t sd i k (x59 == sd) w N1 R) (
      sock_Table_Free.B1 t sd i k false w N1 R)) (
    sock_Table_give.Call t i w fun w1 =>
    R (0 : Int) w1)
theorem sock_Table_Free.L1b_eq (t : Option Addr) (sd i k : Int) (w : World)  (N1 : Option Addr → Int → Int → Int → World → Prop) (R : Int → World → Prop) (sB1 : Option Addr → Int → Int → Int → Bool → World → Prop) :
    (
  Bm (decide (k < (6 : Int))) (
    Pn t fun a =>
    (0 ≤ k ∧ k < ((6 : Nat) : Int)) ∧
    LdB (Addr.add a (k.toNat * 15)) w fun x50 =>
    Bm x50 (
      Pn t fun a_1 =>
      (0 ≤ k ∧ k < ((6 : Nat) : Int)) ∧
      LdI .i64 (((Addr.add a_1 (k.toNat * 15)).add 1).add 6) w fun x59 =>
      sB1 t sd i k (x59 == sd) w) (
      sB1 t sd i k false w)) (
    sock_Table_give.Call t i w fun w1 =>
    R (0 : Int) w1)) = kstep Tryz.prog 103 Tryz.f127.results.toList (Tryz.f127.body.getD .skip) (sock_Table_Free.RV R) (kvc Tryz.prog 103 Tryz.f127.results.toList (Tryz.f127.body.getD .skip) (sock_Table_Free.RV R) [([(0, [1, 1, 1, 0, 1, 0, 1, 1, 1, 0, 0, 1, 0, 0, 1]), (1, [1]), (0, [1, 1, 1, 0, 1, 0, 1, 1, 1, 0, 0, 1, 1]), (2, [1, 1, 1, 0, 1, 0, 1, 1, 1, 0, 0]), (1, [0]), (0, [1, 1, 1, 1])], fun σ w => dP (slotOf σ 0) fun t_ => dI .i64 (slotOf σ 1) fun sd_ => dI .i64 (slotOf σ 5) fun i_ => dI .i64 (slotOf σ 6) fun k_ => dB (slotOf σ 62) fun t62_ => sB1 t_ sd_ i_ k_ t62_ w)] 2000) [(0, [1, 1, 1, 0, 1, 0, 1, 1, 1, 0, 0]), (2, [1, 1, 1, 0, 1, 0, 1, 1, 1, 0, 0]), (1, [0]), (0, [1, 1, 1, 1])] [(0, .pointer t), (1, .int .i64 sd), (5, .int .i64 i), (6, .int .i64 k)] w := by kernel_rfl
theorem sock_Table_Free.L1b_sound {R : Int → World → Prop} {N1 : Option Addr → Int → Int → Int → World → Prop} (hN1 : ∀ t sd i k w, N1 t sd i k w → KW Tryz.prog 127 103 (sock_Table_Free.RV R) ([(0, [1, 1, 1, 0, 1, 0, 1, 1, 1, 0, 0]), (2, [1, 1, 1, 0, 1, 0, 1, 1, 1, 0, 0]), (1, [0]), (0, [1, 1, 1, 1])].map (toItem (Tryz.f127.body.getD .skip))) [(0, .pointer t), (1, .int .i64 sd), (5, .int .i64 i), (6, .int .i64 k)] w) (t : Option Addr) (sd i k : Int) (w : World) (h : sock_Table_Free.L1b t sd i k w  N1 R) :
    KW Tryz.prog 127 103 (sock_Table_Free.RV R) ([(0, [1, 1, 1, 0, 1, 0, 1, 1, 1, 0, 0]), (2, [1, 1, 1, 0, 1, 0, 1, 1, 1, 0, 0]), (1, [0]), (0, [1, 1, 1, 1])].map (toItem (Tryz.f127.body.getD .skip))) [(0, .pointer t), (1, .int .i64 sd), (5, .int .i64 i), (6, .int .i64 k)] w := by
  exact block_spec Tryz.func127 Tryz.mixed (stops_cons (fun σ w h => by
      obtain ⟨t_, e0, h⟩ := dP_elim h
      obtain ⟨sd_, e1, h⟩ := dI_elim h
      obtain ⟨i_, e2, h⟩ := dI_elim h
      obtain ⟨k_, e3, h⟩ := dI_elim h
      obtain ⟨t62_, e4, h⟩ := dB_elim h
      exact (sock_Table_Free.B1_sound hN1 t_ sd_ i_ k_ t62_ w h).weaken (Sub.cons (Sub.cons (Sub.cons (Sub.cons (Sub.cons (Sub.nil _) e4) e3) e2) e1) e0)) stops_nil) (Eq.mp (sock_Table_Free.L1b_eq t sd i k w  N1 R (fun t_ sd_ i_ k_ t62_ w => sock_Table_Free.B1 t_ sd_ i_ k_ t62_ w N1 R)) h)
def sock_Table_Free.L1 (t : Option Addr) (sd i k : Int) (w : World)  (R : Int → World → Prop) : Prop :=
  ∃ (I : Nat → Option Addr → Int → Int → Int → World → Prop) (m : Nat), I m t sd i k w ∧ ∀ m t sd i k w, I m t sd i k w → sock_Table_Free.L1b t sd i k w  (fun t' sd' i' k' w' => ∃ m', m' < m ∧ I m' t' sd' i' k' w') R
theorem sock_Table_Free.L1_sound {R : Int → World → Prop}  (t : Option Addr) (sd i k : Int) (w : World) (h : sock_Table_Free.L1 t sd i k w  R) :
    KW Tryz.prog 127 103 (sock_Table_Free.RV R) ([(0, [1, 1, 1, 0, 1, 0, 1, 1, 1, 0, 0]), (2, [1, 1, 1, 0, 1, 0, 1, 1, 1, 0, 0]), (1, [0]), (0, [1, 1, 1, 1])].map (toItem (Tryz.f127.body.getD .skip))) [(0, .pointer t), (1, .int .i64 sd), (5, .int .i64 i), (6, .int .i64 k)] w := by
  obtain ⟨I, m, hBase, hr⟩ := h
  refine KW.loop (fun m σ w => ∃ (t : Option Addr) (sd i k : Int), σ = [(0, .pointer t), (1, .int .i64 sd), (5, .int .i64 i), (6, .int .i64 k)] ∧ I m t sd i k w) ?_ m _ w ⟨t, sd, i, k, rfl, hBase⟩
  rintro m ih σ w ⟨t, sd, i, k, rfl, hI⟩
  exact sock_Table_Free.L1b_sound  (N1 := fun t' sd' i' k' w' => ∃ m', m' < m ∧ I m' t' sd' i' k' w') (fun t' sd' i' k' w' hx => by obtain ⟨m', hlt, hI'⟩ := hx; exact ih m' hlt _ w' ⟨t', sd', i', k', rfl, hI'⟩) t sd i k w (hr m t sd i k w hI)
def sock_Table_Free.B0 (t : Option Addr) (sd : Int) (w : World)   (R : Int → World → Prop) : Prop :=
  sock_Table_find.Call t sd w fun r9 w1 =>
  Bm (r9 == (-1 : Int)) (
    R (21 : Int) w1) (
    Pn t fun a =>
    (0 ≤ r9 ∧ r9 < ((6 : Nat) : Int)) ∧
    LdI .i64 (((Addr.add a (r9.toNat * 15)).add 1).add 1) w1 fun x19 =>
    Bm (x19 == (1 : Int)) (
      Pn t fun a_1 =>
      (0 ≤ r9 ∧ r9 < ((6 : Nat) : Int)) ∧
      LdI .i64 (((Addr.add a_1 (r9.toNat * 15)).add 1).add 2) w1.drew fun x29 =>
      Pn t fun a_2 =>
      (0 ≤ x29 ∧ x29 < ((8 : Nat) : Int)) ∧
      Sts [.int .i64 (-1 : Int)] (Addr.add (a_2.add 95) (x29.toNat * 1)) 0 w1.drew fun w2 =>
      Pn t fun a_3 =>
      LdI .i64 (a_3.add 104) w2 fun x36 =>
      Pn t fun a_4 =>
      Sts [.int .i64 (IntKind.i64.wrap (x36 - (1 : Int)))] (a_4.add 104) 0 w2 fun w3 =>
      sock_Table_Free.L1 t sd r9 (0 : Int) w3  R) (
      sock_Table_unlink.Call t r9 w1 fun w4 =>
      Pn t fun a_5 =>
      LdI .u8 (a_5.add 103) w4.drew fun x83 =>
      Pn t fun a_6 =>
      (0 ≤ r9 ∧ r9 < ((6 : Nat) : Int)) ∧
      LdI .i64 (((Addr.add a_6 (r9.toNat * 15)).add 1).add 5) w4.drew fun x91 =>
      sock_bitOf.Call x91 w4.drew fun r92 w5 =>
      w5.cell? (a_5.add 103) = some (.int .u8 x83) ∧
      Pn t fun a_7 =>
      Sts [.int .u8 (IntKind.u8.wrap (BitVec.ofInt IntKind.u8.bits x83 &&& BitVec.ofInt IntKind.u8.bits (IntKind.u8.wrap (BitVec.ofInt IntKind.u8.bits (if IntKind.u8.signed then -1 else IntKind.u8.max) ^^^ BitVec.ofInt IntKind.u8.bits r92).toNat)).toNat)] (a_7.add 103) 0 w5 fun w6 =>
      sock_Table_orphan.Call t r9 w6 fun w7 =>
      sock_Table_give.Call t r9 w7 fun w8 =>
      R (0 : Int) w8))
theorem sock_Table_Free.B0_eq (t : Option Addr) (sd : Int) (w : World)   (R : Int → World → Prop) (sL1 : Option Addr → Int → Int → Int → World → Prop) :
    (
  sock_Table_find.Call t sd w fun r9 w1 =>
  Bm (r9 == (-1 : Int)) (
    R (21 : Int) w1) (
    Pn t fun a =>
    (0 ≤ r9 ∧ r9 < ((6 : Nat) : Int)) ∧
    LdI .i64 (((Addr.add a (r9.toNat * 15)).add 1).add 1) w1 fun x19 =>
    Bm (x19 == (1 : Int)) (
      Pn t fun a_1 =>
      (0 ≤ r9 ∧ r9 < ((6 : Nat) : Int)) ∧
      LdI .i64 (((Addr.add a_1 (r9.toNat * 15)).add 1).add 2) w1.drew fun x29 =>
      Pn t fun a_2 =>
      (0 ≤ x29 ∧ x29 < ((8 : Nat) : Int)) ∧
      Sts [.int .i64 (-1 : Int)] (Addr.add (a_2.add 95) (x29.toNat * 1)) 0 w1.drew fun w2 =>
      Pn t fun a_3 =>
      LdI .i64 (a_3.add 104) w2 fun x36 =>
      Pn t fun a_4 =>
      Sts [.int .i64 (IntKind.i64.wrap (x36 - (1 : Int)))] (a_4.add 104) 0 w2 fun w3 =>
      sL1 t sd r9 (0 : Int) w3) (
      sock_Table_unlink.Call t r9 w1 fun w4 =>
      Pn t fun a_5 =>
      LdI .u8 (a_5.add 103) w4.drew fun x83 =>
      Pn t fun a_6 =>
      (0 ≤ r9 ∧ r9 < ((6 : Nat) : Int)) ∧
      LdI .i64 (((Addr.add a_6 (r9.toNat * 15)).add 1).add 5) w4.drew fun x91 =>
      sock_bitOf.Call x91 w4.drew fun r92 w5 =>
      w5.cell? (a_5.add 103) = some (.int .u8 x83) ∧
      Pn t fun a_7 =>
      Sts [.int .u8 (IntKind.u8.wrap (BitVec.ofInt IntKind.u8.bits x83 &&& BitVec.ofInt IntKind.u8.bits (IntKind.u8.wrap (BitVec.ofInt IntKind.u8.bits (if IntKind.u8.signed then -1 else IntKind.u8.max) ^^^ BitVec.ofInt IntKind.u8.bits r92).toNat)).toNat)] (a_7.add 103) 0 w5 fun w6 =>
      sock_Table_orphan.Call t r9 w6 fun w7 =>
      sock_Table_give.Call t r9 w7 fun w8 =>
      R (0 : Int) w8))) = kstep Tryz.prog 103 Tryz.f127.results.toList (Tryz.f127.body.getD .skip) (sock_Table_Free.RV R) (kvc Tryz.prog 103 Tryz.f127.results.toList (Tryz.f127.body.getD .skip) (sock_Table_Free.RV R) [([(0, [1, 1, 1, 0, 1, 0, 1, 1, 1, 0, 0]), (2, [1, 1, 1, 0, 1, 0, 1, 1, 1, 0, 0]), (1, [0]), (0, [1, 1, 1, 1])], fun σ w => dP (slotOf σ 0) fun t_ => dI .i64 (slotOf σ 1) fun sd_ => dI .i64 (slotOf σ 5) fun i_ => dI .i64 (slotOf σ 6) fun k_ => sL1 t_ sd_ i_ k_ w)] 2000) [(0, [])] [(0, .pointer t), (1, .int .i64 sd)] w := by kernel_rfl
theorem sock_Table_Free.B0_sound {R : Int → World → Prop}  (t : Option Addr) (sd : Int) (w : World) (h : sock_Table_Free.B0 t sd w   R) :
    KW Tryz.prog 127 103 (sock_Table_Free.RV R) ([(0, [])].map (toItem (Tryz.f127.body.getD .skip))) [(0, .pointer t), (1, .int .i64 sd)] w := by
  exact block_spec Tryz.func127 Tryz.mixed (stops_cons (fun σ w h => by
      obtain ⟨t_, e0, h⟩ := dP_elim h
      obtain ⟨sd_, e1, h⟩ := dI_elim h
      obtain ⟨i_, e2, h⟩ := dI_elim h
      obtain ⟨k_, e3, h⟩ := dI_elim h
      exact (sock_Table_Free.L1_sound  t_ sd_ i_ k_ w h).weaken (Sub.cons (Sub.cons (Sub.cons (Sub.cons (Sub.nil _) e3) e2) e1) e0)) stops_nil) (Eq.mp (sock_Table_Free.B0_eq t sd w   R (fun t_ sd_ i_ k_ w => sock_Table_Free.L1 t_ sd_ i_ k_ w  R)) h)
theorem sock_Table_Free.sound (t : Option Addr) (sd : Int) (w : World) (R : Int → World → Prop) (h : sock_Table_Free.B0 t sd w R) : sock_Table_Free.Call t sd w R := by
  have hc := calls_of_block (args := #[.pointer t, .int .i64 sd]) Tryz.func127 (body := (Tryz.f127.body.getD .skip)) (by kernel_rfl) (by kernel_rfl) (args_slot _) (sock_Table_Free.B0_sound t sd w h)
  exact hc.mono fun e w' he => by
    obtain ⟨v, rfl, hv⟩ := he
    exact sock_Table_Free.RV_elim hv
def sock_Table_Listen.B1 (t : Option Addr) (port : Int) (t13 : Bool) (w : World)   (R : Int → Int → World → Prop) : Prop :=
  Bm t13 (
    R (0 : Int) (22 : Int) w) (
    Pn t fun a =>
    (0 ≤ port ∧ port < ((8 : Nat) : Int)) ∧
    LdI .i64 (Addr.add (a.add 95) (port.toNat * 1)) w fun x19 =>
    Bm (x19 != (-1 : Int)) (
      R (0 : Int) (23 : Int) w) (
      Pn t fun a_1 =>
      LdI .i64 (a_1.add 104) w fun x24 =>
      Bm (decide (x24 ≥ (2 : Int))) (
        R (0 : Int) (11 : Int) w) (
        sock_Table_take.Call t w fun r27 w1 =>
        Bm (r27 == (-1 : Int)) (
          R (0 : Int) (11 : Int) w1) (
          Pn t fun a_2 =>
          LdI .i64 (a_2.add 105) w1 fun x33 =>
          Pn t fun a_3 =>
          LdI .i64 (a_3.add 105) w1 fun x37 =>
          Pn t fun a_4 =>
          Sts [.int .i64 (IntKind.i64.wrap (x37 + (1 : Int)))] (a_4.add 105) 0 w1 fun w2 =>
          Pn t fun a_5 =>
          (0 ≤ r27 ∧ r27 < ((6 : Nat) : Int)) ∧
          Sts [.int .i64 x33, .int .i64 (1 : Int), .int .i64 port, .int .i64 (0 : Int), .int .i64 (0 : Int), .int .i64 (-1 : Int), .int .i64 (0 : Int), .bool false] ((Addr.add a_5 (r27.toNat * 15)).add 1) 0 w2 fun w3 =>
          Pn t fun a_6 =>
          (0 ≤ port ∧ port < ((8 : Nat) : Int)) ∧
          Sts [.int .i64 r27] (Addr.add (a_6.add 95) (port.toNat * 1)) 0 w3 fun w4 =>
          Pn t fun a_7 =>
          LdI .i64 (a_7.add 104) w4 fun x59 =>
          Pn t fun a_8 =>
          Sts [.int .i64 (IntKind.i64.wrap (x59 + (1 : Int)))] (a_8.add 104) 0 w4 fun w5 =>
          R x33 (0 : Int) w5))))
theorem sock_Table_Listen.B1_eq (t : Option Addr) (port : Int) (t13 : Bool) (w : World)   (R : Int → Int → World → Prop)  :
    (
  Bm t13 (
    R (0 : Int) (22 : Int) w) (
    Pn t fun a =>
    (0 ≤ port ∧ port < ((8 : Nat) : Int)) ∧
    LdI .i64 (Addr.add (a.add 95) (port.toNat * 1)) w fun x19 =>
    Bm (x19 != (-1 : Int)) (
      R (0 : Int) (23 : Int) w) (
      Pn t fun a_1 =>
      LdI .i64 (a_1.add 104) w fun x24 =>
      Bm (decide (x24 ≥ (2 : Int))) (
        R (0 : Int) (11 : Int) w) (
        sock_Table_take.Call t w fun r27 w1 =>
        Bm (r27 == (-1 : Int)) (
          R (0 : Int) (11 : Int) w1) (
          Pn t fun a_2 =>
          LdI .i64 (a_2.add 105) w1 fun x33 =>
          Pn t fun a_3 =>
          LdI .i64 (a_3.add 105) w1 fun x37 =>
          Pn t fun a_4 =>
          Sts [.int .i64 (IntKind.i64.wrap (x37 + (1 : Int)))] (a_4.add 105) 0 w1 fun w2 =>
          Pn t fun a_5 =>
          (0 ≤ r27 ∧ r27 < ((6 : Nat) : Int)) ∧
          Sts [.int .i64 x33, .int .i64 (1 : Int), .int .i64 port, .int .i64 (0 : Int), .int .i64 (0 : Int), .int .i64 (-1 : Int), .int .i64 (0 : Int), .bool false] ((Addr.add a_5 (r27.toNat * 15)).add 1) 0 w2 fun w3 =>
          Pn t fun a_6 =>
          (0 ≤ port ∧ port < ((8 : Nat) : Int)) ∧
          Sts [.int .i64 r27] (Addr.add (a_6.add 95) (port.toNat * 1)) 0 w3 fun w4 =>
          Pn t fun a_7 =>
          LdI .i64 (a_7.add 104) w4 fun x59 =>
          Pn t fun a_8 =>
          Sts [.int .i64 (IntKind.i64.wrap (x59 + (1 : Int)))] (a_8.add 104) 0 w4 fun w5 =>
          R x33 (0 : Int) w5))))) = kstep Tryz.prog 64 Tryz.f128.results.toList (Tryz.f128.body.getD .skip) (sock_Table_Listen.RV R) (kvc Tryz.prog 64 Tryz.f128.results.toList (Tryz.f128.body.getD .skip) (sock_Table_Listen.RV R) [] 2000) [(0, [1, 0, 1]), (0, [1, 1])] [(0, .pointer t), (1, .int .i64 port), (13, .bool t13)] w := by kernel_rfl
theorem sock_Table_Listen.B1_sound {R : Int → Int → World → Prop}  (t : Option Addr) (port : Int) (t13 : Bool) (w : World) (h : sock_Table_Listen.B1 t port t13 w   R) :
    KW Tryz.prog 128 64 (sock_Table_Listen.RV R) ([(0, [1, 0, 1]), (0, [1, 1])].map (toItem (Tryz.f128.body.getD .skip))) [(0, .pointer t), (1, .int .i64 port), (13, .bool t13)] w := by
  exact block_spec Tryz.func128 Tryz.mixed stops_nil (Eq.mp (sock_Table_Listen.B1_eq t port t13 w   R ) h)
def sock_Table_Listen.B0 (t : Option Addr) (port : Int) (w : World)   (R : Int → Int → World → Prop) : Prop :=
  Bm (decide (port < (1 : Int))) (
    sock_Table_Listen.B1 t port true w  R) (
    sock_Table_Listen.B1 t port (decide (port ≥ (8 : Int))) w  R)
theorem sock_Table_Listen.B0_eq (t : Option Addr) (port : Int) (w : World)   (R : Int → Int → World → Prop) (sB1 : Option Addr → Int → Bool → World → Prop) :
    (
  Bm (decide (port < (1 : Int))) (
    sB1 t port true w) (
    sB1 t port (decide (port ≥ (8 : Int))) w)) = kstep Tryz.prog 64 Tryz.f128.results.toList (Tryz.f128.body.getD .skip) (sock_Table_Listen.RV R) (kvc Tryz.prog 64 Tryz.f128.results.toList (Tryz.f128.body.getD .skip) (sock_Table_Listen.RV R) [([(0, [1, 0, 1]), (0, [1, 1])], fun σ w => dP (slotOf σ 0) fun t_ => dI .i64 (slotOf σ 1) fun port_ => dB (slotOf σ 13) fun t13_ => sB1 t_ port_ t13_ w)] 2000) [(0, [])] [(0, .pointer t), (1, .int .i64 port)] w := by kernel_rfl
theorem sock_Table_Listen.B0_sound {R : Int → Int → World → Prop}  (t : Option Addr) (port : Int) (w : World) (h : sock_Table_Listen.B0 t port w   R) :
    KW Tryz.prog 128 64 (sock_Table_Listen.RV R) ([(0, [])].map (toItem (Tryz.f128.body.getD .skip))) [(0, .pointer t), (1, .int .i64 port)] w := by
  exact block_spec Tryz.func128 Tryz.mixed (stops_cons (fun σ w h => by
      obtain ⟨t_, e0, h⟩ := dP_elim h
      obtain ⟨port_, e1, h⟩ := dI_elim h
      obtain ⟨t13_, e2, h⟩ := dB_elim h
      exact (sock_Table_Listen.B1_sound  t_ port_ t13_ w h).weaken (Sub.cons (Sub.cons (Sub.cons (Sub.nil _) e2) e1) e0)) stops_nil) (Eq.mp (sock_Table_Listen.B0_eq t port w   R (fun t_ port_ t13_ w => sock_Table_Listen.B1 t_ port_ t13_ w  R)) h)
theorem sock_Table_Listen.sound (t : Option Addr) (port : Int) (w : World) (R : Int → Int → World → Prop) (h : sock_Table_Listen.B0 t port w R) : sock_Table_Listen.Call t port w R := by
  have hc := calls_of_block (args := #[.pointer t, .int .i64 port]) Tryz.func128 (body := (Tryz.f128.body.getD .skip)) (by kernel_rfl) (by kernel_rfl) (args_slot _) (sock_Table_Listen.B0_sound t port w h)
  exact hc.mono fun e w' he => by
    obtain ⟨v, rfl, hv⟩ := he
    exact sock_Table_Listen.RV_elim hv
def sock_Table_Connect.B3 (t : Option Addr) (rhost rport s p n : Int) (t43 : Bool) (w : World) (N1 : Option Addr → Int → Int → Int → Int → Int → Int → World → Prop)  (R : Int → Int → World → Prop) : Prop :=
  Bm t43 (
    sock_nextEph.Call p w fun r47 w1 =>
    sock_Table_Lookup.Call t r47 rhost rport w1 fun r52 w2 =>
    N1 t rhost rport s r47 r52 (IntKind.i64.wrap (n + (1 : Int))) w2) (
    sock_Table_conn.Call t p rhost rport s (0 : Int) w fun r58 w3 =>
    Bm (r58 == (0 : Int)) (
      R (0 : Int) (11 : Int) w3) (
      sock_nextEph.Call p w3 fun r63 w4 =>
      Pn t fun a =>
      Sts [.int .i64 r63] (a.add 106) 0 w4 fun w5 =>
      R r58 (0 : Int) w5))
theorem sock_Table_Connect.B3_eq (t : Option Addr) (rhost rport s p n : Int) (t43 : Bool) (w : World) (N1 : Option Addr → Int → Int → Int → Int → Int → Int → World → Prop)  (R : Int → Int → World → Prop)  :
    (
  Bm t43 (
    sock_nextEph.Call p w fun r47 w1 =>
    sock_Table_Lookup.Call t r47 rhost rport w1 fun r52 w2 =>
    N1 t rhost rport s r47 r52 (IntKind.i64.wrap (n + (1 : Int))) w2) (
    sock_Table_conn.Call t p rhost rport s (0 : Int) w fun r58 w3 =>
    Bm (r58 == (0 : Int)) (
      R (0 : Int) (11 : Int) w3) (
      sock_nextEph.Call p w3 fun r63 w4 =>
      Pn t fun a =>
      Sts [.int .i64 r63] (a.add 106) 0 w4 fun w5 =>
      R r58 (0 : Int) w5))) = kstep Tryz.prog 67 Tryz.f129.results.toList (Tryz.f129.body.getD .skip) (sock_Table_Connect.RV R) (kvc Tryz.prog 67 Tryz.f129.results.toList (Tryz.f129.body.getD .skip) (sock_Table_Connect.RV R) [([(0, [1, 1, 1, 1, 1, 1, 1, 0, 1, 0, 0]), (2, [1, 1, 1, 1, 1, 1, 1, 0, 1, 0, 0]), (1, [0]), (0, [1, 1, 1, 1, 1, 1, 1, 1])], fun σ w => dP (slotOf σ 0) fun t_ => dI .i64 (slotOf σ 1) fun rhost_ => dI .i64 (slotOf σ 2) fun rport_ => dI .i64 (slotOf σ 8) fun s_ => dI .i64 (slotOf σ 9) fun p_ => dI .i64 (slotOf σ 10) fun held_ => dI .i64 (slotOf σ 11) fun n_ => N1 t_ rhost_ rport_ s_ p_ held_ n_ w)] 2000) [(0, [1, 1, 1, 1, 1, 1, 1, 0, 1, 0, 0, 0, 1]), (0, [1, 1, 1, 1, 1, 1, 1, 0, 1, 0, 0, 1]), (2, [1, 1, 1, 1, 1, 1, 1, 0, 1, 0, 0]), (1, [0]), (0, [1, 1, 1, 1, 1, 1, 1, 1])] [(0, .pointer t), (1, .int .i64 rhost), (2, .int .i64 rport), (8, .int .i64 s), (9, .int .i64 p), (11, .int .i64 n), (43, .bool t43)] w := by kernel_rfl
theorem sock_Table_Connect.B3_sound {R : Int → Int → World → Prop} {N1 : Option Addr → Int → Int → Int → Int → Int → Int → World → Prop} (hN1 : ∀ t rhost rport s p held n w, N1 t rhost rport s p held n w → KW Tryz.prog 129 67 (sock_Table_Connect.RV R) ([(0, [1, 1, 1, 1, 1, 1, 1, 0, 1, 0, 0]), (2, [1, 1, 1, 1, 1, 1, 1, 0, 1, 0, 0]), (1, [0]), (0, [1, 1, 1, 1, 1, 1, 1, 1])].map (toItem (Tryz.f129.body.getD .skip))) [(0, .pointer t), (1, .int .i64 rhost), (2, .int .i64 rport), (8, .int .i64 s), (9, .int .i64 p), (10, .int .i64 held), (11, .int .i64 n)] w) (t : Option Addr) (rhost rport s p n : Int) (t43 : Bool) (w : World) (h : sock_Table_Connect.B3 t rhost rport s p n t43 w N1  R) :
    KW Tryz.prog 129 67 (sock_Table_Connect.RV R) ([(0, [1, 1, 1, 1, 1, 1, 1, 0, 1, 0, 0, 0, 1]), (0, [1, 1, 1, 1, 1, 1, 1, 0, 1, 0, 0, 1]), (2, [1, 1, 1, 1, 1, 1, 1, 0, 1, 0, 0]), (1, [0]), (0, [1, 1, 1, 1, 1, 1, 1, 1])].map (toItem (Tryz.f129.body.getD .skip))) [(0, .pointer t), (1, .int .i64 rhost), (2, .int .i64 rport), (8, .int .i64 s), (9, .int .i64 p), (11, .int .i64 n), (43, .bool t43)] w := by
  exact block_spec Tryz.func129 Tryz.mixed (stops_cons (fun σ w h => by
      obtain ⟨t_, e0, h⟩ := dP_elim h
      obtain ⟨rhost_, e1, h⟩ := dI_elim h
      obtain ⟨rport_, e2, h⟩ := dI_elim h
      obtain ⟨s_, e3, h⟩ := dI_elim h
      obtain ⟨p_, e4, h⟩ := dI_elim h
      obtain ⟨held_, e5, h⟩ := dI_elim h
      obtain ⟨n_, e6, h⟩ := dI_elim h
      exact (hN1 t_ rhost_ rport_ s_ p_ held_ n_ w h).weaken (Sub.cons (Sub.cons (Sub.cons (Sub.cons (Sub.cons (Sub.cons (Sub.cons (Sub.nil _) e6) e5) e4) e3) e2) e1) e0)) stops_nil) (Eq.mp (sock_Table_Connect.B3_eq t rhost rport s p n t43 w N1  R ) h)
def sock_Table_Connect.L1b (t : Option Addr) (rhost rport s p held n : Int) (w : World)  (N1 : Option Addr → Int → Int → Int → Int → Int → Int → World → Prop) (R : Int → Int → World → Prop) : Prop :=
  Bm (held != (0 : Int)) (
    sock_Table_Connect.B3 t rhost rport s p n (decide (n < (8 : Int))) w N1 R) (
    sock_Table_Connect.B3 t rhost rport s p n false w N1 R)
theorem sock_Table_Connect.L1b_eq (t : Option Addr) (rhost rport s p held n : Int) (w : World)  (N1 : Option Addr → Int → Int → Int → Int → Int → Int → World → Prop) (R : Int → Int → World → Prop) (sB3 : Option Addr → Int → Int → Int → Int → Int → Bool → World → Prop) :
    (
  Bm (held != (0 : Int)) (
    sB3 t rhost rport s p n (decide (n < (8 : Int))) w) (
    sB3 t rhost rport s p n false w)) = kstep Tryz.prog 67 Tryz.f129.results.toList (Tryz.f129.body.getD .skip) (sock_Table_Connect.RV R) (kvc Tryz.prog 67 Tryz.f129.results.toList (Tryz.f129.body.getD .skip) (sock_Table_Connect.RV R) [([(0, [1, 1, 1, 1, 1, 1, 1, 0, 1, 0, 0, 0, 1]), (0, [1, 1, 1, 1, 1, 1, 1, 0, 1, 0, 0, 1]), (2, [1, 1, 1, 1, 1, 1, 1, 0, 1, 0, 0]), (1, [0]), (0, [1, 1, 1, 1, 1, 1, 1, 1])], fun σ w => dP (slotOf σ 0) fun t_ => dI .i64 (slotOf σ 1) fun rhost_ => dI .i64 (slotOf σ 2) fun rport_ => dI .i64 (slotOf σ 8) fun s_ => dI .i64 (slotOf σ 9) fun p_ => dI .i64 (slotOf σ 11) fun n_ => dB (slotOf σ 43) fun t43_ => sB3 t_ rhost_ rport_ s_ p_ n_ t43_ w)] 2000) [(0, [1, 1, 1, 1, 1, 1, 1, 0, 1, 0, 0]), (2, [1, 1, 1, 1, 1, 1, 1, 0, 1, 0, 0]), (1, [0]), (0, [1, 1, 1, 1, 1, 1, 1, 1])] [(0, .pointer t), (1, .int .i64 rhost), (2, .int .i64 rport), (8, .int .i64 s), (9, .int .i64 p), (10, .int .i64 held), (11, .int .i64 n)] w := by kernel_rfl
theorem sock_Table_Connect.L1b_sound {R : Int → Int → World → Prop} {N1 : Option Addr → Int → Int → Int → Int → Int → Int → World → Prop} (hN1 : ∀ t rhost rport s p held n w, N1 t rhost rport s p held n w → KW Tryz.prog 129 67 (sock_Table_Connect.RV R) ([(0, [1, 1, 1, 1, 1, 1, 1, 0, 1, 0, 0]), (2, [1, 1, 1, 1, 1, 1, 1, 0, 1, 0, 0]), (1, [0]), (0, [1, 1, 1, 1, 1, 1, 1, 1])].map (toItem (Tryz.f129.body.getD .skip))) [(0, .pointer t), (1, .int .i64 rhost), (2, .int .i64 rport), (8, .int .i64 s), (9, .int .i64 p), (10, .int .i64 held), (11, .int .i64 n)] w) (t : Option Addr) (rhost rport s p held n : Int) (w : World) (h : sock_Table_Connect.L1b t rhost rport s p held n w  N1 R) :
    KW Tryz.prog 129 67 (sock_Table_Connect.RV R) ([(0, [1, 1, 1, 1, 1, 1, 1, 0, 1, 0, 0]), (2, [1, 1, 1, 1, 1, 1, 1, 0, 1, 0, 0]), (1, [0]), (0, [1, 1, 1, 1, 1, 1, 1, 1])].map (toItem (Tryz.f129.body.getD .skip))) [(0, .pointer t), (1, .int .i64 rhost), (2, .int .i64 rport), (8, .int .i64 s), (9, .int .i64 p), (10, .int .i64 held), (11, .int .i64 n)] w := by
  exact block_spec Tryz.func129 Tryz.mixed (stops_cons (fun σ w h => by
      obtain ⟨t_, e0, h⟩ := dP_elim h
      obtain ⟨rhost_, e1, h⟩ := dI_elim h
      obtain ⟨rport_, e2, h⟩ := dI_elim h
      obtain ⟨s_, e3, h⟩ := dI_elim h
      obtain ⟨p_, e4, h⟩ := dI_elim h
      obtain ⟨n_, e5, h⟩ := dI_elim h
      obtain ⟨t43_, e6, h⟩ := dB_elim h
      exact (sock_Table_Connect.B3_sound hN1 t_ rhost_ rport_ s_ p_ n_ t43_ w h).weaken (Sub.cons (Sub.cons (Sub.cons (Sub.cons (Sub.cons (Sub.cons (Sub.cons (Sub.nil _) e6) e5) e4) e3) e2) e1) e0)) stops_nil) (Eq.mp (sock_Table_Connect.L1b_eq t rhost rport s p held n w  N1 R (fun t_ rhost_ rport_ s_ p_ n_ t43_ w => sock_Table_Connect.B3 t_ rhost_ rport_ s_ p_ n_ t43_ w N1 R)) h)
def sock_Table_Connect.L1 (t : Option Addr) (rhost rport s p held n : Int) (w : World)  (R : Int → Int → World → Prop) : Prop :=
  ∃ (I : Nat → Option Addr → Int → Int → Int → Int → Int → Int → World → Prop) (m : Nat), I m t rhost rport s p held n w ∧ ∀ m t rhost rport s p held n w, I m t rhost rport s p held n w → sock_Table_Connect.L1b t rhost rport s p held n w  (fun t' rhost' rport' s' p' held' n' w' => ∃ m', m' < m ∧ I m' t' rhost' rport' s' p' held' n' w') R
theorem sock_Table_Connect.L1_sound {R : Int → Int → World → Prop}  (t : Option Addr) (rhost rport s p held n : Int) (w : World) (h : sock_Table_Connect.L1 t rhost rport s p held n w  R) :
    KW Tryz.prog 129 67 (sock_Table_Connect.RV R) ([(0, [1, 1, 1, 1, 1, 1, 1, 0, 1, 0, 0]), (2, [1, 1, 1, 1, 1, 1, 1, 0, 1, 0, 0]), (1, [0]), (0, [1, 1, 1, 1, 1, 1, 1, 1])].map (toItem (Tryz.f129.body.getD .skip))) [(0, .pointer t), (1, .int .i64 rhost), (2, .int .i64 rport), (8, .int .i64 s), (9, .int .i64 p), (10, .int .i64 held), (11, .int .i64 n)] w := by
  obtain ⟨I, m, hBase, hr⟩ := h
  refine KW.loop (fun m σ w => ∃ (t : Option Addr) (rhost rport s p held n : Int), σ = [(0, .pointer t), (1, .int .i64 rhost), (2, .int .i64 rport), (8, .int .i64 s), (9, .int .i64 p), (10, .int .i64 held), (11, .int .i64 n)] ∧ I m t rhost rport s p held n w) ?_ m _ w ⟨t, rhost, rport, s, p, held, n, rfl, hBase⟩
  rintro m ih σ w ⟨t, rhost, rport, s, p, held, n, rfl, hI⟩
  exact sock_Table_Connect.L1b_sound  (N1 := fun t' rhost' rport' s' p' held' n' w' => ∃ m', m' < m ∧ I m' t' rhost' rport' s' p' held' n' w') (fun t' rhost' rport' s' p' held' n' w' hx => by obtain ⟨m', hlt, hI'⟩ := hx; exact ih m' hlt _ w' ⟨t', rhost', rport', s', p', held', n', rfl, hI'⟩) t rhost rport s p held n w (hr m t rhost rport s p held n w hI)
def sock_Table_Connect.B2 (t : Option Addr) (rhost rport : Int) (t24 : Bool) (w : World)   (R : Int → Int → World → Prop) : Prop :=
  Bm t24 (
    R (0 : Int) (22 : Int) w) (
    sock_Table_lowBlock.Call t w fun r26 w1 =>
    Bm (r26 == (-1 : Int)) (
      R (0 : Int) (11 : Int) w1) (
      Pn t fun a =>
      LdI .i64 (a.add 106) w1 fun x32 =>
      sock_Table_Lookup.Call t x32 rhost rport w1 fun r37 w2 =>
      sock_Table_Connect.L1 t rhost rport r26 x32 r37 (0 : Int) w2  R))
theorem sock_Table_Connect.B2_eq (t : Option Addr) (rhost rport : Int) (t24 : Bool) (w : World)   (R : Int → Int → World → Prop) (sL1 : Option Addr → Int → Int → Int → Int → Int → Int → World → Prop) :
    (
  Bm t24 (
    R (0 : Int) (22 : Int) w) (
    sock_Table_lowBlock.Call t w fun r26 w1 =>
    Bm (r26 == (-1 : Int)) (
      R (0 : Int) (11 : Int) w1) (
      Pn t fun a =>
      LdI .i64 (a.add 106) w1 fun x32 =>
      sock_Table_Lookup.Call t x32 rhost rport w1 fun r37 w2 =>
      sL1 t rhost rport r26 x32 r37 (0 : Int) w2))) = kstep Tryz.prog 67 Tryz.f129.results.toList (Tryz.f129.body.getD .skip) (sock_Table_Connect.RV R) (kvc Tryz.prog 67 Tryz.f129.results.toList (Tryz.f129.body.getD .skip) (sock_Table_Connect.RV R) [([(0, [1, 1, 1, 1, 1, 1, 1, 0, 1, 0, 0]), (2, [1, 1, 1, 1, 1, 1, 1, 0, 1, 0, 0]), (1, [0]), (0, [1, 1, 1, 1, 1, 1, 1, 1])], fun σ w => dP (slotOf σ 0) fun t_ => dI .i64 (slotOf σ 1) fun rhost_ => dI .i64 (slotOf σ 2) fun rport_ => dI .i64 (slotOf σ 8) fun s_ => dI .i64 (slotOf σ 9) fun p_ => dI .i64 (slotOf σ 10) fun held_ => dI .i64 (slotOf σ 11) fun n_ => sL1 t_ rhost_ rport_ s_ p_ held_ n_ w)] 2000) [(0, [1, 1, 0, 1]), (0, [1, 1, 1])] [(0, .pointer t), (1, .int .i64 rhost), (2, .int .i64 rport), (24, .bool t24)] w := by kernel_rfl
theorem sock_Table_Connect.B2_sound {R : Int → Int → World → Prop}  (t : Option Addr) (rhost rport : Int) (t24 : Bool) (w : World) (h : sock_Table_Connect.B2 t rhost rport t24 w   R) :
    KW Tryz.prog 129 67 (sock_Table_Connect.RV R) ([(0, [1, 1, 0, 1]), (0, [1, 1, 1])].map (toItem (Tryz.f129.body.getD .skip))) [(0, .pointer t), (1, .int .i64 rhost), (2, .int .i64 rport), (24, .bool t24)] w := by
  exact block_spec Tryz.func129 Tryz.mixed (stops_cons (fun σ w h => by
      obtain ⟨t_, e0, h⟩ := dP_elim h
      obtain ⟨rhost_, e1, h⟩ := dI_elim h
      obtain ⟨rport_, e2, h⟩ := dI_elim h
      obtain ⟨s_, e3, h⟩ := dI_elim h
      obtain ⟨p_, e4, h⟩ := dI_elim h
      obtain ⟨held_, e5, h⟩ := dI_elim h
      obtain ⟨n_, e6, h⟩ := dI_elim h
      exact (sock_Table_Connect.L1_sound  t_ rhost_ rport_ s_ p_ held_ n_ w h).weaken (Sub.cons (Sub.cons (Sub.cons (Sub.cons (Sub.cons (Sub.cons (Sub.cons (Sub.nil _) e6) e5) e4) e3) e2) e1) e0)) stops_nil) (Eq.mp (sock_Table_Connect.B2_eq t rhost rport t24 w   R (fun t_ rhost_ rport_ s_ p_ held_ n_ w => sock_Table_Connect.L1 t_ rhost_ rport_ s_ p_ held_ n_ w  R)) h)
def sock_Table_Connect.B1 (t : Option Addr) (rhost rport : Int) (t18 : Bool) (w : World)   (R : Int → Int → World → Prop) : Prop :=
  Bm t18 (
    R (0 : Int) (5 : Int) w) (
    Bm (decide (rport < (1 : Int))) (
      sock_Table_Connect.B2 t rhost rport true w  R) (
      sock_Table_Connect.B2 t rhost rport (decide (rport > (15 : Int))) w  R))
theorem sock_Table_Connect.B1_eq (t : Option Addr) (rhost rport : Int) (t18 : Bool) (w : World)   (R : Int → Int → World → Prop) (sB2 : Option Addr → Int → Int → Bool → World → Prop) :
    (
  Bm t18 (
    R (0 : Int) (5 : Int) w) (
    Bm (decide (rport < (1 : Int))) (
      sB2 t rhost rport true w) (
      sB2 t rhost rport (decide (rport > (15 : Int))) w))) = kstep Tryz.prog 67 Tryz.f129.results.toList (Tryz.f129.body.getD .skip) (sock_Table_Connect.RV R) (kvc Tryz.prog 67 Tryz.f129.results.toList (Tryz.f129.body.getD .skip) (sock_Table_Connect.RV R) [([(0, [1, 1, 0, 1]), (0, [1, 1, 1])], fun σ w => dP (slotOf σ 0) fun t_ => dI .i64 (slotOf σ 1) fun rhost_ => dI .i64 (slotOf σ 2) fun rport_ => dB (slotOf σ 24) fun t24_ => sB2 t_ rhost_ rport_ t24_ w)] 2000) [(0, [1, 0, 1]), (0, [1, 1])] [(0, .pointer t), (1, .int .i64 rhost), (2, .int .i64 rport), (18, .bool t18)] w := by kernel_rfl
theorem sock_Table_Connect.B1_sound {R : Int → Int → World → Prop}  (t : Option Addr) (rhost rport : Int) (t18 : Bool) (w : World) (h : sock_Table_Connect.B1 t rhost rport t18 w   R) :
    KW Tryz.prog 129 67 (sock_Table_Connect.RV R) ([(0, [1, 0, 1]), (0, [1, 1])].map (toItem (Tryz.f129.body.getD .skip))) [(0, .pointer t), (1, .int .i64 rhost), (2, .int .i64 rport), (18, .bool t18)] w := by
  exact block_spec Tryz.func129 Tryz.mixed (stops_cons (fun σ w h => by
      obtain ⟨t_, e0, h⟩ := dP_elim h
      obtain ⟨rhost_, e1, h⟩ := dI_elim h
      obtain ⟨rport_, e2, h⟩ := dI_elim h
      obtain ⟨t24_, e3, h⟩ := dB_elim h
      exact (sock_Table_Connect.B2_sound  t_ rhost_ rport_ t24_ w h).weaken (Sub.cons (Sub.cons (Sub.cons (Sub.cons (Sub.nil _) e3) e2) e1) e0)) stops_nil) (Eq.mp (sock_Table_Connect.B1_eq t rhost rport t18 w   R (fun t_ rhost_ rport_ t24_ w => sock_Table_Connect.B2 t_ rhost_ rport_ t24_ w  R)) h)
def sock_Table_Connect.B0 (t : Option Addr) (rhost rport : Int) (w : World)   (R : Int → Int → World → Prop) : Prop :=
  Bm (decide (rhost < (1 : Int))) (
    sock_Table_Connect.B1 t rhost rport true w  R) (
    sock_Table_Connect.B1 t rhost rport (decide (rhost > (255 : Int))) w  R)
theorem sock_Table_Connect.B0_eq (t : Option Addr) (rhost rport : Int) (w : World)   (R : Int → Int → World → Prop) (sB1 : Option Addr → Int → Int → Bool → World → Prop) :
    (
  Bm (decide (rhost < (1 : Int))) (
    sB1 t rhost rport true w) (
    sB1 t rhost rport (decide (rhost > (255 : Int))) w)) = kstep Tryz.prog 67 Tryz.f129.results.toList (Tryz.f129.body.getD .skip) (sock_Table_Connect.RV R) (kvc Tryz.prog 67 Tryz.f129.results.toList (Tryz.f129.body.getD .skip) (sock_Table_Connect.RV R) [([(0, [1, 0, 1]), (0, [1, 1])], fun σ w => dP (slotOf σ 0) fun t_ => dI .i64 (slotOf σ 1) fun rhost_ => dI .i64 (slotOf σ 2) fun rport_ => dB (slotOf σ 18) fun t18_ => sB1 t_ rhost_ rport_ t18_ w)] 2000) [(0, [])] [(0, .pointer t), (1, .int .i64 rhost), (2, .int .i64 rport)] w := by kernel_rfl
theorem sock_Table_Connect.B0_sound {R : Int → Int → World → Prop}  (t : Option Addr) (rhost rport : Int) (w : World) (h : sock_Table_Connect.B0 t rhost rport w   R) :
    KW Tryz.prog 129 67 (sock_Table_Connect.RV R) ([(0, [])].map (toItem (Tryz.f129.body.getD .skip))) [(0, .pointer t), (1, .int .i64 rhost), (2, .int .i64 rport)] w := by
  exact block_spec Tryz.func129 Tryz.mixed (stops_cons (fun σ w h => by
      obtain ⟨t_, e0, h⟩ := dP_elim h
      obtain ⟨rhost_, e1, h⟩ := dI_elim h
      obtain ⟨rport_, e2, h⟩ := dI_elim h
      obtain ⟨t18_, e3, h⟩ := dB_elim h
      exact (sock_Table_Connect.B1_sound  t_ rhost_ rport_ t18_ w h).weaken (Sub.cons (Sub.cons (Sub.cons (Sub.cons (Sub.nil _) e3) e2) e1) e0)) stops_nil) (Eq.mp (sock_Table_Connect.B0_eq t rhost rport w   R (fun t_ rhost_ rport_ t18_ w => sock_Table_Connect.B1 t_ rhost_ rport_ t18_ w  R)) h)
theorem sock_Table_Connect.sound (t : Option Addr) (rhost rport : Int) (w : World) (R : Int → Int → World → Prop) (h : sock_Table_Connect.B0 t rhost rport w R) : sock_Table_Connect.Call t rhost rport w R := by
  have hc := calls_of_block (args := #[.pointer t, .int .i64 rhost, .int .i64 rport]) Tryz.func129 (body := (Tryz.f129.body.getD .skip)) (by kernel_rfl) (by kernel_rfl) (args_slot _) (sock_Table_Connect.B0_sound t rhost rport w h)
  exact hc.mono fun e w' he => by
    obtain ⟨v, rfl, hv⟩ := he
    exact sock_Table_Connect.RV_elim hv
def conn_Conn_OpenActive.B0 (c : Option Addr) (iss : Int) (w : World)   (R : Option Addr → Nat → Nat → Int → World → Prop) : Prop :=
  Pn c fun a =>
  LdI .i64 (a.add 2) w fun x10 =>
  Bm (x10 != (0 : Int)) (
    R none 0 0 (13 : Int) w) (
    conn_Conn_begin.Call c (1 : Int) iss w fun w1 =>
    conn_Conn_again.Call c w1 fun r16_0 r16_1 r16_2 r16_3 r16_4 r16_5 r16_6_b r16_6_l r16_6_c w2 =>
    New (.cells #[.int .i64 (0 : Int), .int .i64 (0 : Int), .int .i64 (0 : Int), .int .i64 (0 : Int), .int .i64 (0 : Int), .int .i64 (0 : Int), .slice none 0 0] 177) w2 fun s_ w3 =>
    Sts [.int .i64 r16_0, .int .i64 r16_1, .int .i64 r16_2, .int .i64 r16_3, .int .i64 r16_4, .int .i64 r16_5, .slice r16_6_b r16_6_l r16_6_c] ⟨s_, 0, none⟩ 0 w3 fun w4 =>
    LdI .i64 ⟨s_, 0, none⟩ w4 fun x17_0 =>
    LdI .i64 ⟨s_, 1, none⟩ w4 fun x17_1 =>
    LdI .i64 ⟨s_, 2, none⟩ w4 fun x17_2 =>
    LdI .i64 ⟨s_, 3, none⟩ w4 fun x17_3 =>
    LdI .i64 ⟨s_, 4, none⟩ w4 fun x17_4 =>
    LdI .i64 ⟨s_, 5, none⟩ w4 fun x17_5 =>
    LdL ⟨s_, 6, none⟩ w4 fun x17_6_b x17_6_l x17_6_c =>
    conn_one.Call x17_0 x17_1 x17_2 x17_3 x17_4 x17_5 x17_6_b x17_6_l x17_6_c w4 fun r18_b r18_l r18_c w5 =>
    R r18_b r18_l r18_c (0 : Int) w5)
theorem conn_Conn_OpenActive.B0_eq (c : Option Addr) (iss : Int) (w : World)   (R : Option Addr → Nat → Nat → Int → World → Prop)  :
    (
  Pn c fun a =>
  LdI .i64 (a.add 2) w fun x10 =>
  Bm (x10 != (0 : Int)) (
    R none 0 0 (13 : Int) w) (
    conn_Conn_begin.Call c (1 : Int) iss w fun w1 =>
    conn_Conn_again.Call c w1 fun r16_0 r16_1 r16_2 r16_3 r16_4 r16_5 r16_6_b r16_6_l r16_6_c w2 =>
    New (.cells #[.int .i64 (0 : Int), .int .i64 (0 : Int), .int .i64 (0 : Int), .int .i64 (0 : Int), .int .i64 (0 : Int), .int .i64 (0 : Int), .slice none 0 0] 177) w2 fun s_ w3 =>
    Sts [.int .i64 r16_0, .int .i64 r16_1, .int .i64 r16_2, .int .i64 r16_3, .int .i64 r16_4, .int .i64 r16_5, .slice r16_6_b r16_6_l r16_6_c] ⟨s_, 0, none⟩ 0 w3 fun w4 =>
    LdI .i64 ⟨s_, 0, none⟩ w4 fun x17_0 =>
    LdI .i64 ⟨s_, 1, none⟩ w4 fun x17_1 =>
    LdI .i64 ⟨s_, 2, none⟩ w4 fun x17_2 =>
    LdI .i64 ⟨s_, 3, none⟩ w4 fun x17_3 =>
    LdI .i64 ⟨s_, 4, none⟩ w4 fun x17_4 =>
    LdI .i64 ⟨s_, 5, none⟩ w4 fun x17_5 =>
    LdL ⟨s_, 6, none⟩ w4 fun x17_6_b x17_6_l x17_6_c =>
    conn_one.Call x17_0 x17_1 x17_2 x17_3 x17_4 x17_5 x17_6_b x17_6_l x17_6_c w4 fun r18_b r18_l r18_c w5 =>
    R r18_b r18_l r18_c (0 : Int) w5)) = kstep Tryz.prog 19 Tryz.f130.results.toList (Tryz.f130.body.getD .skip) (conn_Conn_OpenActive.RV R) (kvc Tryz.prog 19 Tryz.f130.results.toList (Tryz.f130.body.getD .skip) (conn_Conn_OpenActive.RV R) [] 2000) [(0, [])] [(0, .pointer c), (1, .int .i64 iss)] w := by kernel_rfl
theorem conn_Conn_OpenActive.B0_sound {R : Option Addr → Nat → Nat → Int → World → Prop}  (c : Option Addr) (iss : Int) (w : World) (h : conn_Conn_OpenActive.B0 c iss w   R) :
    KW Tryz.prog 130 19 (conn_Conn_OpenActive.RV R) ([(0, [])].map (toItem (Tryz.f130.body.getD .skip))) [(0, .pointer c), (1, .int .i64 iss)] w := by
  exact block_spec Tryz.func130 Tryz.mixed stops_nil (Eq.mp (conn_Conn_OpenActive.B0_eq c iss w   R ) h)
theorem conn_Conn_OpenActive.sound (c : Option Addr) (iss : Int) (w : World) (R : Option Addr → Nat → Nat → Int → World → Prop) (h : conn_Conn_OpenActive.B0 c iss w R) : conn_Conn_OpenActive.Call c iss w R := by
  have hc := calls_of_block (args := #[.pointer c, .int .i64 iss]) Tryz.func130 (body := (Tryz.f130.body.getD .skip)) (by kernel_rfl) (by kernel_rfl) (args_slot _) (conn_Conn_OpenActive.B0_sound c iss w h)
  exact hc.mono fun e w' he => by
    obtain ⟨v, rfl, hv⟩ := he
    exact conn_Conn_OpenActive.RV_elim hv
def sock_Table_Accept.B1 (t : Option Addr) (l : Int) (t24 : Bool) (w : World)   (R : Int → Int → World → Prop) : Prop :=
  Bm t24 (
    R (0 : Int) (21 : Int) w) (
    Pn t fun a =>
    (0 ≤ l ∧ l < ((6 : Nat) : Int)) ∧
    LdI .i64 ((Addr.add a (l.toNat * 15)).add 14) w fun x31 =>
    Bm (x31 == (0 : Int)) (
      R (0 : Int) (14 : Int) w) (
      sock_Table_dequeue.Call t l w fun r35 w1 =>
      Pn t fun a_1 =>
      (0 ≤ l ∧ l < ((6 : Nat) : Int)) ∧
      LdI .i64 ((Addr.add a_1 (l.toNat * 15)).add 10) w1.drew fun x42 =>
      Pn t fun a_2 =>
      (0 ≤ l ∧ l < ((6 : Nat) : Int)) ∧
      Sts [.int .i64 (IntKind.i64.wrap (x42 - (1 : Int)))] ((Addr.add a_2 (l.toNat * 15)).add 10) 0 w1.drew fun w2 =>
      sock_Table_find.Call t r35 w2 fun r50 w3 =>
      Bm (r50 != (-1 : Int)) (
        Pn t fun a_3 =>
        (0 ≤ r50 ∧ r50 < ((6 : Nat) : Int)) ∧
        Sts [.int .i64 (0 : Int)] (((Addr.add a_3 (r50.toNat * 15)).add 1).add 6) 0 w3 fun w4 =>
        Pn t fun a_4 =>
        (0 ≤ r50 ∧ r50 < ((6 : Nat) : Int)) ∧
        Sts [.bool false] (((Addr.add a_4 (r50.toNat * 15)).add 1).add 7) 0 w4 fun w5 =>
        R r35 (0 : Int) w5) (
        R r35 (0 : Int) w3)))
theorem sock_Table_Accept.B1_eq (t : Option Addr) (l : Int) (t24 : Bool) (w : World)   (R : Int → Int → World → Prop)  :
    (
  Bm t24 (
    R (0 : Int) (21 : Int) w) (
    Pn t fun a =>
    (0 ≤ l ∧ l < ((6 : Nat) : Int)) ∧
    LdI .i64 ((Addr.add a (l.toNat * 15)).add 14) w fun x31 =>
    Bm (x31 == (0 : Int)) (
      R (0 : Int) (14 : Int) w) (
      sock_Table_dequeue.Call t l w fun r35 w1 =>
      Pn t fun a_1 =>
      (0 ≤ l ∧ l < ((6 : Nat) : Int)) ∧
      LdI .i64 ((Addr.add a_1 (l.toNat * 15)).add 10) w1.drew fun x42 =>
      Pn t fun a_2 =>
      (0 ≤ l ∧ l < ((6 : Nat) : Int)) ∧
      Sts [.int .i64 (IntKind.i64.wrap (x42 - (1 : Int)))] ((Addr.add a_2 (l.toNat * 15)).add 10) 0 w1.drew fun w2 =>
      sock_Table_find.Call t r35 w2 fun r50 w3 =>
      Bm (r50 != (-1 : Int)) (
        Pn t fun a_3 =>
        (0 ≤ r50 ∧ r50 < ((6 : Nat) : Int)) ∧
        Sts [.int .i64 (0 : Int)] (((Addr.add a_3 (r50.toNat * 15)).add 1).add 6) 0 w3 fun w4 =>
        Pn t fun a_4 =>
        (0 ≤ r50 ∧ r50 < ((6 : Nat) : Int)) ∧
        Sts [.bool false] (((Addr.add a_4 (r50.toNat * 15)).add 1).add 7) 0 w4 fun w5 =>
        R r35 (0 : Int) w5) (
        R r35 (0 : Int) w3)))) = kstep Tryz.prog 68 Tryz.f131.results.toList (Tryz.f131.body.getD .skip) (sock_Table_Accept.RV R) (kvc Tryz.prog 68 Tryz.f131.results.toList (Tryz.f131.body.getD .skip) (sock_Table_Accept.RV R) [] 2000) [(0, [1, 1, 0, 1]), (0, [1, 1, 1])] [(0, .pointer t), (6, .int .i64 l), (24, .bool t24)] w := by kernel_rfl
theorem sock_Table_Accept.B1_sound {R : Int → Int → World → Prop}  (t : Option Addr) (l : Int) (t24 : Bool) (w : World) (h : sock_Table_Accept.B1 t l t24 w   R) :
    KW Tryz.prog 131 68 (sock_Table_Accept.RV R) ([(0, [1, 1, 0, 1]), (0, [1, 1, 1])].map (toItem (Tryz.f131.body.getD .skip))) [(0, .pointer t), (6, .int .i64 l), (24, .bool t24)] w := by
  exact block_spec Tryz.func131 Tryz.mixed stops_nil (Eq.mp (sock_Table_Accept.B1_eq t l t24 w   R ) h)
def sock_Table_Accept.B0 (t : Option Addr) (lsd : Int) (w : World)   (R : Int → Int → World → Prop) : Prop :=
  sock_Table_find.Call t lsd w fun r11 w1 =>
  Bm (r11 == (-1 : Int)) (
    sock_Table_Accept.B1 t r11 true w1  R) (
    Pn t fun a =>
    (0 ≤ r11 ∧ r11 < ((6 : Nat) : Int)) ∧
    LdI .i64 (((Addr.add a (r11.toNat * 15)).add 1).add 1) w1 fun x22 =>
    sock_Table_Accept.B1 t r11 (x22 != (1 : Int)) w1  R)
theorem sock_Table_Accept.B0_eq (t : Option Addr) (lsd : Int) (w : World)   (R : Int → Int → World → Prop) (sB1 : Option Addr → Int → Bool → World → Prop) :
    (
  sock_Table_find.Call t lsd w fun r11 w1 =>
  Bm (r11 == (-1 : Int)) (
    sB1 t r11 true w1) (
    Pn t fun a =>
    (0 ≤ r11 ∧ r11 < ((6 : Nat) : Int)) ∧
    LdI .i64 (((Addr.add a (r11.toNat * 15)).add 1).add 1) w1 fun x22 =>
    sB1 t r11 (x22 != (1 : Int)) w1)) = kstep Tryz.prog 68 Tryz.f131.results.toList (Tryz.f131.body.getD .skip) (sock_Table_Accept.RV R) (kvc Tryz.prog 68 Tryz.f131.results.toList (Tryz.f131.body.getD .skip) (sock_Table_Accept.RV R) [([(0, [1, 1, 0, 1]), (0, [1, 1, 1])], fun σ w => dP (slotOf σ 0) fun t_ => dI .i64 (slotOf σ 6) fun l_ => dB (slotOf σ 24) fun t24_ => sB1 t_ l_ t24_ w)] 2000) [(0, [])] [(0, .pointer t), (1, .int .i64 lsd)] w := by kernel_rfl
theorem sock_Table_Accept.B0_sound {R : Int → Int → World → Prop}  (t : Option Addr) (lsd : Int) (w : World) (h : sock_Table_Accept.B0 t lsd w   R) :
    KW Tryz.prog 131 68 (sock_Table_Accept.RV R) ([(0, [])].map (toItem (Tryz.f131.body.getD .skip))) [(0, .pointer t), (1, .int .i64 lsd)] w := by
  exact block_spec Tryz.func131 Tryz.mixed (stops_cons (fun σ w h => by
      obtain ⟨t_, e0, h⟩ := dP_elim h
      obtain ⟨l_, e1, h⟩ := dI_elim h
      obtain ⟨t24_, e2, h⟩ := dB_elim h
      exact (sock_Table_Accept.B1_sound  t_ l_ t24_ w h).weaken (Sub.cons (Sub.cons (Sub.cons (Sub.nil _) e2) e1) e0)) stops_nil) (Eq.mp (sock_Table_Accept.B0_eq t lsd w   R (fun t_ l_ t24_ w => sock_Table_Accept.B1 t_ l_ t24_ w  R)) h)
theorem sock_Table_Accept.sound (t : Option Addr) (lsd : Int) (w : World) (R : Int → Int → World → Prop) (h : sock_Table_Accept.B0 t lsd w R) : sock_Table_Accept.Call t lsd w R := by
  have hc := calls_of_block (args := #[.pointer t, .int .i64 lsd]) Tryz.func131 (body := (Tryz.f131.body.getD .skip)) (by kernel_rfl) (by kernel_rfl) (args_slot _) (sock_Table_Accept.B0_sound t lsd w h)
  exact hc.mono fun e w' he => by
    obtain ⟨v, rfl, hv⟩ := he
    exact sock_Table_Accept.RV_elim hv
def hostm_ended.B0 (c : Option Addr) (w : World)   (R : Int → World → Prop) : Prop :=
  Pn c fun a =>
  LdI .i64 (a.add 1) w fun x6 =>
  Bm (x6 != (0 : Int)) (
    Pn c fun a_1 =>
    LdI .i64 (a_1.add 1) w fun x11 =>
    R x11 w) (
    R (15 : Int) w)
theorem hostm_ended.B0_eq (c : Option Addr) (w : World)   (R : Int → World → Prop)  :
    (
  Pn c fun a =>
  LdI .i64 (a.add 1) w fun x6 =>
  Bm (x6 != (0 : Int)) (
    Pn c fun a_1 =>
    LdI .i64 (a_1.add 1) w fun x11 =>
    R x11 w) (
    R (15 : Int) w)) = kstep Tryz.prog 12 Tryz.f132.results.toList (Tryz.f132.body.getD .skip) (hostm_ended.RV R) (kvc Tryz.prog 12 Tryz.f132.results.toList (Tryz.f132.body.getD .skip) (hostm_ended.RV R) [] 2000) [(0, [])] [(0, .pointer c)] w := by kernel_rfl
theorem hostm_ended.B0_sound {R : Int → World → Prop}  (c : Option Addr) (w : World) (h : hostm_ended.B0 c w   R) :
    KW Tryz.prog 132 12 (hostm_ended.RV R) ([(0, [])].map (toItem (Tryz.f132.body.getD .skip))) [(0, .pointer c)] w := by
  exact block_spec Tryz.func132 Tryz.mixed stops_nil (Eq.mp (hostm_ended.B0_eq c w   R ) h)
theorem hostm_ended.sound (c : Option Addr) (w : World) (R : Int → World → Prop) (h : hostm_ended.B0 c w R) : hostm_ended.Call c w R := by
  have hc := calls_of_block (args := #[.pointer c]) Tryz.func132 (body := (Tryz.f132.body.getD .skip)) (by kernel_rfl) (by kernel_rfl) (args_slot _) (hostm_ended.B0_sound c w h)
  exact hc.mono fun e w' he => by
    obtain ⟨v, rfl, hv⟩ := he
    exact hostm_ended.RV_elim hv
def host_Host_ours.B0 (h0 : Option Addr) (sd : Int) (w : World)   (R : Int → Int → Int → Int → Int → Int → Int → Bool → Bool → World → Prop) : Prop :=
  New (.cells #[.int .i64 (0 : Int), .int .i64 (0 : Int), .int .i64 (0 : Int), .int .i64 (0 : Int), .int .i64 (0 : Int), .int .i64 (0 : Int), .int .i64 (0 : Int), .bool false] 66) w fun b4 w1 =>
  Pn h0 fun a =>
  LdP (a.add 17) w1 fun x12 =>
  sock_Table_Get.Call x12 sd w1 fun r14_0_0 r14_0_1 r14_0_2 r14_0_3 r14_0_4 r14_0_5 r14_0_6 r14_0_7 r14_1 w2 =>
  New (.cells #[.int .i64 (0 : Int), .int .i64 (0 : Int), .int .i64 (0 : Int), .int .i64 (0 : Int), .int .i64 (0 : Int), .int .i64 (0 : Int), .int .i64 (0 : Int), .bool false] 66) w2 fun en_ w3 =>
  Sts [.int .i64 r14_0_0, .int .i64 r14_0_1, .int .i64 r14_0_2, .int .i64 r14_0_3, .int .i64 r14_0_4, .int .i64 r14_0_5, .int .i64 r14_0_6, .bool r14_0_7] ⟨en_, 0, none⟩ 0 w3 fun w4 =>
  LdI .i64 ⟨en_, 0, none⟩ w4.drew fun x17_0 =>
  LdI .i64 ⟨en_, 1, none⟩ w4.drew fun x17_1 =>
  LdI .i64 ⟨en_, 2, none⟩ w4.drew fun x17_2 =>
  LdI .i64 ⟨en_, 3, none⟩ w4.drew fun x17_3 =>
  LdI .i64 ⟨en_, 4, none⟩ w4.drew fun x17_4 =>
  LdI .i64 ⟨en_, 5, none⟩ w4.drew fun x17_5 =>
  LdI .i64 ⟨en_, 6, none⟩ w4.drew fun x17_6 =>
  LdB ⟨en_, 7, none⟩ w4.drew fun x17_7 =>
  Bm (r14_1 == (0 : Int)) (
    LdI .i64 ⟨en_, 1, none⟩ w4.drew fun x22 =>
    Bm (x22 == (2 : Int)) (
      LdI .i64 ⟨en_, 6, none⟩ w4.drew fun x27 =>
      Sts [.int .i64 x17_0, .int .i64 x17_1, .int .i64 x17_2, .int .i64 x17_3, .int .i64 x17_4, .int .i64 x17_5, .int .i64 x17_6, .bool x17_7] ⟨b4, 0, none⟩ 0 w4.drew fun w5 =>
      w5.cell? ⟨en_, 6, none⟩ = some (.int .i64 x27) ∧
      LdI .i64 ⟨b4, 0, none⟩ w5 fun r_0 =>
      LdI .i64 ⟨b4, 1, none⟩ w5 fun r_1 =>
      LdI .i64 ⟨b4, 2, none⟩ w5 fun r_2 =>
      LdI .i64 ⟨b4, 3, none⟩ w5 fun r_3 =>
      LdI .i64 ⟨b4, 4, none⟩ w5 fun r_4 =>
      LdI .i64 ⟨b4, 5, none⟩ w5 fun r_5 =>
      LdI .i64 ⟨b4, 6, none⟩ w5 fun r_6 =>
      LdB ⟨b4, 7, none⟩ w5 fun r_7 =>
      R r_0 r_1 r_2 r_3 r_4 r_5 r_6 r_7 (x27 == (0 : Int)) w5) (
      Sts [.int .i64 x17_0, .int .i64 x17_1, .int .i64 x17_2, .int .i64 x17_3, .int .i64 x17_4, .int .i64 x17_5, .int .i64 x17_6, .bool x17_7] ⟨b4, 0, none⟩ 0 w4.drew fun w6 =>
      LdI .i64 ⟨b4, 0, none⟩ w6 fun r_0_1 =>
      LdI .i64 ⟨b4, 1, none⟩ w6 fun r_1_1 =>
      LdI .i64 ⟨b4, 2, none⟩ w6 fun r_2_1 =>
      LdI .i64 ⟨b4, 3, none⟩ w6 fun r_3_1 =>
      LdI .i64 ⟨b4, 4, none⟩ w6 fun r_4_1 =>
      LdI .i64 ⟨b4, 5, none⟩ w6 fun r_5_1 =>
      LdI .i64 ⟨b4, 6, none⟩ w6 fun r_6_1 =>
      LdB ⟨b4, 7, none⟩ w6 fun r_7_1 =>
      R r_0_1 r_1_1 r_2_1 r_3_1 r_4_1 r_5_1 r_6_1 r_7_1 false w6)) (
    Sts [.int .i64 x17_0, .int .i64 x17_1, .int .i64 x17_2, .int .i64 x17_3, .int .i64 x17_4, .int .i64 x17_5, .int .i64 x17_6, .bool x17_7] ⟨b4, 0, none⟩ 0 w4.drew fun w7 =>
    LdI .i64 ⟨b4, 0, none⟩ w7 fun r_0_2 =>
    LdI .i64 ⟨b4, 1, none⟩ w7 fun r_1_2 =>
    LdI .i64 ⟨b4, 2, none⟩ w7 fun r_2_2 =>
    LdI .i64 ⟨b4, 3, none⟩ w7 fun r_3_2 =>
    LdI .i64 ⟨b4, 4, none⟩ w7 fun r_4_2 =>
    LdI .i64 ⟨b4, 5, none⟩ w7 fun r_5_2 =>
    LdI .i64 ⟨b4, 6, none⟩ w7 fun r_6_2 =>
    LdB ⟨b4, 7, none⟩ w7 fun r_7_2 =>
    R r_0_2 r_1_2 r_2_2 r_3_2 r_4_2 r_5_2 r_6_2 r_7_2 false w7)
theorem host_Host_ours.B0_eq (h0 : Option Addr) (sd : Int) (w : World)   (R : Int → Int → Int → Int → Int → Int → Int → Bool → Bool → World → Prop)  :
    (
  New (.cells #[.int .i64 (0 : Int), .int .i64 (0 : Int), .int .i64 (0 : Int), .int .i64 (0 : Int), .int .i64 (0 : Int), .int .i64 (0 : Int), .int .i64 (0 : Int), .bool false] 66) w fun b4 w1 =>
  Pn h0 fun a =>
  LdP (a.add 17) w1 fun x12 =>
  sock_Table_Get.Call x12 sd w1 fun r14_0_0 r14_0_1 r14_0_2 r14_0_3 r14_0_4 r14_0_5 r14_0_6 r14_0_7 r14_1 w2 =>
  New (.cells #[.int .i64 (0 : Int), .int .i64 (0 : Int), .int .i64 (0 : Int), .int .i64 (0 : Int), .int .i64 (0 : Int), .int .i64 (0 : Int), .int .i64 (0 : Int), .bool false] 66) w2 fun en_ w3 =>
  Sts [.int .i64 r14_0_0, .int .i64 r14_0_1, .int .i64 r14_0_2, .int .i64 r14_0_3, .int .i64 r14_0_4, .int .i64 r14_0_5, .int .i64 r14_0_6, .bool r14_0_7] ⟨en_, 0, none⟩ 0 w3 fun w4 =>
  LdI .i64 ⟨en_, 0, none⟩ w4.drew fun x17_0 =>
  LdI .i64 ⟨en_, 1, none⟩ w4.drew fun x17_1 =>
  LdI .i64 ⟨en_, 2, none⟩ w4.drew fun x17_2 =>
  LdI .i64 ⟨en_, 3, none⟩ w4.drew fun x17_3 =>
  LdI .i64 ⟨en_, 4, none⟩ w4.drew fun x17_4 =>
  LdI .i64 ⟨en_, 5, none⟩ w4.drew fun x17_5 =>
  LdI .i64 ⟨en_, 6, none⟩ w4.drew fun x17_6 =>
  LdB ⟨en_, 7, none⟩ w4.drew fun x17_7 =>
  Bm (r14_1 == (0 : Int)) (
    LdI .i64 ⟨en_, 1, none⟩ w4.drew fun x22 =>
    Bm (x22 == (2 : Int)) (
      LdI .i64 ⟨en_, 6, none⟩ w4.drew fun x27 =>
      Sts [.int .i64 x17_0, .int .i64 x17_1, .int .i64 x17_2, .int .i64 x17_3, .int .i64 x17_4, .int .i64 x17_5, .int .i64 x17_6, .bool x17_7] ⟨b4, 0, none⟩ 0 w4.drew fun w5 =>
      w5.cell? ⟨en_, 6, none⟩ = some (.int .i64 x27) ∧
      LdI .i64 ⟨b4, 0, none⟩ w5 fun r_0 =>
      LdI .i64 ⟨b4, 1, none⟩ w5 fun r_1 =>
      LdI .i64 ⟨b4, 2, none⟩ w5 fun r_2 =>
      LdI .i64 ⟨b4, 3, none⟩ w5 fun r_3 =>
      LdI .i64 ⟨b4, 4, none⟩ w5 fun r_4 =>
      LdI .i64 ⟨b4, 5, none⟩ w5 fun r_5 =>
      LdI .i64 ⟨b4, 6, none⟩ w5 fun r_6 =>
      LdB ⟨b4, 7, none⟩ w5 fun r_7 =>
      R r_0 r_1 r_2 r_3 r_4 r_5 r_6 r_7 (x27 == (0 : Int)) w5) (
      Sts [.int .i64 x17_0, .int .i64 x17_1, .int .i64 x17_2, .int .i64 x17_3, .int .i64 x17_4, .int .i64 x17_5, .int .i64 x17_6, .bool x17_7] ⟨b4, 0, none⟩ 0 w4.drew fun w6 =>
      LdI .i64 ⟨b4, 0, none⟩ w6 fun r_0_1 =>
      LdI .i64 ⟨b4, 1, none⟩ w6 fun r_1_1 =>
      LdI .i64 ⟨b4, 2, none⟩ w6 fun r_2_1 =>
      LdI .i64 ⟨b4, 3, none⟩ w6 fun r_3_1 =>
      LdI .i64 ⟨b4, 4, none⟩ w6 fun r_4_1 =>
      LdI .i64 ⟨b4, 5, none⟩ w6 fun r_5_1 =>
      LdI .i64 ⟨b4, 6, none⟩ w6 fun r_6_1 =>
      LdB ⟨b4, 7, none⟩ w6 fun r_7_1 =>
      R r_0_1 r_1_1 r_2_1 r_3_1 r_4_1 r_5_1 r_6_1 r_7_1 false w6)) (
    Sts [.int .i64 x17_0, .int .i64 x17_1, .int .i64 x17_2, .int .i64 x17_3, .int .i64 x17_4, .int .i64 x17_5, .int .i64 x17_6, .bool x17_7] ⟨b4, 0, none⟩ 0 w4.drew fun w7 =>
    LdI .i64 ⟨b4, 0, none⟩ w7 fun r_0_2 =>
    LdI .i64 ⟨b4, 1, none⟩ w7 fun r_1_2 =>
    LdI .i64 ⟨b4, 2, none⟩ w7 fun r_2_2 =>
    LdI .i64 ⟨b4, 3, none⟩ w7 fun r_3_2 =>
    LdI .i64 ⟨b4, 4, none⟩ w7 fun r_4_2 =>
    LdI .i64 ⟨b4, 5, none⟩ w7 fun r_5_2 =>
    LdI .i64 ⟨b4, 6, none⟩ w7 fun r_6_2 =>
    LdB ⟨b4, 7, none⟩ w7 fun r_7_2 =>
    R r_0_2 r_1_2 r_2_2 r_3_2 r_4_2 r_5_2 r_6_2 r_7_2 false w7)) = kstep Tryz.prog 30 Tryz.f133.results.toList (Tryz.f133.body.getD .skip) (host_Host_ours.RV R) (kvc Tryz.prog 30 Tryz.f133.results.toList (Tryz.f133.body.getD .skip) (host_Host_ours.RV R) [] 2000) [(0, [])] [(0, .pointer h0), (1, .int .i64 sd)] w := by kernel_rfl
theorem host_Host_ours.B0_sound {R : Int → Int → Int → Int → Int → Int → Int → Bool → Bool → World → Prop}  (h0 : Option Addr) (sd : Int) (w : World) (h : host_Host_ours.B0 h0 sd w   R) :
    KW Tryz.prog 133 30 (host_Host_ours.RV R) ([(0, [])].map (toItem (Tryz.f133.body.getD .skip))) [(0, .pointer h0), (1, .int .i64 sd)] w := by
  exact block_spec Tryz.func133 Tryz.mixed stops_nil (Eq.mp (host_Host_ours.B0_eq h0 sd w   R ) h)
theorem host_Host_ours.sound (h0 : Option Addr) (sd : Int) (w : World) (R : Int → Int → Int → Int → Int → Int → Int → Bool → Bool → World → Prop) (h : host_Host_ours.B0 h0 sd w R) : host_Host_ours.Call h0 sd w R := by
  have hc := calls_of_block (args := #[.pointer h0, .int .i64 sd]) Tryz.func133 (body := (Tryz.f133.body.getD .skip)) (by kernel_rfl) (by kernel_rfl) (args_slot _) (host_Host_ours.B0_sound h0 sd w h)
  exact hc.mono fun e w' he => by
    obtain ⟨v, rfl, hv⟩ := he
    exact host_Host_ours.RV_elim hv
def conn_Conn_Send.B2 (c p_b : Option Addr) (p_l p_c : Nat) (w : World)   (R : Int → Option Addr → Nat → Nat → Int → World → Prop) : Prop :=
  Pn c fun a =>
  LdP a w fun x40 =>
  seg_SendBuf_Put.Call x40 p_b p_l p_c w fun r42 w1 =>
  conn_Conn_pump.Call c w1 fun r44_b r44_l r44_c w2 =>
  R r42 r44_b r44_l r44_c (0 : Int) w2
theorem conn_Conn_Send.B2_eq (c p_b : Option Addr) (p_l p_c : Nat) (w : World)   (R : Int → Option Addr → Nat → Nat → Int → World → Prop)  :
    (
  Pn c fun a =>
  LdP a w fun x40 =>
  seg_SendBuf_Put.Call x40 p_b p_l p_c w fun r42 w1 =>
  conn_Conn_pump.Call c w1 fun r44_b r44_l r44_c w2 =>
  R r42 r44_b r44_l r44_c (0 : Int) w2) = kstep Tryz.prog 47 Tryz.f134.results.toList (Tryz.f134.body.getD .skip) (conn_Conn_Send.RV R) (kvc Tryz.prog 47 Tryz.f134.results.toList (Tryz.f134.body.getD .skip) (conn_Conn_Send.RV R) [] 2000) [(0, [1, 1, 1, 1])] [(0, .pointer c), (1, .slice p_b p_l p_c)] w := by kernel_rfl
theorem conn_Conn_Send.B2_sound {R : Int → Option Addr → Nat → Nat → Int → World → Prop}  (c p_b : Option Addr) (p_l p_c : Nat) (w : World) (h : conn_Conn_Send.B2 c p_b p_l p_c w   R) :
    KW Tryz.prog 134 47 (conn_Conn_Send.RV R) ([(0, [1, 1, 1, 1])].map (toItem (Tryz.f134.body.getD .skip))) [(0, .pointer c), (1, .slice p_b p_l p_c)] w := by
  exact block_spec Tryz.func134 Tryz.mixed stops_nil (Eq.mp (conn_Conn_Send.B2_eq c p_b p_l p_c w   R ) h)
def conn_Conn_Send.B1 (c p_b : Option Addr) (p_l p_c : Nat) (t13 : Int) (t16 : Bool) (w : World)   (R : Int → Option Addr → Nat → Nat → Int → World → Prop) : Prop :=
  Bm t16 (
    R (0 : Int) none 0 0 (14 : Int) w) (
    Bm (t13 == (4 : Int)) (
      conn_Conn_ended.Call c w fun r22 w1 =>
      R (0 : Int) none 0 0 r22 w1) (
      Pn c fun a =>
      LdB (a.add 4) w fun x27 =>
      Bm x27 (
        R (0 : Int) none 0 0 (15 : Int) w) (
        Bm (decide (((p_l : Nat) : Int) > (0 : Int))) (
          Pn c fun a_1 =>
          LdP a_1 w fun x34 =>
          seg_SendBuf_Len.Call x34 w fun r35 w2 =>
          Bm (r35 == (16 : Int)) (
            R (0 : Int) none 0 0 (14 : Int) w2) (
            conn_Conn_Send.B2 c p_b p_l p_c w2  R)) (
          conn_Conn_Send.B2 c p_b p_l p_c w  R))))
theorem conn_Conn_Send.B1_eq (c p_b : Option Addr) (p_l p_c : Nat) (t13 : Int) (t16 : Bool) (w : World)   (R : Int → Option Addr → Nat → Nat → Int → World → Prop) (sB2 : Option Addr → Option Addr → Nat → Nat → World → Prop) :
    (
  Bm t16 (
    R (0 : Int) none 0 0 (14 : Int) w) (
    Bm (t13 == (4 : Int)) (
      conn_Conn_ended.Call c w fun r22 w1 =>
      R (0 : Int) none 0 0 r22 w1) (
      Pn c fun a =>
      LdB (a.add 4) w fun x27 =>
      Bm x27 (
        R (0 : Int) none 0 0 (15 : Int) w) (
        Bm (decide (((p_l : Nat) : Int) > (0 : Int))) (
          Pn c fun a_1 =>
          LdP a_1 w fun x34 =>
          seg_SendBuf_Len.Call x34 w fun r35 w2 =>
          Bm (r35 == (16 : Int)) (
            R (0 : Int) none 0 0 (14 : Int) w2) (
            sB2 c p_b p_l p_c w2)) (
          sB2 c p_b p_l p_c w))))) = kstep Tryz.prog 47 Tryz.f134.results.toList (Tryz.f134.body.getD .skip) (conn_Conn_Send.RV R) (kvc Tryz.prog 47 Tryz.f134.results.toList (Tryz.f134.body.getD .skip) (conn_Conn_Send.RV R) [([(0, [1, 1, 1, 1])], fun σ w => dP (slotOf σ 0) fun c_ => dL (slotOf σ 1) fun p_b_ p_l_ p_c_ => sB2 c_ p_b_ p_l_ p_c_ w)] 2000) [(0, [1, 0, 1, 0, 1, 1, 1]), (1, [0]), (0, [1, 1])] [(0, .pointer c), (1, .slice p_b p_l p_c), (13, .int .i64 t13), (16, .bool t16)] w := by kernel_rfl
theorem conn_Conn_Send.B1_sound {R : Int → Option Addr → Nat → Nat → Int → World → Prop}  (c p_b : Option Addr) (p_l p_c : Nat) (t13 : Int) (t16 : Bool) (w : World) (h : conn_Conn_Send.B1 c p_b p_l p_c t13 t16 w   R) :
    KW Tryz.prog 134 47 (conn_Conn_Send.RV R) ([(0, [1, 0, 1, 0, 1, 1, 1]), (1, [0]), (0, [1, 1])].map (toItem (Tryz.f134.body.getD .skip))) [(0, .pointer c), (1, .slice p_b p_l p_c), (13, .int .i64 t13), (16, .bool t16)] w := by
  exact block_spec Tryz.func134 Tryz.mixed (stops_cons (fun σ w h => by
      obtain ⟨c_, e0, h⟩ := dP_elim h
      obtain ⟨p_b_, p_l_, p_c_, e1, h⟩ := dL_elim h
      exact (conn_Conn_Send.B2_sound  c_ p_b_ p_l_ p_c_ w h).weaken (Sub.cons (Sub.cons (Sub.nil _) e1) e0)) stops_nil) (Eq.mp (conn_Conn_Send.B1_eq c p_b p_l p_c t13 t16 w   R (fun c_ p_b_ p_l_ p_c_ w => conn_Conn_Send.B2 c_ p_b_ p_l_ p_c_ w  R)) h)
def conn_Conn_Send.B0 (c p_b : Option Addr) (p_l p_c : Nat) (w : World)   (R : Int → Option Addr → Nat → Nat → Int → World → Prop) : Prop :=
  Pn c fun a =>
  LdI .i64 (a.add 2) w fun x13 =>
  Bm (x13 == (0 : Int)) (
    R (0 : Int) none 0 0 (13 : Int) w) (
    Bm (x13 == (1 : Int)) (
      conn_Conn_Send.B1 c p_b p_l p_c x13 (x13 == (1 : Int)) w  R) (
      conn_Conn_Send.B1 c p_b p_l p_c x13 (x13 == (2 : Int)) w  R))
theorem conn_Conn_Send.B0_eq (c p_b : Option Addr) (p_l p_c : Nat) (w : World)   (R : Int → Option Addr → Nat → Nat → Int → World → Prop) (sB1 : Option Addr → Option Addr → Nat → Nat → Int → Bool → World → Prop) :
    (
  Pn c fun a =>
  LdI .i64 (a.add 2) w fun x13 =>
  Bm (x13 == (0 : Int)) (
    R (0 : Int) none 0 0 (13 : Int) w) (
    Bm (x13 == (1 : Int)) (
      sB1 c p_b p_l p_c x13 (x13 == (1 : Int)) w) (
      sB1 c p_b p_l p_c x13 (x13 == (2 : Int)) w))) = kstep Tryz.prog 47 Tryz.f134.results.toList (Tryz.f134.body.getD .skip) (conn_Conn_Send.RV R) (kvc Tryz.prog 47 Tryz.f134.results.toList (Tryz.f134.body.getD .skip) (conn_Conn_Send.RV R) [([(0, [1, 0, 1, 0, 1, 1, 1]), (1, [0]), (0, [1, 1])], fun σ w => dP (slotOf σ 0) fun c_ => dL (slotOf σ 1) fun p_b_ p_l_ p_c_ => dI .i64 (slotOf σ 13) fun t13_ => dB (slotOf σ 16) fun t16_ => sB1 c_ p_b_ p_l_ p_c_ t13_ t16_ w)] 2000) [(0, [])] [(0, .pointer c), (1, .slice p_b p_l p_c)] w := by kernel_rfl
theorem conn_Conn_Send.B0_sound {R : Int → Option Addr → Nat → Nat → Int → World → Prop}  (c p_b : Option Addr) (p_l p_c : Nat) (w : World) (h : conn_Conn_Send.B0 c p_b p_l p_c w   R) :
    KW Tryz.prog 134 47 (conn_Conn_Send.RV R) ([(0, [])].map (toItem (Tryz.f134.body.getD .skip))) [(0, .pointer c), (1, .slice p_b p_l p_c)] w := by
  exact block_spec Tryz.func134 Tryz.mixed (stops_cons (fun σ w h => by
      obtain ⟨c_, e0, h⟩ := dP_elim h
      obtain ⟨p_b_, p_l_, p_c_, e1, h⟩ := dL_elim h
      obtain ⟨t13_, e2, h⟩ := dI_elim h
      obtain ⟨t16_, e3, h⟩ := dB_elim h
      exact (conn_Conn_Send.B1_sound  c_ p_b_ p_l_ p_c_ t13_ t16_ w h).weaken (Sub.cons (Sub.cons (Sub.cons (Sub.cons (Sub.nil _) e3) e2) e1) e0)) stops_nil) (Eq.mp (conn_Conn_Send.B0_eq c p_b p_l p_c w   R (fun c_ p_b_ p_l_ p_c_ t13_ t16_ w => conn_Conn_Send.B1 c_ p_b_ p_l_ p_c_ t13_ t16_ w  R)) h)
theorem conn_Conn_Send.sound (c p_b : Option Addr) (p_l p_c : Nat) (w : World) (R : Int → Option Addr → Nat → Nat → Int → World → Prop) (h : conn_Conn_Send.B0 c p_b p_l p_c w R) : conn_Conn_Send.Call c p_b p_l p_c w R := by
  have hc := calls_of_block (args := #[.pointer c, .slice p_b p_l p_c]) Tryz.func134 (body := (Tryz.f134.body.getD .skip)) (by kernel_rfl) (by kernel_rfl) (args_slot _) (conn_Conn_Send.B0_sound c p_b p_l p_c w h)
  exact hc.mono fun e w' he => by
    obtain ⟨v, rfl, hv⟩ := he
    exact conn_Conn_Send.RV_elim hv
end Go.Proofs.Qxb6500424aGreat
