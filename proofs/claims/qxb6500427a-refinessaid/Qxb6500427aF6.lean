import Derived.Test.Qxb6500427aSig
set_option maxRecDepth 100000
set_option linter.unusedVariables false
open Go.Vc
namespace Go.Proofs.Qxb6500427a
def sockm_Table_Free.B1 (t : Option Addr) (sd k : Int) (w : World) (N1 : Option Addr → Int → Int → World → Prop)  (R : Int → World → Prop) : Prop :=
  N1 t sd (IntKind.i64.wrap (k + (1 : Int))) w
theorem sockm_Table_Free.B1_eq (t : Option Addr) (sd k : Int) (w : World) (N1 : Option Addr → Int → Int → World → Prop)  (R : Int → World → Prop)  :
    (
  N1 t sd (IntKind.i64.wrap (k + (1 : Int))) w) = kstep Try.prog 66 Try.f53.results.toList (Try.f53.body.getD .skip) (sockm_Table_Free.RV R) (kvc Try.prog 66 Try.f53.results.toList (Try.f53.body.getD .skip) (sockm_Table_Free.RV R) [([(0, [1, 1, 1, 1, 0, 1, 0, 0]), (2, [1, 1, 1, 1, 0, 1, 0, 0]), (1, [0]), (0, [1, 1, 1, 1, 1])], fun σ w => dP (slotOf σ 0) fun t_ => dI .i64 (slotOf σ 1) fun sd_ => dI .i64 (slotOf σ 6) fun k_ => N1 t_ sd_ k_ w)] 2000) [(0, [1, 1, 1, 1, 0, 1, 0, 0, 1, 1]), (2, [1, 1, 1, 1, 0, 1, 0, 0]), (1, [0]), (0, [1, 1, 1, 1, 1])] [(0, .pointer t), (1, .int .i64 sd), (6, .int .i64 k)] w := by kernel_rfl
theorem sockm_Table_Free.B1_sound {R : Int → World → Prop} {N1 : Option Addr → Int → Int → World → Prop} (hN1 : ∀ t sd k w, N1 t sd k w → KW Try.prog 53 66 (sockm_Table_Free.RV R) ([(0, [1, 1, 1, 1, 0, 1, 0, 0]), (2, [1, 1, 1, 1, 0, 1, 0, 0]), (1, [0]), (0, [1, 1, 1, 1, 1])].map (toItem (Try.f53.body.getD .skip))) [(0, .pointer t), (1, .int .i64 sd), (6, .int .i64 k)] w) (t : Option Addr) (sd k : Int) (w : World) (h : sockm_Table_Free.B1 t sd k w N1  R) :
    KW Try.prog 53 66 (sockm_Table_Free.RV R) ([(0, [1, 1, 1, 1, 0, 1, 0, 0, 1, 1]), (2, [1, 1, 1, 1, 0, 1, 0, 0]), (1, [0]), (0, [1, 1, 1, 1, 1])].map (toItem (Try.f53.body.getD .skip))) [(0, .pointer t), (1, .int .i64 sd), (6, .int .i64 k)] w := by
  exact block_spec Try.func53 Try.mixed (stops_cons (fun σ w h => by
      obtain ⟨t_, e0, h⟩ := dP_elim h
      obtain ⟨sd_, e1, h⟩ := dI_elim h
      obtain ⟨k_, e2, h⟩ := dI_elim h
      exact (hN1 t_ sd_ k_ w h).weaken (Sub.cons (Sub.cons (Sub.cons (Sub.nil _) e2) e1) e0)) stops_nil) (Eq.mp (sockm_Table_Free.B1_eq t sd k w N1  R ) h)
def sockm_Table_Free.L1b (t : Option Addr) (sd k : Int) (w : World)  (N1 : Option Addr → Int → Int → World → Prop) (R : Int → World → Prop) : Prop :=
  Pn t fun a =>
  LdL a w fun x34_b x34_l x34_c =>
  Bm (decide (k < ((x34_l : Nat) : Int))) (
    Pn t fun a_1 =>
    LdL a_1 w fun x42_b x42_l x42_c =>
    Pn x42_b fun a_2 =>
    (0 ≤ k ∧ k < ((x42_l : Nat) : Int)) ∧
    LdI .i64 ((Addr.add a_2 (k.toNat * 9)).add 6) w fun x47 =>
    Bm (x47 == sd) (
      Pn t fun a_3 =>
      LdL a_3 w.drew fun x53_b x53_l x53_c =>
      Pn t fun a_4 =>
      LdL a_4 w.drew fun x58_b x58_l x58_c =>
      Pn x53_b fun a_5 =>
      (0 ≤ k ∧ k < ((x53_l : Nat) : Int)) ∧
      Sts [.int .i64 (0 : Int)] ((Addr.add a_5 (k.toNat * 9)).add 6) 0 w.drew fun w1 =>
      Pn x58_b fun a_6 =>
      (0 ≤ k ∧ k < ((x58_l : Nat) : Int)) ∧
      Sts [.bool false] ((Addr.add a_6 (k.toNat * 9)).add 7) 0 w1 fun w2 =>
      sockm_Table_Free.B1 t sd k w2 N1 R) (
      sockm_Table_Free.B1 t sd k w N1 R)) (
    R (0 : Int) w)
theorem sockm_Table_Free.L1b_eq (t : Option Addr) (sd k : Int) (w : World)  (N1 : Option Addr → Int → Int → World → Prop) (R : Int → World → Prop) (sB1 : Option Addr → Int → Int → World → Prop) :
    (
  Pn t fun a =>
  LdL a w fun x34_b x34_l x34_c =>
  Bm (decide (k < ((x34_l : Nat) : Int))) (
    Pn t fun a_1 =>
    LdL a_1 w fun x42_b x42_l x42_c =>
    Pn x42_b fun a_2 =>
    (0 ≤ k ∧ k < ((x42_l : Nat) : Int)) ∧
    LdI .i64 ((Addr.add a_2 (k.toNat * 9)).add 6) w fun x47 =>
    Bm (x47 == sd) (
      Pn t fun a_3 =>
      LdL a_3 w.drew fun x53_b x53_l x53_c =>
      Pn t fun a_4 =>
      LdL a_4 w.drew fun x58_b x58_l x58_c =>
      Pn x53_b fun a_5 =>
      (0 ≤ k ∧ k < ((x53_l : Nat) : Int)) ∧
      Sts [.int .i64 (0 : Int)] ((Addr.add a_5 (k.toNat * 9)).add 6) 0 w.drew fun w1 =>
      Pn x58_b fun a_6 =>
      (0 ≤ k ∧ k < ((x58_l : Nat) : Int)) ∧
      Sts [.bool false] ((Addr.add a_6 (k.toNat * 9)).add 7) 0 w1 fun w2 =>
      sB1 t sd k w2) (
      sB1 t sd k w)) (
    R (0 : Int) w)) = kstep Try.prog 66 Try.f53.results.toList (Try.f53.body.getD .skip) (sockm_Table_Free.RV R) (kvc Try.prog 66 Try.f53.results.toList (Try.f53.body.getD .skip) (sockm_Table_Free.RV R) [([(0, [1, 1, 1, 1, 0, 1, 0, 0, 1, 1]), (2, [1, 1, 1, 1, 0, 1, 0, 0]), (1, [0]), (0, [1, 1, 1, 1, 1])], fun σ w => dP (slotOf σ 0) fun t_ => dI .i64 (slotOf σ 1) fun sd_ => dI .i64 (slotOf σ 6) fun k_ => sB1 t_ sd_ k_ w)] 2000) [(0, [1, 1, 1, 1, 0, 1, 0, 0]), (2, [1, 1, 1, 1, 0, 1, 0, 0]), (1, [0]), (0, [1, 1, 1, 1, 1])] [(0, .pointer t), (1, .int .i64 sd), (6, .int .i64 k)] w := by kernel_rfl
theorem sockm_Table_Free.L1b_sound {R : Int → World → Prop} {N1 : Option Addr → Int → Int → World → Prop} (hN1 : ∀ t sd k w, N1 t sd k w → KW Try.prog 53 66 (sockm_Table_Free.RV R) ([(0, [1, 1, 1, 1, 0, 1, 0, 0]), (2, [1, 1, 1, 1, 0, 1, 0, 0]), (1, [0]), (0, [1, 1, 1, 1, 1])].map (toItem (Try.f53.body.getD .skip))) [(0, .pointer t), (1, .int .i64 sd), (6, .int .i64 k)] w) (t : Option Addr) (sd k : Int) (w : World) (h : sockm_Table_Free.L1b t sd k w  N1 R) :
    KW Try.prog 53 66 (sockm_Table_Free.RV R) ([(0, [1, 1, 1, 1, 0, 1, 0, 0]), (2, [1, 1, 1, 1, 0, 1, 0, 0]), (1, [0]), (0, [1, 1, 1, 1, 1])].map (toItem (Try.f53.body.getD .skip))) [(0, .pointer t), (1, .int .i64 sd), (6, .int .i64 k)] w := by
  exact block_spec Try.func53 Try.mixed (stops_cons (fun σ w h => by
      obtain ⟨t_, e0, h⟩ := dP_elim h
      obtain ⟨sd_, e1, h⟩ := dI_elim h
      obtain ⟨k_, e2, h⟩ := dI_elim h
      exact (sockm_Table_Free.B1_sound hN1 t_ sd_ k_ w h).weaken (Sub.cons (Sub.cons (Sub.cons (Sub.nil _) e2) e1) e0)) stops_nil) (Eq.mp (sockm_Table_Free.L1b_eq t sd k w  N1 R (fun t_ sd_ k_ w => sockm_Table_Free.B1 t_ sd_ k_ w N1 R)) h)
def sockm_Table_Free.L1 (t : Option Addr) (sd k : Int) (w : World)  (R : Int → World → Prop) : Prop :=
  ∃ (I : Nat → Option Addr → Int → Int → World → Prop) (m : Nat), I m t sd k w ∧ ∀ m t sd k w, I m t sd k w → sockm_Table_Free.L1b t sd k w  (fun t' sd' k' w' => ∃ m', m' < m ∧ I m' t' sd' k' w') R
theorem sockm_Table_Free.L1_sound {R : Int → World → Prop}  (t : Option Addr) (sd k : Int) (w : World) (h : sockm_Table_Free.L1 t sd k w  R) :
    KW Try.prog 53 66 (sockm_Table_Free.RV R) ([(0, [1, 1, 1, 1, 0, 1, 0, 0]), (2, [1, 1, 1, 1, 0, 1, 0, 0]), (1, [0]), (0, [1, 1, 1, 1, 1])].map (toItem (Try.f53.body.getD .skip))) [(0, .pointer t), (1, .int .i64 sd), (6, .int .i64 k)] w := by
  obtain ⟨I, m, hBase, hr⟩ := h
  refine KW.loop (fun m σ w => ∃ (t : Option Addr) (sd k : Int), σ = [(0, .pointer t), (1, .int .i64 sd), (6, .int .i64 k)] ∧ I m t sd k w) ?_ m _ w ⟨t, sd, k, rfl, hBase⟩
  rintro m ih σ w ⟨t, sd, k, rfl, hI⟩
  exact sockm_Table_Free.L1b_sound  (N1 := fun t' sd' k' w' => ∃ m', m' < m ∧ I m' t' sd' k' w') (fun t' sd' k' w' hx => by obtain ⟨m', hlt, hI'⟩ := hx; exact ih m' hlt _ w' ⟨t', sd', k', rfl, hI'⟩) t sd k w (hr m t sd k w hI)
def sockm_Table_Free.B0 (t : Option Addr) (sd : Int) (w : World)   (R : Int → World → Prop) : Prop :=
  sockm_Table_at.Call t sd w fun r9 w1 =>
  Bm (decide (r9 < (0 : Int))) (
    R (21 : Int) w1) (
    Pn t fun a =>
    LdL a w1.drew fun x16_b x16_l x16_c =>
    (0 ≤ r9 ∧ r9 ≤ ((x16_c : Nat) : Int)) ∧
    (0 ≤ r9 ∧ r9 ≤ r9) ∧
    Pn t fun a_1 =>
    LdL a_1 w1.drew fun x23_b x23_l x23_c =>
    (0 ≤ (IntKind.i64.wrap (r9 + (1 : Int))) ∧ (IntKind.i64.wrap (r9 + (1 : Int))) ≤ ((x23_l : Nat) : Int)) ∧
    Append 63 (.agg #[.int .i64 (0 : Int), .int .i64 (0 : Int), .int .i64 (0 : Int), .int .i64 (0 : Int), .int .i64 (0 : Int), .int .i64 (0 : Int), .int .i64 (0 : Int), .bool false, .int .i64 (0 : Int)]) 9 72 (slBase x16_b ((0 : Nat) : Int) r9 9) (r9.toNat - ((0 : Nat) : Int).toNat) (r9.toNat - ((0 : Nat) : Int).toNat) (slBase x23_b (IntKind.i64.wrap (r9 + (1 : Int))) ((x23_c : Nat) : Int) 9) (((x23_l : Nat) : Int).toNat - (IntKind.i64.wrap (r9 + (1 : Int))).toNat) w1.drew fun b27 c27 w2 =>
    Pn t fun a_2 =>
    Sts [.slice b27 ((r9.toNat - ((0 : Nat) : Int).toNat) + (((x23_l : Nat) : Int).toNat - (IntKind.i64.wrap (r9 + (1 : Int))).toNat)) c27] a_2 0 w2 fun w3 =>
    sockm_Table_Free.L1 t sd (0 : Int) w3  R)
theorem sockm_Table_Free.B0_eq (t : Option Addr) (sd : Int) (w : World)   (R : Int → World → Prop) (sL1 : Option Addr → Int → Int → World → Prop) :
    (
  sockm_Table_at.Call t sd w fun r9 w1 =>
  Bm (decide (r9 < (0 : Int))) (
    R (21 : Int) w1) (
    Pn t fun a =>
    LdL a w1.drew fun x16_b x16_l x16_c =>
    (0 ≤ r9 ∧ r9 ≤ ((x16_c : Nat) : Int)) ∧
    (0 ≤ r9 ∧ r9 ≤ r9) ∧
    Pn t fun a_1 =>
    LdL a_1 w1.drew fun x23_b x23_l x23_c =>
    (0 ≤ (IntKind.i64.wrap (r9 + (1 : Int))) ∧ (IntKind.i64.wrap (r9 + (1 : Int))) ≤ ((x23_l : Nat) : Int)) ∧
    Append 63 (.agg #[.int .i64 (0 : Int), .int .i64 (0 : Int), .int .i64 (0 : Int), .int .i64 (0 : Int), .int .i64 (0 : Int), .int .i64 (0 : Int), .int .i64 (0 : Int), .bool false, .int .i64 (0 : Int)]) 9 72 (slBase x16_b ((0 : Nat) : Int) r9 9) (r9.toNat - ((0 : Nat) : Int).toNat) (r9.toNat - ((0 : Nat) : Int).toNat) (slBase x23_b (IntKind.i64.wrap (r9 + (1 : Int))) ((x23_c : Nat) : Int) 9) (((x23_l : Nat) : Int).toNat - (IntKind.i64.wrap (r9 + (1 : Int))).toNat) w1.drew fun b27 c27 w2 =>
    Pn t fun a_2 =>
    Sts [.slice b27 ((r9.toNat - ((0 : Nat) : Int).toNat) + (((x23_l : Nat) : Int).toNat - (IntKind.i64.wrap (r9 + (1 : Int))).toNat)) c27] a_2 0 w2 fun w3 =>
    sL1 t sd (0 : Int) w3)) = kstep Try.prog 66 Try.f53.results.toList (Try.f53.body.getD .skip) (sockm_Table_Free.RV R) (kvc Try.prog 66 Try.f53.results.toList (Try.f53.body.getD .skip) (sockm_Table_Free.RV R) [([(0, [1, 1, 1, 1, 0, 1, 0, 0]), (2, [1, 1, 1, 1, 0, 1, 0, 0]), (1, [0]), (0, [1, 1, 1, 1, 1])], fun σ w => dP (slotOf σ 0) fun t_ => dI .i64 (slotOf σ 1) fun sd_ => dI .i64 (slotOf σ 6) fun k_ => sL1 t_ sd_ k_ w)] 2000) [(0, [])] [(0, .pointer t), (1, .int .i64 sd)] w := by kernel_rfl
theorem sockm_Table_Free.B0_sound {R : Int → World → Prop}  (t : Option Addr) (sd : Int) (w : World) (h : sockm_Table_Free.B0 t sd w   R) :
    KW Try.prog 53 66 (sockm_Table_Free.RV R) ([(0, [])].map (toItem (Try.f53.body.getD .skip))) [(0, .pointer t), (1, .int .i64 sd)] w := by
  exact block_spec Try.func53 Try.mixed (stops_cons (fun σ w h => by
      obtain ⟨t_, e0, h⟩ := dP_elim h
      obtain ⟨sd_, e1, h⟩ := dI_elim h
      obtain ⟨k_, e2, h⟩ := dI_elim h
      exact (sockm_Table_Free.L1_sound  t_ sd_ k_ w h).weaken (Sub.cons (Sub.cons (Sub.cons (Sub.nil _) e2) e1) e0)) stops_nil) (Eq.mp (sockm_Table_Free.B0_eq t sd w   R (fun t_ sd_ k_ w => sockm_Table_Free.L1 t_ sd_ k_ w  R)) h)
theorem sockm_Table_Free.sound (t : Option Addr) (sd : Int) (w : World) (R : Int → World → Prop) (h : sockm_Table_Free.B0 t sd w R) : sockm_Table_Free.Call t sd w R := by
  have hc := calls_of_block (args := #[.pointer t, .int .i64 sd]) Try.func53 (body := (Try.f53.body.getD .skip)) (by kernel_rfl) (by kernel_rfl) (args_slot _) (sockm_Table_Free.B0_sound t sd w h)
  exact hc.mono fun e w' he => by
    obtain ⟨v, rfl, hv⟩ := he
    exact sockm_Table_Free.RV_elim hv
def sockm_Table_Lookup.B1 (t : Option Addr) (lport rhost rport i : Int) (e : Nat) (t48 : Bool) (w : World) (N1 : Option Addr → Int → Int → Int → Int → World → Prop)  (R : Int → World → Prop) : Prop :=
  Bm t48 (
    LdI .i64 ⟨e, 0, none⟩ w fun x50 =>
    R x50 w) (
    N1 t lport rhost rport (IntKind.i64.wrap (i + (1 : Int))) w)
theorem sockm_Table_Lookup.B1_eq (t : Option Addr) (lport rhost rport i : Int) (e : Nat) (t48 : Bool) (w : World) (N1 : Option Addr → Int → Int → Int → Int → World → Prop)  (R : Int → World → Prop)  :
    (
  Bm t48 (
    LdI .i64 ⟨e, 0, none⟩ w fun x50 =>
    R x50 w) (
    N1 t lport rhost rport (IntKind.i64.wrap (i + (1 : Int))) w)) = kstep Try.prog 51 Try.f54.results.toList (Try.f54.body.getD .skip) (sockm_Table_Lookup.RV R) (kvc Try.prog 51 Try.f54.results.toList (Try.f54.body.getD .skip) (sockm_Table_Lookup.RV R) [([(0, [1, 0, 1, 0, 0]), (2, [1, 0, 1, 0, 0]), (1, [0]), (0, [1, 1])], fun σ w => dP (slotOf σ 0) fun t_ => dI .i64 (slotOf σ 1) fun lport_ => dI .i64 (slotOf σ 2) fun rhost_ => dI .i64 (slotOf σ 3) fun rport_ => dI .i64 (slotOf σ 9) fun i_ => N1 t_ lport_ rhost_ rport_ i_ w)] 2000) [(0, [1, 0, 1, 0, 0, 1, 0, 0, 1, 1]), (1, [1]), (0, [1, 0, 1, 0, 0, 1, 1]), (2, [1, 0, 1, 0, 0]), (1, [0]), (0, [1, 1])] [(0, .pointer t), (1, .int .i64 lport), (2, .int .i64 rhost), (3, .int .i64 rport), (9, .int .i64 i), (10, .pointer (some ⟨e, 0, none⟩)), (48, .bool t48)] w := by kernel_rfl
theorem sockm_Table_Lookup.B1_sound {R : Int → World → Prop} {N1 : Option Addr → Int → Int → Int → Int → World → Prop} (hN1 : ∀ t lport rhost rport i w, N1 t lport rhost rport i w → KW Try.prog 54 51 (sockm_Table_Lookup.RV R) ([(0, [1, 0, 1, 0, 0]), (2, [1, 0, 1, 0, 0]), (1, [0]), (0, [1, 1])].map (toItem (Try.f54.body.getD .skip))) [(0, .pointer t), (1, .int .i64 lport), (2, .int .i64 rhost), (3, .int .i64 rport), (9, .int .i64 i)] w) (t : Option Addr) (lport rhost rport i : Int) (e : Nat) (t48 : Bool) (w : World) (h : sockm_Table_Lookup.B1 t lport rhost rport i e t48 w N1  R) :
    KW Try.prog 54 51 (sockm_Table_Lookup.RV R) ([(0, [1, 0, 1, 0, 0, 1, 0, 0, 1, 1]), (1, [1]), (0, [1, 0, 1, 0, 0, 1, 1]), (2, [1, 0, 1, 0, 0]), (1, [0]), (0, [1, 1])].map (toItem (Try.f54.body.getD .skip))) [(0, .pointer t), (1, .int .i64 lport), (2, .int .i64 rhost), (3, .int .i64 rport), (9, .int .i64 i), (10, .pointer (some ⟨e, 0, none⟩)), (48, .bool t48)] w := by
  exact block_spec Try.func54 Try.mixed (stops_cons (fun σ w h => by
      obtain ⟨t_, e0, h⟩ := dP_elim h
      obtain ⟨lport_, e1, h⟩ := dI_elim h
      obtain ⟨rhost_, e2, h⟩ := dI_elim h
      obtain ⟨rport_, e3, h⟩ := dI_elim h
      obtain ⟨i_, e4, h⟩ := dI_elim h
      exact (hN1 t_ lport_ rhost_ rport_ i_ w h).weaken (Sub.cons (Sub.cons (Sub.cons (Sub.cons (Sub.cons (Sub.nil _) e4) e3) e2) e1) e0)) stops_nil) (Eq.mp (sockm_Table_Lookup.B1_eq t lport rhost rport i e t48 w N1  R ) h)
def sockm_Table_Lookup.L1b (t : Option Addr) (lport rhost rport i : Int) (w : World)  (N1 : Option Addr → Int → Int → Int → Int → World → Prop) (R : Int → World → Prop) : Prop :=
  Pn t fun a =>
  LdL a w fun x15_b x15_l x15_c =>
  Bm (decide (i < ((x15_l : Nat) : Int))) (
    Pn t fun a_1 =>
    LdL a_1 w fun x23_b x23_l x23_c =>
    Pn x23_b fun a_2 =>
    (0 ≤ i ∧ i < ((x23_l : Nat) : Int)) ∧
    LdI .i64 (Addr.add a_2 (i.toNat * 9)) w fun x27_0 =>
    LdI .i64 ((Addr.add a_2 (i.toNat * 9)).add 1) w fun x27_1 =>
    LdI .i64 ((Addr.add a_2 (i.toNat * 9)).add 2) w fun x27_2 =>
    LdI .i64 ((Addr.add a_2 (i.toNat * 9)).add 3) w fun x27_3 =>
    LdI .i64 ((Addr.add a_2 (i.toNat * 9)).add 4) w fun x27_4 =>
    LdI .i64 ((Addr.add a_2 (i.toNat * 9)).add 5) w fun x27_5 =>
    LdI .i64 ((Addr.add a_2 (i.toNat * 9)).add 6) w fun x27_6 =>
    LdB ((Addr.add a_2 (i.toNat * 9)).add 7) w fun x27_7 =>
    New (.cells #[.int .i64 (0 : Int), .int .i64 (0 : Int), .int .i64 (0 : Int), .int .i64 (0 : Int), .int .i64 (0 : Int), .int .i64 (0 : Int), .int .i64 (0 : Int), .bool false] 40) w fun e_ w1 =>
    Sts [.int .i64 x27_0, .int .i64 x27_1, .int .i64 x27_2, .int .i64 x27_3, .int .i64 x27_4, .int .i64 x27_5, .int .i64 x27_6, .bool x27_7] ⟨e_, 0, none⟩ 0 w1 fun w2 =>
    LdI .i64 ⟨e_, 1, none⟩ w2 fun x29 =>
    Bm (x29 == (2 : Int)) (
      LdI .i64 ⟨e_, 2, none⟩ w2 fun x33 =>
      Bm (x33 == lport) (
        LdI .i64 ⟨e_, 3, none⟩ w2 fun x39 =>
        Bm (x39 == rhost) (
          LdI .i64 ⟨e_, 4, none⟩ w2 fun x45 =>
          sockm_Table_Lookup.B1 t lport rhost rport i e_ (x45 == rport) w2 N1 R) (
          sockm_Table_Lookup.B1 t lport rhost rport i e_ false w2 N1 R)) (
        sockm_Table_Lookup.B1 t lport rhost rport i e_ false w2 N1 R)) (
      sockm_Table_Lookup.B1 t lport rhost rport i e_ false w2 N1 R)) (
    R (0 : Int) w)
theorem sockm_Table_Lookup.L1b_eq (t : Option Addr) (lport rhost rport i : Int) (w : World)  (N1 : Option Addr → Int → Int → Int → Int → World → Prop) (R : Int → World → Prop) (sB1 : Option Addr → Int → Int → Int → Int → Nat → Bool → World → Prop) :
    (
  Pn t fun a =>
  LdL a w fun x15_b x15_l x15_c =>
  Bm (decide (i < ((x15_l : Nat) : Int))) (
    Pn t fun a_1 =>
    LdL a_1 w fun x23_b x23_l x23_c =>
    Pn x23_b fun a_2 =>
    (0 ≤ i ∧ i < ((x23_l : Nat) : Int)) ∧
    LdI .i64 (Addr.add a_2 (i.toNat * 9)) w fun x27_0 =>
    LdI .i64 ((Addr.add a_2 (i.toNat * 9)).add 1) w fun x27_1 =>
    LdI .i64 ((Addr.add a_2 (i.toNat * 9)).add 2) w fun x27_2 =>
    LdI .i64 ((Addr.add a_2 (i.toNat * 9)).add 3) w fun x27_3 =>
    LdI .i64 ((Addr.add a_2 (i.toNat * 9)).add 4) w fun x27_4 =>
    LdI .i64 ((Addr.add a_2 (i.toNat * 9)).add 5) w fun x27_5 =>
    LdI .i64 ((Addr.add a_2 (i.toNat * 9)).add 6) w fun x27_6 =>
    LdB ((Addr.add a_2 (i.toNat * 9)).add 7) w fun x27_7 =>
    New (.cells #[.int .i64 (0 : Int), .int .i64 (0 : Int), .int .i64 (0 : Int), .int .i64 (0 : Int), .int .i64 (0 : Int), .int .i64 (0 : Int), .int .i64 (0 : Int), .bool false] 40) w fun e_ w1 =>
    Sts [.int .i64 x27_0, .int .i64 x27_1, .int .i64 x27_2, .int .i64 x27_3, .int .i64 x27_4, .int .i64 x27_5, .int .i64 x27_6, .bool x27_7] ⟨e_, 0, none⟩ 0 w1 fun w2 =>
    LdI .i64 ⟨e_, 1, none⟩ w2 fun x29 =>
    Bm (x29 == (2 : Int)) (
      LdI .i64 ⟨e_, 2, none⟩ w2 fun x33 =>
      Bm (x33 == lport) (
        LdI .i64 ⟨e_, 3, none⟩ w2 fun x39 =>
        Bm (x39 == rhost) (
          LdI .i64 ⟨e_, 4, none⟩ w2 fun x45 =>
          sB1 t lport rhost rport i e_ (x45 == rport) w2) (
          sB1 t lport rhost rport i e_ false w2)) (
        sB1 t lport rhost rport i e_ false w2)) (
      sB1 t lport rhost rport i e_ false w2)) (
    R (0 : Int) w)) = kstep Try.prog 51 Try.f54.results.toList (Try.f54.body.getD .skip) (sockm_Table_Lookup.RV R) (kvc Try.prog 51 Try.f54.results.toList (Try.f54.body.getD .skip) (sockm_Table_Lookup.RV R) [([(0, [1, 0, 1, 0, 0, 1, 0, 0, 1, 1]), (1, [1]), (0, [1, 0, 1, 0, 0, 1, 1]), (2, [1, 0, 1, 0, 0]), (1, [0]), (0, [1, 1])], fun σ w => dP (slotOf σ 0) fun t_ => dI .i64 (slotOf σ 1) fun lport_ => dI .i64 (slotOf σ 2) fun rhost_ => dI .i64 (slotOf σ 3) fun rport_ => dI .i64 (slotOf σ 9) fun i_ => dK (slotOf σ 10) fun e_ => dB (slotOf σ 48) fun t48_ => sB1 t_ lport_ rhost_ rport_ i_ e_ t48_ w)] 2000) [(0, [1, 0, 1, 0, 0]), (2, [1, 0, 1, 0, 0]), (1, [0]), (0, [1, 1])] [(0, .pointer t), (1, .int .i64 lport), (2, .int .i64 rhost), (3, .int .i64 rport), (9, .int .i64 i)] w := by kernel_rfl
theorem sockm_Table_Lookup.L1b_sound {R : Int → World → Prop} {N1 : Option Addr → Int → Int → Int → Int → World → Prop} (hN1 : ∀ t lport rhost rport i w, N1 t lport rhost rport i w → KW Try.prog 54 51 (sockm_Table_Lookup.RV R) ([(0, [1, 0, 1, 0, 0]), (2, [1, 0, 1, 0, 0]), (1, [0]), (0, [1, 1])].map (toItem (Try.f54.body.getD .skip))) [(0, .pointer t), (1, .int .i64 lport), (2, .int .i64 rhost), (3, .int .i64 rport), (9, .int .i64 i)] w) (t : Option Addr) (lport rhost rport i : Int) (w : World) (h : sockm_Table_Lookup.L1b t lport rhost rport i w  N1 R) :
    KW Try.prog 54 51 (sockm_Table_Lookup.RV R) ([(0, [1, 0, 1, 0, 0]), (2, [1, 0, 1, 0, 0]), (1, [0]), (0, [1, 1])].map (toItem (Try.f54.body.getD .skip))) [(0, .pointer t), (1, .int .i64 lport), (2, .int .i64 rhost), (3, .int .i64 rport), (9, .int .i64 i)] w := by
  exact block_spec Try.func54 Try.mixed (stops_cons (fun σ w h => by
      obtain ⟨t_, e0, h⟩ := dP_elim h
      obtain ⟨lport_, e1, h⟩ := dI_elim h
      obtain ⟨rhost_, e2, h⟩ := dI_elim h
      obtain ⟨rport_, e3, h⟩ := dI_elim h
      obtain ⟨i_, e4, h⟩ := dI_elim h
      obtain ⟨e_, e5, h⟩ := dK_elim h
      obtain ⟨t48_, e6, h⟩ := dB_elim h
      exact (sockm_Table_Lookup.B1_sound hN1 t_ lport_ rhost_ rport_ i_ e_ t48_ w h).weaken (Sub.cons (Sub.cons (Sub.cons (Sub.cons (Sub.cons (Sub.cons (Sub.cons (Sub.nil _) e6) e5) e4) e3) e2) e1) e0)) stops_nil) (Eq.mp (sockm_Table_Lookup.L1b_eq t lport rhost rport i w  N1 R (fun t_ lport_ rhost_ rport_ i_ e_ t48_ w => sockm_Table_Lookup.B1 t_ lport_ rhost_ rport_ i_ e_ t48_ w N1 R)) h)
def sockm_Table_Lookup.L1 (t : Option Addr) (lport rhost rport i : Int) (w : World)  (R : Int → World → Prop) : Prop :=
  ∃ (I : Nat → Option Addr → Int → Int → Int → Int → World → Prop) (m : Nat), I m t lport rhost rport i w ∧ ∀ m t lport rhost rport i w, I m t lport rhost rport i w → sockm_Table_Lookup.L1b t lport rhost rport i w  (fun t' lport' rhost' rport' i' w' => ∃ m', m' < m ∧ I m' t' lport' rhost' rport' i' w') R
theorem sockm_Table_Lookup.L1_sound {R : Int → World → Prop}  (t : Option Addr) (lport rhost rport i : Int) (w : World) (h : sockm_Table_Lookup.L1 t lport rhost rport i w  R) :
    KW Try.prog 54 51 (sockm_Table_Lookup.RV R) ([(0, [1, 0, 1, 0, 0]), (2, [1, 0, 1, 0, 0]), (1, [0]), (0, [1, 1])].map (toItem (Try.f54.body.getD .skip))) [(0, .pointer t), (1, .int .i64 lport), (2, .int .i64 rhost), (3, .int .i64 rport), (9, .int .i64 i)] w := by
  obtain ⟨I, m, hBase, hr⟩ := h
  refine KW.loop (fun m σ w => ∃ (t : Option Addr) (lport rhost rport i : Int), σ = [(0, .pointer t), (1, .int .i64 lport), (2, .int .i64 rhost), (3, .int .i64 rport), (9, .int .i64 i)] ∧ I m t lport rhost rport i w) ?_ m _ w ⟨t, lport, rhost, rport, i, rfl, hBase⟩
  rintro m ih σ w ⟨t, lport, rhost, rport, i, rfl, hI⟩
  exact sockm_Table_Lookup.L1b_sound  (N1 := fun t' lport' rhost' rport' i' w' => ∃ m', m' < m ∧ I m' t' lport' rhost' rport' i' w') (fun t' lport' rhost' rport' i' w' hx => by obtain ⟨m', hlt, hI'⟩ := hx; exact ih m' hlt _ w' ⟨t', lport', rhost', rport', i', rfl, hI'⟩) t lport rhost rport i w (hr m t lport rhost rport i w hI)
def sockm_Table_Lookup.B0 (t : Option Addr) (lport rhost rport : Int) (w : World)   (R : Int → World → Prop) : Prop :=
  sockm_Table_Lookup.L1 t lport rhost rport (0 : Int) w  R
theorem sockm_Table_Lookup.B0_eq (t : Option Addr) (lport rhost rport : Int) (w : World)   (R : Int → World → Prop) (sL1 : Option Addr → Int → Int → Int → Int → World → Prop) :
    (
  sL1 t lport rhost rport (0 : Int) w) = kstep Try.prog 51 Try.f54.results.toList (Try.f54.body.getD .skip) (sockm_Table_Lookup.RV R) (kvc Try.prog 51 Try.f54.results.toList (Try.f54.body.getD .skip) (sockm_Table_Lookup.RV R) [([(0, [1, 0, 1, 0, 0]), (2, [1, 0, 1, 0, 0]), (1, [0]), (0, [1, 1])], fun σ w => dP (slotOf σ 0) fun t_ => dI .i64 (slotOf σ 1) fun lport_ => dI .i64 (slotOf σ 2) fun rhost_ => dI .i64 (slotOf σ 3) fun rport_ => dI .i64 (slotOf σ 9) fun i_ => sL1 t_ lport_ rhost_ rport_ i_ w)] 2000) [(0, [])] [(0, .pointer t), (1, .int .i64 lport), (2, .int .i64 rhost), (3, .int .i64 rport)] w := by kernel_rfl
theorem sockm_Table_Lookup.B0_sound {R : Int → World → Prop}  (t : Option Addr) (lport rhost rport : Int) (w : World) (h : sockm_Table_Lookup.B0 t lport rhost rport w   R) :
    KW Try.prog 54 51 (sockm_Table_Lookup.RV R) ([(0, [])].map (toItem (Try.f54.body.getD .skip))) [(0, .pointer t), (1, .int .i64 lport), (2, .int .i64 rhost), (3, .int .i64 rport)] w := by
  exact block_spec Try.func54 Try.mixed (stops_cons (fun σ w h => by
      obtain ⟨t_, e0, h⟩ := dP_elim h
      obtain ⟨lport_, e1, h⟩ := dI_elim h
      obtain ⟨rhost_, e2, h⟩ := dI_elim h
      obtain ⟨rport_, e3, h⟩ := dI_elim h
      obtain ⟨i_, e4, h⟩ := dI_elim h
      exact (sockm_Table_Lookup.L1_sound  t_ lport_ rhost_ rport_ i_ w h).weaken (Sub.cons (Sub.cons (Sub.cons (Sub.cons (Sub.cons (Sub.nil _) e4) e3) e2) e1) e0)) stops_nil) (Eq.mp (sockm_Table_Lookup.B0_eq t lport rhost rport w   R (fun t_ lport_ rhost_ rport_ i_ w => sockm_Table_Lookup.L1 t_ lport_ rhost_ rport_ i_ w  R)) h)
theorem sockm_Table_Lookup.sound (t : Option Addr) (lport rhost rport : Int) (w : World) (R : Int → World → Prop) (h : sockm_Table_Lookup.B0 t lport rhost rport w R) : sockm_Table_Lookup.Call t lport rhost rport w R := by
  have hc := calls_of_block (args := #[.pointer t, .int .i64 lport, .int .i64 rhost, .int .i64 rport]) Try.func54 (body := (Try.f54.body.getD .skip)) (by kernel_rfl) (by kernel_rfl) (args_slot _) (sockm_Table_Lookup.B0_sound t lport rhost rport w h)
  exact hc.mono fun e w' he => by
    obtain ⟨v, rfl, hv⟩ := he
    exact sockm_Table_Lookup.RV_elim hv
def sock_Table_Queue.L1b (t : Option Addr) (l : Int) (out_b : Option Addr) (out_l out_c : Nat) (k : Int) (w : World)  (N1 : Option Addr → Int → Option Addr → Nat → Nat → Int → World → Prop) (R : Option Addr → Nat → Nat → World → Prop) : Prop :=
  Bm (decide (k < ((out_l : Nat) : Int))) (
    Pn t fun a =>
    (0 ≤ l ∧ l < ((6 : Nat) : Int)) ∧
    LdI .i64 ((Addr.add a (l.toNat * 15)).add 13) w fun x46 =>
    sock_wrap.Call (IntKind.i64.wrap (x46 + k)) w fun r49 w1 =>
    Pn t fun a_1 =>
    (0 ≤ l ∧ l < ((6 : Nat) : Int)) ∧
    (0 ≤ r49 ∧ r49 < ((2 : Nat) : Int)) ∧
    LdI .i64 (Addr.add ((Addr.add a_1 (l.toNat * 15)).add 11) (r49.toNat * 1)) w1 fun x60 =>
    Pn out_b fun a_2 =>
    (0 ≤ k ∧ k < ((out_l : Nat) : Int)) ∧
    Sts [.int .i64 x60] (Addr.add a_2 (k.toNat * 1)) 0 w1 fun w2 =>
    N1 t l out_b out_l out_c (IntKind.i64.wrap (k + (1 : Int))) w2) (
    R out_b out_l out_c w)
theorem sock_Table_Queue.L1b_eq (t : Option Addr) (l : Int) (out_b : Option Addr) (out_l out_c : Nat) (k : Int) (w : World)  (N1 : Option Addr → Int → Option Addr → Nat → Nat → Int → World → Prop) (R : Option Addr → Nat → Nat → World → Prop)  :
    (
  Bm (decide (k < ((out_l : Nat) : Int))) (
    Pn t fun a =>
    (0 ≤ l ∧ l < ((6 : Nat) : Int)) ∧
    LdI .i64 ((Addr.add a (l.toNat * 15)).add 13) w fun x46 =>
    sock_wrap.Call (IntKind.i64.wrap (x46 + k)) w fun r49 w1 =>
    Pn t fun a_1 =>
    (0 ≤ l ∧ l < ((6 : Nat) : Int)) ∧
    (0 ≤ r49 ∧ r49 < ((2 : Nat) : Int)) ∧
    LdI .i64 (Addr.add ((Addr.add a_1 (l.toNat * 15)).add 11) (r49.toNat * 1)) w1 fun x60 =>
    Pn out_b fun a_2 =>
    (0 ≤ k ∧ k < ((out_l : Nat) : Int)) ∧
    Sts [.int .i64 x60] (Addr.add a_2 (k.toNat * 1)) 0 w1 fun w2 =>
    N1 t l out_b out_l out_c (IntKind.i64.wrap (k + (1 : Int))) w2) (
    R out_b out_l out_c w)) = kstep Try.prog 63 Try.f55.results.toList (Try.f55.body.getD .skip) (sock_Table_Queue.RV R) (kvc Try.prog 63 Try.f55.results.toList (Try.f55.body.getD .skip) (sock_Table_Queue.RV R) [([(0, [1, 1, 1, 1, 0, 1, 0, 0]), (2, [1, 1, 1, 1, 0, 1, 0, 0]), (1, [0]), (0, [1, 1, 1, 1, 1])], fun σ w => dP (slotOf σ 0) fun t_ => dI .i64 (slotOf σ 5) fun l_ => dL (slotOf σ 6) fun out_b_ out_l_ out_c_ => dI .i64 (slotOf σ 7) fun k_ => N1 t_ l_ out_b_ out_l_ out_c_ k_ w)] 2000) [(0, [1, 1, 1, 1, 0, 1, 0, 0]), (2, [1, 1, 1, 1, 0, 1, 0, 0]), (1, [0]), (0, [1, 1, 1, 1, 1])] [(0, .pointer t), (5, .int .i64 l), (6, .slice out_b out_l out_c), (7, .int .i64 k)] w := by kernel_rfl
theorem sock_Table_Queue.L1b_sound {R : Option Addr → Nat → Nat → World → Prop} {N1 : Option Addr → Int → Option Addr → Nat → Nat → Int → World → Prop} (hN1 : ∀ t l out_b out_l out_c k w, N1 t l out_b out_l out_c k w → KW Try.prog 55 63 (sock_Table_Queue.RV R) ([(0, [1, 1, 1, 1, 0, 1, 0, 0]), (2, [1, 1, 1, 1, 0, 1, 0, 0]), (1, [0]), (0, [1, 1, 1, 1, 1])].map (toItem (Try.f55.body.getD .skip))) [(0, .pointer t), (5, .int .i64 l), (6, .slice out_b out_l out_c), (7, .int .i64 k)] w) (t : Option Addr) (l : Int) (out_b : Option Addr) (out_l out_c : Nat) (k : Int) (w : World) (h : sock_Table_Queue.L1b t l out_b out_l out_c k w  N1 R) :
    KW Try.prog 55 63 (sock_Table_Queue.RV R) ([(0, [1, 1, 1, 1, 0, 1, 0, 0]), (2, [1, 1, 1, 1, 0, 1, 0, 0]), (1, [0]), (0, [1, 1, 1, 1, 1])].map (toItem (Try.f55.body.getD .skip))) [(0, .pointer t), (5, .int .i64 l), (6, .slice out_b out_l out_c), (7, .int .i64 k)] w := by
  exact block_spec Try.func55 Try.mixed (stops_cons (fun σ w h => by
      obtain ⟨t_, e0, h⟩ := dP_elim h
      obtain ⟨l_, e1, h⟩ := dI_elim h
      obtain ⟨out_b_, out_l_, out_c_, e2, h⟩ := dL_elim h
      obtain ⟨k_, e3, h⟩ := dI_elim h
      exact (hN1 t_ l_ out_b_ out_l_ out_c_ k_ w h).weaken (Sub.cons (Sub.cons (Sub.cons (Sub.cons (Sub.nil _) e3) e2) e1) e0)) stops_nil) (Eq.mp (sock_Table_Queue.L1b_eq t l out_b out_l out_c k w  N1 R ) h)
def sock_Table_Queue.L1 (t : Option Addr) (l : Int) (out_b : Option Addr) (out_l out_c : Nat) (k : Int) (w : World)  (R : Option Addr → Nat → Nat → World → Prop) : Prop :=
  ∃ (I : Nat → Option Addr → Int → Option Addr → Nat → Nat → Int → World → Prop) (m : Nat), I m t l out_b out_l out_c k w ∧ ∀ m t l out_b out_l out_c k w, I m t l out_b out_l out_c k w → sock_Table_Queue.L1b t l out_b out_l out_c k w  (fun t' l' out_b' out_l' out_c' k' w' => ∃ m', m' < m ∧ I m' t' l' out_b' out_l' out_c' k' w') R
theorem sock_Table_Queue.L1_sound {R : Option Addr → Nat → Nat → World → Prop}  (t : Option Addr) (l : Int) (out_b : Option Addr) (out_l out_c : Nat) (k : Int) (w : World) (h : sock_Table_Queue.L1 t l out_b out_l out_c k w  R) :
    KW Try.prog 55 63 (sock_Table_Queue.RV R) ([(0, [1, 1, 1, 1, 0, 1, 0, 0]), (2, [1, 1, 1, 1, 0, 1, 0, 0]), (1, [0]), (0, [1, 1, 1, 1, 1])].map (toItem (Try.f55.body.getD .skip))) [(0, .pointer t), (5, .int .i64 l), (6, .slice out_b out_l out_c), (7, .int .i64 k)] w := by
  obtain ⟨I, m, hBase, hr⟩ := h
  refine KW.loop (fun m σ w => ∃ (t : Option Addr) (l : Int) (out_b : Option Addr) (out_l out_c : Nat) (k : Int), σ = [(0, .pointer t), (5, .int .i64 l), (6, .slice out_b out_l out_c), (7, .int .i64 k)] ∧ I m t l out_b out_l out_c k w) ?_ m _ w ⟨t, l, out_b, out_l, out_c, k, rfl, hBase⟩
  rintro m ih σ w ⟨t, l, out_b, out_l, out_c, k, rfl, hI⟩
  exact sock_Table_Queue.L1b_sound  (N1 := fun t' l' out_b' out_l' out_c' k' w' => ∃ m', m' < m ∧ I m' t' l' out_b' out_l' out_c' k' w') (fun t' l' out_b' out_l' out_c' k' w' hx => by obtain ⟨m', hlt, hI'⟩ := hx; exact ih m' hlt _ w' ⟨t', l', out_b', out_l', out_c', k', rfl, hI'⟩) t l out_b out_l out_c k w (hr m t l out_b out_l out_c k w hI)
def sock_Table_Queue.B1 (t : Option Addr) (l : Int) (t24 : Bool) (w : World)   (R : Option Addr → Nat → Nat → World → Prop) : Prop :=
  Bm t24 (
    New (.cells #[] 3) w fun b25 w1 =>
    R (some ⟨b25, 0, none⟩) 0 0 w1) (
    Pn t fun a =>
    (0 ≤ l ∧ l < ((6 : Nat) : Int)) ∧
    LdI .i64 ((Addr.add a (l.toNat * 15)).add 14) w fun x32 =>
    Make 3 (.int .i64 (0 : Int)) 1 8 x32 x32 w fun b33 w2 =>
    sock_Table_Queue.L1 t l (some ⟨b33, 0, none⟩) x32.toNat x32.toNat (0 : Int) w2  R)
theorem sock_Table_Queue.B1_eq (t : Option Addr) (l : Int) (t24 : Bool) (w : World)   (R : Option Addr → Nat → Nat → World → Prop) (sL1 : Option Addr → Int → Option Addr → Nat → Nat → Int → World → Prop) :
    (
  Bm t24 (
    New (.cells #[] 3) w fun b25 w1 =>
    R (some ⟨b25, 0, none⟩) 0 0 w1) (
    Pn t fun a =>
    (0 ≤ l ∧ l < ((6 : Nat) : Int)) ∧
    LdI .i64 ((Addr.add a (l.toNat * 15)).add 14) w fun x32 =>
    Make 3 (.int .i64 (0 : Int)) 1 8 x32 x32 w fun b33 w2 =>
    sL1 t l (some ⟨b33, 0, none⟩) x32.toNat x32.toNat (0 : Int) w2)) = kstep Try.prog 63 Try.f55.results.toList (Try.f55.body.getD .skip) (sock_Table_Queue.RV R) (kvc Try.prog 63 Try.f55.results.toList (Try.f55.body.getD .skip) (sock_Table_Queue.RV R) [([(0, [1, 1, 1, 1, 0, 1, 0, 0]), (2, [1, 1, 1, 1, 0, 1, 0, 0]), (1, [0]), (0, [1, 1, 1, 1, 1])], fun σ w => dP (slotOf σ 0) fun t_ => dI .i64 (slotOf σ 5) fun l_ => dL (slotOf σ 6) fun out_b_ out_l_ out_c_ => dI .i64 (slotOf σ 7) fun k_ => sL1 t_ l_ out_b_ out_l_ out_c_ k_ w)] 2000) [(0, [1, 1, 0, 1]), (0, [1, 1, 1])] [(0, .pointer t), (5, .int .i64 l), (24, .bool t24)] w := by kernel_rfl
theorem sock_Table_Queue.B1_sound {R : Option Addr → Nat → Nat → World → Prop}  (t : Option Addr) (l : Int) (t24 : Bool) (w : World) (h : sock_Table_Queue.B1 t l t24 w   R) :
    KW Try.prog 55 63 (sock_Table_Queue.RV R) ([(0, [1, 1, 0, 1]), (0, [1, 1, 1])].map (toItem (Try.f55.body.getD .skip))) [(0, .pointer t), (5, .int .i64 l), (24, .bool t24)] w := by
  exact block_spec Try.func55 Try.mixed (stops_cons (fun σ w h => by
      obtain ⟨t_, e0, h⟩ := dP_elim h
      obtain ⟨l_, e1, h⟩ := dI_elim h
      obtain ⟨out_b_, out_l_, out_c_, e2, h⟩ := dL_elim h
      obtain ⟨k_, e3, h⟩ := dI_elim h
      exact (sock_Table_Queue.L1_sound  t_ l_ out_b_ out_l_ out_c_ k_ w h).weaken (Sub.cons (Sub.cons (Sub.cons (Sub.cons (Sub.nil _) e3) e2) e1) e0)) stops_nil) (Eq.mp (sock_Table_Queue.B1_eq t l t24 w   R (fun t_ l_ out_b_ out_l_ out_c_ k_ w => sock_Table_Queue.L1 t_ l_ out_b_ out_l_ out_c_ k_ w  R)) h)
def sock_Table_Queue.B0 (t : Option Addr) (lsd : Int) (w : World)   (R : Option Addr → Nat → Nat → World → Prop) : Prop :=
  sock_Table_find.Call t lsd w fun r11 w1 =>
  Bm (r11 == (-1 : Int)) (
    sock_Table_Queue.B1 t r11 true w1  R) (
    Pn t fun a =>
    (0 ≤ r11 ∧ r11 < ((6 : Nat) : Int)) ∧
    LdI .i64 (((Addr.add a (r11.toNat * 15)).add 1).add 1) w1 fun x22 =>
    sock_Table_Queue.B1 t r11 (x22 != (1 : Int)) w1  R)
theorem sock_Table_Queue.B0_eq (t : Option Addr) (lsd : Int) (w : World)   (R : Option Addr → Nat → Nat → World → Prop) (sB1 : Option Addr → Int → Bool → World → Prop) :
    (
  sock_Table_find.Call t lsd w fun r11 w1 =>
  Bm (r11 == (-1 : Int)) (
    sB1 t r11 true w1) (
    Pn t fun a =>
    (0 ≤ r11 ∧ r11 < ((6 : Nat) : Int)) ∧
    LdI .i64 (((Addr.add a (r11.toNat * 15)).add 1).add 1) w1 fun x22 =>
    sB1 t r11 (x22 != (1 : Int)) w1)) = kstep Try.prog 63 Try.f55.results.toList (Try.f55.body.getD .skip) (sock_Table_Queue.RV R) (kvc Try.prog 63 Try.f55.results.toList (Try.f55.body.getD .skip) (sock_Table_Queue.RV R) [([(0, [1, 1, 0, 1]), (0, [1, 1, 1])], fun σ w => dP (slotOf σ 0) fun t_ => dI .i64 (slotOf σ 5) fun l_ => dB (slotOf σ 24) fun t24_ => sB1 t_ l_ t24_ w)] 2000) [(0, [])] [(0, .pointer t), (1, .int .i64 lsd)] w := by kernel_rfl
theorem sock_Table_Queue.B0_sound {R : Option Addr → Nat → Nat → World → Prop}  (t : Option Addr) (lsd : Int) (w : World) (h : sock_Table_Queue.B0 t lsd w   R) :
    KW Try.prog 55 63 (sock_Table_Queue.RV R) ([(0, [])].map (toItem (Try.f55.body.getD .skip))) [(0, .pointer t), (1, .int .i64 lsd)] w := by
  exact block_spec Try.func55 Try.mixed (stops_cons (fun σ w h => by
      obtain ⟨t_, e0, h⟩ := dP_elim h
      obtain ⟨l_, e1, h⟩ := dI_elim h
      obtain ⟨t24_, e2, h⟩ := dB_elim h
      exact (sock_Table_Queue.B1_sound  t_ l_ t24_ w h).weaken (Sub.cons (Sub.cons (Sub.cons (Sub.nil _) e2) e1) e0)) stops_nil) (Eq.mp (sock_Table_Queue.B0_eq t lsd w   R (fun t_ l_ t24_ w => sock_Table_Queue.B1 t_ l_ t24_ w  R)) h)
theorem sock_Table_Queue.sound (t : Option Addr) (lsd : Int) (w : World) (R : Option Addr → Nat → Nat → World → Prop) (h : sock_Table_Queue.B0 t lsd w R) : sock_Table_Queue.Call t lsd w R := by
  have hc := calls_of_block (args := #[.pointer t, .int .i64 lsd]) Try.func55 (body := (Try.f55.body.getD .skip)) (by kernel_rfl) (by kernel_rfl) (args_slot _) (sock_Table_Queue.B0_sound t lsd w h)
  exact hc.mono fun e w' he => by
    obtain ⟨v, rfl, hv⟩ := he
    exact sock_Table_Queue.RV_elim hv
def sockm_Table_Queue.B2 (t : Option Addr) (lsd : Int) (out_b : Option Addr) (out_l out_c : Nat) (last best i : Int) (w : World) (N1 : Option Addr → Int → Option Addr → Nat → Nat → Int → World → Prop) (N2 : Option Addr → Int → Option Addr → Nat → Nat → Int → Int → Int → World → Prop)  (R : Option Addr → Nat → Nat → World → Prop) : Prop :=
  N2 t lsd out_b out_l out_c last best (IntKind.i64.wrap (i + (1 : Int))) w
theorem sockm_Table_Queue.B2_eq (t : Option Addr) (lsd : Int) (out_b : Option Addr) (out_l out_c : Nat) (last best i : Int) (w : World) (N1 : Option Addr → Int → Option Addr → Nat → Nat → Int → World → Prop) (N2 : Option Addr → Int → Option Addr → Nat → Nat → Int → Int → Int → World → Prop)  (R : Option Addr → Nat → Nat → World → Prop)  :
    (
  N2 t lsd out_b out_l out_c last best (IntKind.i64.wrap (i + (1 : Int))) w) = kstep Try.prog 88 Try.f56.results.toList (Try.f56.body.getD .skip) (sockm_Table_Queue.RV R) (kvc Try.prog 88 Try.f56.results.toList (Try.f56.body.getD .skip) (sockm_Table_Queue.RV R) [([(0, [1, 1, 1, 0, 0, 0, 1, 0, 1, 0, 0]), (2, [1, 1, 1, 0, 0, 0, 1, 0, 1, 0, 0]), (1, [2]), (0, [1, 1, 1, 0, 0, 0, 1, 1]), (1, [1]), (2, [1, 1, 1, 0, 0]), (1, [0])], fun σ w => dP (slotOf σ 0) fun t_ => dI .i64 (slotOf σ 1) fun lsd_ => dL (slotOf σ 5) fun out_b_ out_l_ out_c_ => dI .i64 (slotOf σ 6) fun last_ => dI .i64 (slotOf σ 7) fun best_ => dI .i64 (slotOf σ 8) fun i_ => N2 t_ lsd_ out_b_ out_l_ out_c_ last_ best_ i_ w)] 2000) [(0, [1, 1, 1, 0, 0, 0, 1, 0, 1, 0, 0, 1, 1]), (2, [1, 1, 1, 0, 0, 0, 1, 0, 1, 0, 0]), (1, [2]), (0, [1, 1, 1, 0, 0, 0, 1, 1]), (1, [1]), (2, [1, 1, 1, 0, 0]), (1, [0])] [(0, .pointer t), (1, .int .i64 lsd), (5, .slice out_b out_l out_c), (6, .int .i64 last), (7, .int .i64 best), (8, .int .i64 i)] w := by kernel_rfl
theorem sockm_Table_Queue.B2_sound {R : Option Addr → Nat → Nat → World → Prop} {N1 : Option Addr → Int → Option Addr → Nat → Nat → Int → World → Prop} (hN1 : ∀ t lsd out_b out_l out_c last w, N1 t lsd out_b out_l out_c last w → KW Try.prog 56 88 (sockm_Table_Queue.RV R) ([(0, [1, 1, 1, 0, 0]), (2, [1, 1, 1, 0, 0]), (1, [0])].map (toItem (Try.f56.body.getD .skip))) [(0, .pointer t), (1, .int .i64 lsd), (5, .slice out_b out_l out_c), (6, .int .i64 last)] w) {N2 : Option Addr → Int → Option Addr → Nat → Nat → Int → Int → Int → World → Prop} (hN2 : ∀ t lsd out_b out_l out_c last best i w, N2 t lsd out_b out_l out_c last best i w → KW Try.prog 56 88 (sockm_Table_Queue.RV R) ([(0, [1, 1, 1, 0, 0, 0, 1, 0, 1, 0, 0]), (2, [1, 1, 1, 0, 0, 0, 1, 0, 1, 0, 0]), (1, [2]), (0, [1, 1, 1, 0, 0, 0, 1, 1]), (1, [1]), (2, [1, 1, 1, 0, 0]), (1, [0])].map (toItem (Try.f56.body.getD .skip))) [(0, .pointer t), (1, .int .i64 lsd), (5, .slice out_b out_l out_c), (6, .int .i64 last), (7, .int .i64 best), (8, .int .i64 i)] w) (t : Option Addr) (lsd : Int) (out_b : Option Addr) (out_l out_c : Nat) (last best i : Int) (w : World) (h : sockm_Table_Queue.B2 t lsd out_b out_l out_c last best i w N1 N2  R) :
    KW Try.prog 56 88 (sockm_Table_Queue.RV R) ([(0, [1, 1, 1, 0, 0, 0, 1, 0, 1, 0, 0, 1, 1]), (2, [1, 1, 1, 0, 0, 0, 1, 0, 1, 0, 0]), (1, [2]), (0, [1, 1, 1, 0, 0, 0, 1, 1]), (1, [1]), (2, [1, 1, 1, 0, 0]), (1, [0])].map (toItem (Try.f56.body.getD .skip))) [(0, .pointer t), (1, .int .i64 lsd), (5, .slice out_b out_l out_c), (6, .int .i64 last), (7, .int .i64 best), (8, .int .i64 i)] w := by
  exact block_spec Try.func56 Try.mixed (stops_cons (fun σ w h => by
      obtain ⟨t_, e0, h⟩ := dP_elim h
      obtain ⟨lsd_, e1, h⟩ := dI_elim h
      obtain ⟨out_b_, out_l_, out_c_, e2, h⟩ := dL_elim h
      obtain ⟨last_, e3, h⟩ := dI_elim h
      obtain ⟨best_, e4, h⟩ := dI_elim h
      obtain ⟨i_, e5, h⟩ := dI_elim h
      exact (hN2 t_ lsd_ out_b_ out_l_ out_c_ last_ best_ i_ w h).weaken (Sub.cons (Sub.cons (Sub.cons (Sub.cons (Sub.cons (Sub.cons (Sub.nil _) e5) e4) e3) e2) e1) e0)) stops_nil) (Eq.mp (sockm_Table_Queue.B2_eq t lsd out_b out_l out_c last best i w N1 N2  R ) h)
def sockm_Table_Queue.B1 (t : Option Addr) (lsd : Int) (out_b : Option Addr) (out_l out_c : Nat) (last best i : Int) (t63 : Bool) (w : World) (N1 : Option Addr → Int → Option Addr → Nat → Nat → Int → World → Prop) (N2 : Option Addr → Int → Option Addr → Nat → Nat → Int → Int → Int → World → Prop)  (R : Option Addr → Nat → Nat → World → Prop) : Prop :=
  Bm t63 (
    sockm_Table_Queue.B2 t lsd out_b out_l out_c last i i w N1 N2 R) (
    sockm_Table_Queue.B2 t lsd out_b out_l out_c last best i w N1 N2 R)
theorem sockm_Table_Queue.B1_eq (t : Option Addr) (lsd : Int) (out_b : Option Addr) (out_l out_c : Nat) (last best i : Int) (t63 : Bool) (w : World) (N1 : Option Addr → Int → Option Addr → Nat → Nat → Int → World → Prop) (N2 : Option Addr → Int → Option Addr → Nat → Nat → Int → Int → Int → World → Prop)  (R : Option Addr → Nat → Nat → World → Prop) (sB2 : Option Addr → Int → Option Addr → Nat → Nat → Int → Int → Int → World → Prop) :
    (
  Bm t63 (
    sB2 t lsd out_b out_l out_c last i i w) (
    sB2 t lsd out_b out_l out_c last best i w)) = kstep Try.prog 88 Try.f56.results.toList (Try.f56.body.getD .skip) (sockm_Table_Queue.RV R) (kvc Try.prog 88 Try.f56.results.toList (Try.f56.body.getD .skip) (sockm_Table_Queue.RV R) [([(0, [1, 1, 1, 0, 0, 0, 1, 0, 1, 0, 0, 1, 1]), (2, [1, 1, 1, 0, 0, 0, 1, 0, 1, 0, 0]), (1, [2]), (0, [1, 1, 1, 0, 0, 0, 1, 1]), (1, [1]), (2, [1, 1, 1, 0, 0]), (1, [0])], fun σ w => dP (slotOf σ 0) fun t_ => dI .i64 (slotOf σ 1) fun lsd_ => dL (slotOf σ 5) fun out_b_ out_l_ out_c_ => dI .i64 (slotOf σ 6) fun last_ => dI .i64 (slotOf σ 7) fun best_ => dI .i64 (slotOf σ 8) fun i_ => sB2 t_ lsd_ out_b_ out_l_ out_c_ last_ best_ i_ w)] 2000) [(0, [1, 1, 1, 0, 0, 0, 1, 0, 1, 0, 0, 1, 0, 0, 1, 1]), (1, [3]), (0, [1, 1, 1, 0, 0, 0, 1, 0, 1, 0, 0, 1, 1]), (2, [1, 1, 1, 0, 0, 0, 1, 0, 1, 0, 0]), (1, [2]), (0, [1, 1, 1, 0, 0, 0, 1, 1]), (1, [1]), (2, [1, 1, 1, 0, 0]), (1, [0])] [(0, .pointer t), (1, .int .i64 lsd), (5, .slice out_b out_l out_c), (6, .int .i64 last), (7, .int .i64 best), (8, .int .i64 i), (63, .bool t63)] w := by kernel_rfl
theorem sockm_Table_Queue.B1_sound {R : Option Addr → Nat → Nat → World → Prop} {N1 : Option Addr → Int → Option Addr → Nat → Nat → Int → World → Prop} (hN1 : ∀ t lsd out_b out_l out_c last w, N1 t lsd out_b out_l out_c last w → KW Try.prog 56 88 (sockm_Table_Queue.RV R) ([(0, [1, 1, 1, 0, 0]), (2, [1, 1, 1, 0, 0]), (1, [0])].map (toItem (Try.f56.body.getD .skip))) [(0, .pointer t), (1, .int .i64 lsd), (5, .slice out_b out_l out_c), (6, .int .i64 last)] w) {N2 : Option Addr → Int → Option Addr → Nat → Nat → Int → Int → Int → World → Prop} (hN2 : ∀ t lsd out_b out_l out_c last best i w, N2 t lsd out_b out_l out_c last best i w → KW Try.prog 56 88 (sockm_Table_Queue.RV R) ([(0, [1, 1, 1, 0, 0, 0, 1, 0, 1, 0, 0]), (2, [1, 1, 1, 0, 0, 0, 1, 0, 1, 0, 0]), (1, [2]), (0, [1, 1, 1, 0, 0, 0, 1, 1]), (1, [1]), (2, [1, 1, 1, 0, 0]), (1, [0])].map (toItem (Try.f56.body.getD .skip))) [(0, .pointer t), (1, .int .i64 lsd), (5, .slice out_b out_l out_c), (6, .int .i64 last), (7, .int .i64 best), (8, .int .i64 i)] w) (t : Option Addr) (lsd : Int) (out_b : Option Addr) (out_l out_c : Nat) (last best i : Int) (t63 : Bool) (w : World) (h : sockm_Table_Queue.B1 t lsd out_b out_l out_c last best i t63 w N1 N2  R) :
    KW Try.prog 56 88 (sockm_Table_Queue.RV R) ([(0, [1, 1, 1, 0, 0, 0, 1, 0, 1, 0, 0, 1, 0, 0, 1, 1]), (1, [3]), (0, [1, 1, 1, 0, 0, 0, 1, 0, 1, 0, 0, 1, 1]), (2, [1, 1, 1, 0, 0, 0, 1, 0, 1, 0, 0]), (1, [2]), (0, [1, 1, 1, 0, 0, 0, 1, 1]), (1, [1]), (2, [1, 1, 1, 0, 0]), (1, [0])].map (toItem (Try.f56.body.getD .skip))) [(0, .pointer t), (1, .int .i64 lsd), (5, .slice out_b out_l out_c), (6, .int .i64 last), (7, .int .i64 best), (8, .int .i64 i), (63, .bool t63)] w := by
  exact block_spec Try.func56 Try.mixed (stops_cons (fun σ w h => by
      obtain ⟨t_, e0, h⟩ := dP_elim h
      obtain ⟨lsd_, e1, h⟩ := dI_elim h
      obtain ⟨out_b_, out_l_, out_c_, e2, h⟩ := dL_elim h
      obtain ⟨last_, e3, h⟩ := dI_elim h
      obtain ⟨best_, e4, h⟩ := dI_elim h
      obtain ⟨i_, e5, h⟩ := dI_elim h
      exact (sockm_Table_Queue.B2_sound hN1 hN2 t_ lsd_ out_b_ out_l_ out_c_ last_ best_ i_ w h).weaken (Sub.cons (Sub.cons (Sub.cons (Sub.cons (Sub.cons (Sub.cons (Sub.nil _) e5) e4) e3) e2) e1) e0)) stops_nil) (Eq.mp (sockm_Table_Queue.B1_eq t lsd out_b out_l out_c last best i t63 w N1 N2  R (fun t_ lsd_ out_b_ out_l_ out_c_ last_ best_ i_ w => sockm_Table_Queue.B2 t_ lsd_ out_b_ out_l_ out_c_ last_ best_ i_ w N1 N2 R)) h)
def sockm_Table_Queue.L2b (t : Option Addr) (lsd : Int) (out_b : Option Addr) (out_l out_c : Nat) (last best i : Int) (w : World) (N1 : Option Addr → Int → Option Addr → Nat → Nat → Int → World → Prop) (N2 : Option Addr → Int → Option Addr → Nat → Nat → Int → Int → Int → World → Prop) (R : Option Addr → Nat → Nat → World → Prop) : Prop :=
  Pn t fun a =>
  LdL a w fun x15_b x15_l x15_c =>
  Bm (decide (i < ((x15_l : Nat) : Int))) (
    Pn t fun a_1 =>
    LdL a_1 w fun x23_b x23_l x23_c =>
    Pn x23_b fun a_2 =>
    (0 ≤ i ∧ i < ((x23_l : Nat) : Int)) ∧
    LdI .i64 (Addr.add a_2 (i.toNat * 9)) w fun x26_0 =>
    LdI .i64 ((Addr.add a_2 (i.toNat * 9)).add 1) w fun x26_1 =>
    LdI .i64 ((Addr.add a_2 (i.toNat * 9)).add 2) w fun x26_2 =>
    LdI .i64 ((Addr.add a_2 (i.toNat * 9)).add 3) w fun x26_3 =>
    LdI .i64 ((Addr.add a_2 (i.toNat * 9)).add 4) w fun x26_4 =>
    LdI .i64 ((Addr.add a_2 (i.toNat * 9)).add 5) w fun x26_5 =>
    LdI .i64 ((Addr.add a_2 (i.toNat * 9)).add 6) w fun x26_6 =>
    LdB ((Addr.add a_2 (i.toNat * 9)).add 7) w fun x26_7 =>
    LdI .i64 ((Addr.add a_2 (i.toNat * 9)).add 8) w fun x26_8 =>
    New (.cells #[.int .i64 (0 : Int), .int .i64 (0 : Int), .int .i64 (0 : Int), .int .i64 (0 : Int), .int .i64 (0 : Int), .int .i64 (0 : Int), .int .i64 (0 : Int), .bool false, .int .i64 (0 : Int)] 63) w fun r_ w1 =>
    Sts [.int .i64 x26_0, .int .i64 x26_1, .int .i64 x26_2, .int .i64 x26_3, .int .i64 x26_4, .int .i64 x26_5, .int .i64 x26_6, .bool x26_7, .int .i64 x26_8] ⟨r_, 0, none⟩ 0 w1 fun w2 =>
    Bm (lsd != (0 : Int)) (
      LdI .i64 ⟨r_, 6, none⟩ w2.drew fun x32 =>
      Bm (x32 == lsd) (
        LdB ⟨r_, 7, none⟩ w2.drew fun x39 =>
        Bm x39 (
          LdI .i64 ⟨r_, 8, none⟩ w2.drew fun x43 =>
          Bm (decide (x43 > last)) (
            Bm (decide (best < (0 : Int))) (
              sockm_Table_Queue.B1 t lsd out_b out_l out_c last best i true w2.drew N1 N2 R) (
              LdI .i64 ⟨r_, 8, none⟩ w2.drew fun x52 =>
              Pn t fun a_3 =>
              LdL a_3 w2.drew fun x56_b x56_l x56_c =>
              Pn x56_b fun a_4 =>
              (0 ≤ best ∧ best < ((x56_l : Nat) : Int)) ∧
              LdI .i64 ((Addr.add a_4 (best.toNat * 9)).add 8) w2.drew fun x60 =>
              sockm_Table_Queue.B1 t lsd out_b out_l out_c last best i (decide (x52 < x60)) w2.drew N1 N2 R)) (
            sockm_Table_Queue.B1 t lsd out_b out_l out_c last best i false w2.drew N1 N2 R)) (
          sockm_Table_Queue.B1 t lsd out_b out_l out_c last best i false w2.drew N1 N2 R)) (
        sockm_Table_Queue.B1 t lsd out_b out_l out_c last best i false w2.drew N1 N2 R)) (
      sockm_Table_Queue.B1 t lsd out_b out_l out_c last best i false w2.drew N1 N2 R)) (
    Bm (decide (best < (0 : Int))) (
      R out_b out_l out_c w) (
      Pn t fun a_5 =>
      LdL a_5 w fun x72_b x72_l x72_c =>
      Pn x72_b fun a_6 =>
      (0 ≤ best ∧ best < ((x72_l : Nat) : Int)) ∧
      LdI .i64 (Addr.add a_6 (best.toNat * 9)) w fun x77 =>
      New (.cells #[.int .i64 x77] 3) w fun b78 w3 =>
      Append 3 (.int .i64 (0 : Int)) 1 8 out_b out_l out_c (some ⟨b78, 0, none⟩) 1 w3 fun b79 c79 w4 =>
      Pn t fun a_7 =>
      LdL a_7 w4 fun x83_b x83_l x83_c =>
      Pn x83_b fun a_8 =>
      (0 ≤ best ∧ best < ((x83_l : Nat) : Int)) ∧
      LdI .i64 ((Addr.add a_8 (best.toNat * 9)).add 8) w4 fun x87 =>
      N1 t lsd b79 (out_l + 1) c79 x87 w4))
theorem sockm_Table_Queue.L2b_eq (t : Option Addr) (lsd : Int) (out_b : Option Addr) (out_l out_c : Nat) (last best i : Int) (w : World) (N1 : Option Addr → Int → Option Addr → Nat → Nat → Int → World → Prop) (N2 : Option Addr → Int → Option Addr → Nat → Nat → Int → Int → Int → World → Prop) (R : Option Addr → Nat → Nat → World → Prop) (sB1 : Option Addr → Int → Option Addr → Nat → Nat → Int → Int → Int → Bool → World → Prop) :
    (
  Pn t fun a =>
  LdL a w fun x15_b x15_l x15_c =>
  Bm (decide (i < ((x15_l : Nat) : Int))) (
    Pn t fun a_1 =>
    LdL a_1 w fun x23_b x23_l x23_c =>
    Pn x23_b fun a_2 =>
    (0 ≤ i ∧ i < ((x23_l : Nat) : Int)) ∧
    LdI .i64 (Addr.add a_2 (i.toNat * 9)) w fun x26_0 =>
    LdI .i64 ((Addr.add a_2 (i.toNat * 9)).add 1) w fun x26_1 =>
    LdI .i64 ((Addr.add a_2 (i.toNat * 9)).add 2) w fun x26_2 =>
    LdI .i64 ((Addr.add a_2 (i.toNat * 9)).add 3) w fun x26_3 =>
    LdI .i64 ((Addr.add a_2 (i.toNat * 9)).add 4) w fun x26_4 =>
    LdI .i64 ((Addr.add a_2 (i.toNat * 9)).add 5) w fun x26_5 =>
    LdI .i64 ((Addr.add a_2 (i.toNat * 9)).add 6) w fun x26_6 =>
    LdB ((Addr.add a_2 (i.toNat * 9)).add 7) w fun x26_7 =>
    LdI .i64 ((Addr.add a_2 (i.toNat * 9)).add 8) w fun x26_8 =>
    New (.cells #[.int .i64 (0 : Int), .int .i64 (0 : Int), .int .i64 (0 : Int), .int .i64 (0 : Int), .int .i64 (0 : Int), .int .i64 (0 : Int), .int .i64 (0 : Int), .bool false, .int .i64 (0 : Int)] 63) w fun r_ w1 =>
    Sts [.int .i64 x26_0, .int .i64 x26_1, .int .i64 x26_2, .int .i64 x26_3, .int .i64 x26_4, .int .i64 x26_5, .int .i64 x26_6, .bool x26_7, .int .i64 x26_8] ⟨r_, 0, none⟩ 0 w1 fun w2 =>
    Bm (lsd != (0 : Int)) (
      LdI .i64 ⟨r_, 6, none⟩ w2.drew fun x32 =>
      Bm (x32 == lsd) (
        LdB ⟨r_, 7, none⟩ w2.drew fun x39 =>
        Bm x39 (
          LdI .i64 ⟨r_, 8, none⟩ w2.drew fun x43 =>
          Bm (decide (x43 > last)) (
            Bm (decide (best < (0 : Int))) (
              sB1 t lsd out_b out_l out_c last best i true w2.drew) (
              LdI .i64 ⟨r_, 8, none⟩ w2.drew fun x52 =>
              Pn t fun a_3 =>
              LdL a_3 w2.drew fun x56_b x56_l x56_c =>
              Pn x56_b fun a_4 =>
              (0 ≤ best ∧ best < ((x56_l : Nat) : Int)) ∧
              LdI .i64 ((Addr.add a_4 (best.toNat * 9)).add 8) w2.drew fun x60 =>
              sB1 t lsd out_b out_l out_c last best i (decide (x52 < x60)) w2.drew)) (
            sB1 t lsd out_b out_l out_c last best i false w2.drew)) (
          sB1 t lsd out_b out_l out_c last best i false w2.drew)) (
        sB1 t lsd out_b out_l out_c last best i false w2.drew)) (
      sB1 t lsd out_b out_l out_c last best i false w2.drew)) (
    Bm (decide (best < (0 : Int))) (
      R out_b out_l out_c w) (
      Pn t fun a_5 =>
      LdL a_5 w fun x72_b x72_l x72_c =>
      Pn x72_b fun a_6 =>
      (0 ≤ best ∧ best < ((x72_l : Nat) : Int)) ∧
      LdI .i64 (Addr.add a_6 (best.toNat * 9)) w fun x77 =>
      New (.cells #[.int .i64 x77] 3) w fun b78 w3 =>
      Append 3 (.int .i64 (0 : Int)) 1 8 out_b out_l out_c (some ⟨b78, 0, none⟩) 1 w3 fun b79 c79 w4 =>
      Pn t fun a_7 =>
      LdL a_7 w4 fun x83_b x83_l x83_c =>
      Pn x83_b fun a_8 =>
      (0 ≤ best ∧ best < ((x83_l : Nat) : Int)) ∧
      LdI .i64 ((Addr.add a_8 (best.toNat * 9)).add 8) w4 fun x87 =>
      N1 t lsd b79 (out_l + 1) c79 x87 w4))) = kstep Try.prog 88 Try.f56.results.toList (Try.f56.body.getD .skip) (sockm_Table_Queue.RV R) (kvc Try.prog 88 Try.f56.results.toList (Try.f56.body.getD .skip) (sockm_Table_Queue.RV R) [([(0, [1, 1, 1, 0, 0, 0, 1, 0, 1, 0, 0, 1, 0, 0, 1, 1]), (1, [3]), (0, [1, 1, 1, 0, 0, 0, 1, 0, 1, 0, 0, 1, 1]), (2, [1, 1, 1, 0, 0, 0, 1, 0, 1, 0, 0]), (1, [2]), (0, [1, 1, 1, 0, 0, 0, 1, 1]), (1, [1]), (2, [1, 1, 1, 0, 0]), (1, [0])], fun σ w => dP (slotOf σ 0) fun t_ => dI .i64 (slotOf σ 1) fun lsd_ => dL (slotOf σ 5) fun out_b_ out_l_ out_c_ => dI .i64 (slotOf σ 6) fun last_ => dI .i64 (slotOf σ 7) fun best_ => dI .i64 (slotOf σ 8) fun i_ => dB (slotOf σ 63) fun t63_ => sB1 t_ lsd_ out_b_ out_l_ out_c_ last_ best_ i_ t63_ w),
    ([(0, [1, 1, 1, 0, 0]), (2, [1, 1, 1, 0, 0]), (1, [0])], fun σ w => dP (slotOf σ 0) fun t_ => dI .i64 (slotOf σ 1) fun lsd_ => dL (slotOf σ 5) fun out_b_ out_l_ out_c_ => dI .i64 (slotOf σ 6) fun last_ => N1 t_ lsd_ out_b_ out_l_ out_c_ last_ w)] 2000) [(0, [1, 1, 1, 0, 0, 0, 1, 0, 1, 0, 0]), (2, [1, 1, 1, 0, 0, 0, 1, 0, 1, 0, 0]), (1, [2]), (0, [1, 1, 1, 0, 0, 0, 1, 1]), (1, [1]), (2, [1, 1, 1, 0, 0]), (1, [0])] [(0, .pointer t), (1, .int .i64 lsd), (5, .slice out_b out_l out_c), (6, .int .i64 last), (7, .int .i64 best), (8, .int .i64 i)] w := by kernel_rfl
theorem sockm_Table_Queue.L2b_sound {R : Option Addr → Nat → Nat → World → Prop} {N1 : Option Addr → Int → Option Addr → Nat → Nat → Int → World → Prop} (hN1 : ∀ t lsd out_b out_l out_c last w, N1 t lsd out_b out_l out_c last w → KW Try.prog 56 88 (sockm_Table_Queue.RV R) ([(0, [1, 1, 1, 0, 0]), (2, [1, 1, 1, 0, 0]), (1, [0])].map (toItem (Try.f56.body.getD .skip))) [(0, .pointer t), (1, .int .i64 lsd), (5, .slice out_b out_l out_c), (6, .int .i64 last)] w) {N2 : Option Addr → Int → Option Addr → Nat → Nat → Int → Int → Int → World → Prop} (hN2 : ∀ t lsd out_b out_l out_c last best i w, N2 t lsd out_b out_l out_c last best i w → KW Try.prog 56 88 (sockm_Table_Queue.RV R) ([(0, [1, 1, 1, 0, 0, 0, 1, 0, 1, 0, 0]), (2, [1, 1, 1, 0, 0, 0, 1, 0, 1, 0, 0]), (1, [2]), (0, [1, 1, 1, 0, 0, 0, 1, 1]), (1, [1]), (2, [1, 1, 1, 0, 0]), (1, [0])].map (toItem (Try.f56.body.getD .skip))) [(0, .pointer t), (1, .int .i64 lsd), (5, .slice out_b out_l out_c), (6, .int .i64 last), (7, .int .i64 best), (8, .int .i64 i)] w) (t : Option Addr) (lsd : Int) (out_b : Option Addr) (out_l out_c : Nat) (last best i : Int) (w : World) (h : sockm_Table_Queue.L2b t lsd out_b out_l out_c last best i w N1 N2 R) :
    KW Try.prog 56 88 (sockm_Table_Queue.RV R) ([(0, [1, 1, 1, 0, 0, 0, 1, 0, 1, 0, 0]), (2, [1, 1, 1, 0, 0, 0, 1, 0, 1, 0, 0]), (1, [2]), (0, [1, 1, 1, 0, 0, 0, 1, 1]), (1, [1]), (2, [1, 1, 1, 0, 0]), (1, [0])].map (toItem (Try.f56.body.getD .skip))) [(0, .pointer t), (1, .int .i64 lsd), (5, .slice out_b out_l out_c), (6, .int .i64 last), (7, .int .i64 best), (8, .int .i64 i)] w := by
  exact block_spec Try.func56 Try.mixed (stops_cons (fun σ w h => by
      obtain ⟨t_, e0, h⟩ := dP_elim h
      obtain ⟨lsd_, e1, h⟩ := dI_elim h
      obtain ⟨out_b_, out_l_, out_c_, e2, h⟩ := dL_elim h
      obtain ⟨last_, e3, h⟩ := dI_elim h
      obtain ⟨best_, e4, h⟩ := dI_elim h
      obtain ⟨i_, e5, h⟩ := dI_elim h
      obtain ⟨t63_, e6, h⟩ := dB_elim h
      exact (sockm_Table_Queue.B1_sound hN1 hN2 t_ lsd_ out_b_ out_l_ out_c_ last_ best_ i_ t63_ w h).weaken (Sub.cons (Sub.cons (Sub.cons (Sub.cons (Sub.cons (Sub.cons (Sub.cons (Sub.nil _) e6) e5) e4) e3) e2) e1) e0)) (stops_cons (fun σ w h => by
      obtain ⟨t_, e0, h⟩ := dP_elim h
      obtain ⟨lsd_, e1, h⟩ := dI_elim h
      obtain ⟨out_b_, out_l_, out_c_, e2, h⟩ := dL_elim h
      obtain ⟨last_, e3, h⟩ := dI_elim h
      exact (hN1 t_ lsd_ out_b_ out_l_ out_c_ last_ w h).weaken (Sub.cons (Sub.cons (Sub.cons (Sub.cons (Sub.nil _) e3) e2) e1) e0)) stops_nil)) (Eq.mp (sockm_Table_Queue.L2b_eq t lsd out_b out_l out_c last best i w N1 N2 R (fun t_ lsd_ out_b_ out_l_ out_c_ last_ best_ i_ t63_ w => sockm_Table_Queue.B1 t_ lsd_ out_b_ out_l_ out_c_ last_ best_ i_ t63_ w N1 N2 R)) h)
def sockm_Table_Queue.L2 (t : Option Addr) (lsd : Int) (out_b : Option Addr) (out_l out_c : Nat) (last best i : Int) (w : World) (N1 : Option Addr → Int → Option Addr → Nat → Nat → Int → World → Prop) (R : Option Addr → Nat → Nat → World → Prop) : Prop :=
  ∃ (I : Nat → Option Addr → Int → Option Addr → Nat → Nat → Int → Int → Int → World → Prop) (m : Nat), I m t lsd out_b out_l out_c last best i w ∧ ∀ m t lsd out_b out_l out_c last best i w, I m t lsd out_b out_l out_c last best i w → sockm_Table_Queue.L2b t lsd out_b out_l out_c last best i w N1 (fun t' lsd' out_b' out_l' out_c' last' best' i' w' => ∃ m', m' < m ∧ I m' t' lsd' out_b' out_l' out_c' last' best' i' w') R
theorem sockm_Table_Queue.L2_sound {R : Option Addr → Nat → Nat → World → Prop} {N1 : Option Addr → Int → Option Addr → Nat → Nat → Int → World → Prop} (hN1 : ∀ t lsd out_b out_l out_c last w, N1 t lsd out_b out_l out_c last w → KW Try.prog 56 88 (sockm_Table_Queue.RV R) ([(0, [1, 1, 1, 0, 0]), (2, [1, 1, 1, 0, 0]), (1, [0])].map (toItem (Try.f56.body.getD .skip))) [(0, .pointer t), (1, .int .i64 lsd), (5, .slice out_b out_l out_c), (6, .int .i64 last)] w) (t : Option Addr) (lsd : Int) (out_b : Option Addr) (out_l out_c : Nat) (last best i : Int) (w : World) (h : sockm_Table_Queue.L2 t lsd out_b out_l out_c last best i w N1 R) :
    KW Try.prog 56 88 (sockm_Table_Queue.RV R) ([(0, [1, 1, 1, 0, 0, 0, 1, 0, 1, 0, 0]), (2, [1, 1, 1, 0, 0, 0, 1, 0, 1, 0, 0]), (1, [2]), (0, [1, 1, 1, 0, 0, 0, 1, 1]), (1, [1]), (2, [1, 1, 1, 0, 0]), (1, [0])].map (toItem (Try.f56.body.getD .skip))) [(0, .pointer t), (1, .int .i64 lsd), (5, .slice out_b out_l out_c), (6, .int .i64 last), (7, .int .i64 best), (8, .int .i64 i)] w := by
  obtain ⟨I, m, hBase, hr⟩ := h
  refine KW.loop (fun m σ w => ∃ (t : Option Addr) (lsd : Int) (out_b : Option Addr) (out_l out_c : Nat) (last best i : Int), σ = [(0, .pointer t), (1, .int .i64 lsd), (5, .slice out_b out_l out_c), (6, .int .i64 last), (7, .int .i64 best), (8, .int .i64 i)] ∧ I m t lsd out_b out_l out_c last best i w) ?_ m _ w ⟨t, lsd, out_b, out_l, out_c, last, best, i, rfl, hBase⟩
  rintro m ih σ w ⟨t, lsd, out_b, out_l, out_c, last, best, i, rfl, hI⟩
  exact sockm_Table_Queue.L2b_sound hN1 (N2 := fun t' lsd' out_b' out_l' out_c' last' best' i' w' => ∃ m', m' < m ∧ I m' t' lsd' out_b' out_l' out_c' last' best' i' w') (fun t' lsd' out_b' out_l' out_c' last' best' i' w' hx => by obtain ⟨m', hlt, hI'⟩ := hx; exact ih m' hlt _ w' ⟨t', lsd', out_b', out_l', out_c', last', best', i', rfl, hI'⟩) t lsd out_b out_l out_c last best i w (hr m t lsd out_b out_l out_c last best i w hI)
def sockm_Table_Queue.L1b (t : Option Addr) (lsd : Int) (out_b : Option Addr) (out_l out_c : Nat) (last : Int) (w : World)  (N1 : Option Addr → Int → Option Addr → Nat → Nat → Int → World → Prop) (R : Option Addr → Nat → Nat → World → Prop) : Prop :=
  sockm_Table_Queue.L2 t lsd out_b out_l out_c last (-1 : Int) (0 : Int) w N1 R
theorem sockm_Table_Queue.L1b_eq (t : Option Addr) (lsd : Int) (out_b : Option Addr) (out_l out_c : Nat) (last : Int) (w : World)  (N1 : Option Addr → Int → Option Addr → Nat → Nat → Int → World → Prop) (R : Option Addr → Nat → Nat → World → Prop) (sL2 : Option Addr → Int → Option Addr → Nat → Nat → Int → Int → Int → World → Prop) :
    (
  sL2 t lsd out_b out_l out_c last (-1 : Int) (0 : Int) w) = kstep Try.prog 88 Try.f56.results.toList (Try.f56.body.getD .skip) (sockm_Table_Queue.RV R) (kvc Try.prog 88 Try.f56.results.toList (Try.f56.body.getD .skip) (sockm_Table_Queue.RV R) [([(0, [1, 1, 1, 0, 0, 0, 1, 0, 1, 0, 0]), (2, [1, 1, 1, 0, 0, 0, 1, 0, 1, 0, 0]), (1, [2]), (0, [1, 1, 1, 0, 0, 0, 1, 1]), (1, [1]), (2, [1, 1, 1, 0, 0]), (1, [0])], fun σ w => dP (slotOf σ 0) fun t_ => dI .i64 (slotOf σ 1) fun lsd_ => dL (slotOf σ 5) fun out_b_ out_l_ out_c_ => dI .i64 (slotOf σ 6) fun last_ => dI .i64 (slotOf σ 7) fun best_ => dI .i64 (slotOf σ 8) fun i_ => sL2 t_ lsd_ out_b_ out_l_ out_c_ last_ best_ i_ w)] 2000) [(0, [1, 1, 1, 0, 0]), (2, [1, 1, 1, 0, 0]), (1, [0])] [(0, .pointer t), (1, .int .i64 lsd), (5, .slice out_b out_l out_c), (6, .int .i64 last)] w := by kernel_rfl
theorem sockm_Table_Queue.L1b_sound {R : Option Addr → Nat → Nat → World → Prop} {N1 : Option Addr → Int → Option Addr → Nat → Nat → Int → World → Prop} (hN1 : ∀ t lsd out_b out_l out_c last w, N1 t lsd out_b out_l out_c last w → KW Try.prog 56 88 (sockm_Table_Queue.RV R) ([(0, [1, 1, 1, 0, 0]), (2, [1, 1, 1, 0, 0]), (1, [0])].map (toItem (Try.f56.body.getD .skip))) [(0, .pointer t), (1, .int .i64 lsd), (5, .slice out_b out_l out_c), (6, .int .i64 last)] w) (t : Option Addr) (lsd : Int) (out_b : Option Addr) (out_l out_c : Nat) (last : Int) (w : World) (h : sockm_Table_Queue.L1b t lsd out_b out_l out_c last w  N1 R) :
    KW Try.prog 56 88 (sockm_Table_Queue.RV R) ([(0, [1, 1, 1, 0, 0]), (2, [1, 1, 1, 0, 0]), (1, [0])].map (toItem (Try.f56.body.getD .skip))) [(0, .pointer t), (1, .int .i64 lsd), (5, .slice out_b out_l out_c), (6, .int .i64 last)] w := by
  exact block_spec Try.func56 Try.mixed (stops_cons (fun σ w h => by
      obtain ⟨t_, e0, h⟩ := dP_elim h
      obtain ⟨lsd_, e1, h⟩ := dI_elim h
      obtain ⟨out_b_, out_l_, out_c_, e2, h⟩ := dL_elim h
      obtain ⟨last_, e3, h⟩ := dI_elim h
      obtain ⟨best_, e4, h⟩ := dI_elim h
      obtain ⟨i_, e5, h⟩ := dI_elim h
      exact (sockm_Table_Queue.L2_sound hN1 t_ lsd_ out_b_ out_l_ out_c_ last_ best_ i_ w h).weaken (Sub.cons (Sub.cons (Sub.cons (Sub.cons (Sub.cons (Sub.cons (Sub.nil _) e5) e4) e3) e2) e1) e0)) stops_nil) (Eq.mp (sockm_Table_Queue.L1b_eq t lsd out_b out_l out_c last w  N1 R (fun t_ lsd_ out_b_ out_l_ out_c_ last_ best_ i_ w => sockm_Table_Queue.L2 t_ lsd_ out_b_ out_l_ out_c_ last_ best_ i_ w N1 R)) h)
def sockm_Table_Queue.L1 (t : Option Addr) (lsd : Int) (out_b : Option Addr) (out_l out_c : Nat) (last : Int) (w : World)  (R : Option Addr → Nat → Nat → World → Prop) : Prop :=
  ∃ (I : Nat → Option Addr → Int → Option Addr → Nat → Nat → Int → World → Prop) (m : Nat), I m t lsd out_b out_l out_c last w ∧ ∀ m t lsd out_b out_l out_c last w, I m t lsd out_b out_l out_c last w → sockm_Table_Queue.L1b t lsd out_b out_l out_c last w  (fun t' lsd' out_b' out_l' out_c' last' w' => ∃ m', m' < m ∧ I m' t' lsd' out_b' out_l' out_c' last' w') R
theorem sockm_Table_Queue.L1_sound {R : Option Addr → Nat → Nat → World → Prop}  (t : Option Addr) (lsd : Int) (out_b : Option Addr) (out_l out_c : Nat) (last : Int) (w : World) (h : sockm_Table_Queue.L1 t lsd out_b out_l out_c last w  R) :
    KW Try.prog 56 88 (sockm_Table_Queue.RV R) ([(0, [1, 1, 1, 0, 0]), (2, [1, 1, 1, 0, 0]), (1, [0])].map (toItem (Try.f56.body.getD .skip))) [(0, .pointer t), (1, .int .i64 lsd), (5, .slice out_b out_l out_c), (6, .int .i64 last)] w := by
  obtain ⟨I, m, hBase, hr⟩ := h
  refine KW.loop (fun m σ w => ∃ (t : Option Addr) (lsd : Int) (out_b : Option Addr) (out_l out_c : Nat) (last : Int), σ = [(0, .pointer t), (1, .int .i64 lsd), (5, .slice out_b out_l out_c), (6, .int .i64 last)] ∧ I m t lsd out_b out_l out_c last w) ?_ m _ w ⟨t, lsd, out_b, out_l, out_c, last, rfl, hBase⟩
  rintro m ih σ w ⟨t, lsd, out_b, out_l, out_c, last, rfl, hI⟩
  exact sockm_Table_Queue.L1b_sound  (N1 := fun t' lsd' out_b' out_l' out_c' last' w' => ∃ m', m' < m ∧ I m' t' lsd' out_b' out_l' out_c' last' w') (fun t' lsd' out_b' out_l' out_c' last' w' hx => by obtain ⟨m', hlt, hI'⟩ := hx; exact ih m' hlt _ w' ⟨t', lsd', out_b', out_l', out_c', last', rfl, hI'⟩) t lsd out_b out_l out_c last w (hr m t lsd out_b out_l out_c last w hI)
def sockm_Table_Queue.B0 (t : Option Addr) (lsd : Int) (w : World)   (R : Option Addr → Nat → Nat → World → Prop) : Prop :=
  New (.cells #[] 3) w fun b10 w1 =>
  sockm_Table_Queue.L1 t lsd (some ⟨b10, 0, none⟩) 0 0 (-1 : Int) w1  R
theorem sockm_Table_Queue.B0_eq (t : Option Addr) (lsd : Int) (w : World)   (R : Option Addr → Nat → Nat → World → Prop) (sL1 : Option Addr → Int → Option Addr → Nat → Nat → Int → World → Prop) :
    (
  New (.cells #[] 3) w fun b10 w1 =>
  sL1 t lsd (some ⟨b10, 0, none⟩) 0 0 (-1 : Int) w1) = kstep Try.prog 88 Try.f56.results.toList (Try.f56.body.getD .skip) (sockm_Table_Queue.RV R) (kvc Try.prog 88 Try.f56.results.toList (Try.f56.body.getD .skip) (sockm_Table_Queue.RV R) [([(0, [1, 1, 1, 0, 0]), (2, [1, 1, 1, 0, 0]), (1, [0])], fun σ w => dP (slotOf σ 0) fun t_ => dI .i64 (slotOf σ 1) fun lsd_ => dL (slotOf σ 5) fun out_b_ out_l_ out_c_ => dI .i64 (slotOf σ 6) fun last_ => sL1 t_ lsd_ out_b_ out_l_ out_c_ last_ w)] 2000) [(0, [])] [(0, .pointer t), (1, .int .i64 lsd)] w := by kernel_rfl
theorem sockm_Table_Queue.B0_sound {R : Option Addr → Nat → Nat → World → Prop}  (t : Option Addr) (lsd : Int) (w : World) (h : sockm_Table_Queue.B0 t lsd w   R) :
    KW Try.prog 56 88 (sockm_Table_Queue.RV R) ([(0, [])].map (toItem (Try.f56.body.getD .skip))) [(0, .pointer t), (1, .int .i64 lsd)] w := by
  exact block_spec Try.func56 Try.mixed (stops_cons (fun σ w h => by
      obtain ⟨t_, e0, h⟩ := dP_elim h
      obtain ⟨lsd_, e1, h⟩ := dI_elim h
      obtain ⟨out_b_, out_l_, out_c_, e2, h⟩ := dL_elim h
      obtain ⟨last_, e3, h⟩ := dI_elim h
      exact (sockm_Table_Queue.L1_sound  t_ lsd_ out_b_ out_l_ out_c_ last_ w h).weaken (Sub.cons (Sub.cons (Sub.cons (Sub.cons (Sub.nil _) e3) e2) e1) e0)) stops_nil) (Eq.mp (sockm_Table_Queue.B0_eq t lsd w   R (fun t_ lsd_ out_b_ out_l_ out_c_ last_ w => sockm_Table_Queue.L1 t_ lsd_ out_b_ out_l_ out_c_ last_ w  R)) h)
theorem sockm_Table_Queue.sound (t : Option Addr) (lsd : Int) (w : World) (R : Option Addr → Nat → Nat → World → Prop) (h : sockm_Table_Queue.B0 t lsd w R) : sockm_Table_Queue.Call t lsd w R := by
  have hc := calls_of_block (args := #[.pointer t, .int .i64 lsd]) Try.func56 (body := (Try.f56.body.getD .skip)) (by kernel_rfl) (by kernel_rfl) (args_slot _) (sockm_Table_Queue.B0_sound t lsd w h)
  exact hc.mono fun e w' he => by
    obtain ⟨v, rfl, hv⟩ := he
    exact sockm_Table_Queue.RV_elim hv
end Go.Proofs.Qxb6500427a
