import Derived.Test.Qxb6500424aGreatSig
set_option maxRecDepth 100000
set_option linter.unusedVariables false
open Go.Vc
namespace Go.Proofs.Qxb6500424aGreat
def wirem_Wire_Tick.B1 (w0 : Option Addr) (i : Int) (w : World) (N1 : Option Addr → Int → World → Prop)  (R : World → Prop) : Prop :=
  N1 w0 (IntKind.i64.wrap (i + (1 : Int))) w
theorem wirem_Wire_Tick.B1_eq (w0 : Option Addr) (i : Int) (w : World) (N1 : Option Addr → Int → World → Prop)  (R : World → Prop)  :
    (
  N1 w0 (IntKind.i64.wrap (i + (1 : Int))) w) = kstep Tryz.prog 32 Tryz.f83.results.toList (Tryz.f83.body.getD .skip) (wirem_Wire_Tick.RV R) (kvc Tryz.prog 32 Tryz.f83.results.toList (Tryz.f83.body.getD .skip) (wirem_Wire_Tick.RV R) [([(0, [1, 0, 0]), (2, [1, 0, 0]), (1, [0])], fun σ w => dP (slotOf σ 0) fun w0_ => dI .i64 (slotOf σ 2) fun i_ => N1 w0_ i_ w)] 2000) [(0, [1, 0, 0, 1, 1]), (2, [1, 0, 0]), (1, [0])] [(0, .pointer w0), (2, .int .i64 i)] w := by kernel_rfl
theorem wirem_Wire_Tick.B1_sound {R : World → Prop} {N1 : Option Addr → Int → World → Prop} (hN1 : ∀ w0 i w, N1 w0 i w → KW Tryz.prog 83 32 (wirem_Wire_Tick.RV R) ([(0, [1, 0, 0]), (2, [1, 0, 0]), (1, [0])].map (toItem (Tryz.f83.body.getD .skip))) [(0, .pointer w0), (2, .int .i64 i)] w) (w0 : Option Addr) (i : Int) (w : World) (h : wirem_Wire_Tick.B1 w0 i w N1  R) :
    KW Tryz.prog 83 32 (wirem_Wire_Tick.RV R) ([(0, [1, 0, 0, 1, 1]), (2, [1, 0, 0]), (1, [0])].map (toItem (Tryz.f83.body.getD .skip))) [(0, .pointer w0), (2, .int .i64 i)] w := by
  exact block_spec Tryz.func83 Tryz.mixed (stops_cons (fun σ w h => by
      obtain ⟨w0_, e0, h⟩ := dP_elim h
      obtain ⟨i_, e1, h⟩ := dI_elim h
      exact (hN1 w0_ i_ w h).weaken (Sub.cons (Sub.cons (Sub.nil _) e1) e0)) stops_nil) (Eq.mp (wirem_Wire_Tick.B1_eq w0 i w N1  R ) h)
def wirem_Wire_Tick.L1b (w0 : Option Addr) (i : Int) (w : World)  (N1 : Option Addr → Int → World → Prop) (R : World → Prop) : Prop :=
  Pn w0 fun a =>
  LdL a w fun x7_b x7_l x7_c =>
  Bm (decide (i < ((x7_l : Nat) : Int))) (
    Pn w0 fun a_1 =>
    LdL a_1 w fun x15_b x15_l x15_c =>
    Pn x15_b fun a_2 =>
    (0 ≤ i ∧ i < ((x15_l : Nat) : Int)) ∧
    LdI .i64 ((Addr.add a_2 (i.toNat * 3)).add 1) w fun x19 =>
    Bm (decide (x19 ≤ (4 : Int))) (
      Pn w0 fun a_3 =>
      LdL a_3 w fun x24_b x24_l x24_c =>
      Pn x24_b fun a_4 =>
      (0 ≤ i ∧ i < ((x24_l : Nat) : Int)) ∧
      LdI .i64 ((Addr.add a_4 (i.toNat * 3)).add 1) w fun x28 =>
      Pn x24_b fun a_5 =>
      (0 ≤ i ∧ i < ((x24_l : Nat) : Int)) ∧
      Sts [.int .i64 (IntKind.i64.wrap (x28 + (1 : Int)))] ((Addr.add a_5 (i.toNat * 3)).add 1) 0 w fun w1 =>
      wirem_Wire_Tick.B1 w0 i w1 N1 R) (
      wirem_Wire_Tick.B1 w0 i w N1 R)) (
    R  w)
theorem wirem_Wire_Tick.L1b_eq (w0 : Option Addr) (i : Int) (w : World)  (N1 : Option Addr → Int → World → Prop) (R : World → Prop) (sB1 : Option Addr → Int → World → Prop) :
    (
  Pn w0 fun a =>
  LdL a w fun x7_b x7_l x7_c =>
  Bm (decide (i < ((x7_l : Nat) : Int))) (
    Pn w0 fun a_1 =>
    LdL a_1 w fun x15_b x15_l x15_c =>
    Pn x15_b fun a_2 =>
    (0 ≤ i ∧ i < ((x15_l : Nat) : Int)) ∧
    LdI .i64 ((Addr.add a_2 (i.toNat * 3)).add 1) w fun x19 =>
    Bm (decide (x19 ≤ (4 : Int))) (
      Pn w0 fun a_3 =>
      LdL a_3 w fun x24_b x24_l x24_c =>
      Pn x24_b fun a_4 =>
      (0 ≤ i ∧ i < ((x24_l : Nat) : Int)) ∧
      LdI .i64 ((Addr.add a_4 (i.toNat * 3)).add 1) w fun x28 =>
      Pn x24_b fun a_5 =>
      (0 ≤ i ∧ i < ((x24_l : Nat) : Int)) ∧
      Sts [.int .i64 (IntKind.i64.wrap (x28 + (1 : Int)))] ((Addr.add a_5 (i.toNat * 3)).add 1) 0 w fun w1 =>
      sB1 w0 i w1) (
      sB1 w0 i w)) (
    R  w)) = kstep Tryz.prog 32 Tryz.f83.results.toList (Tryz.f83.body.getD .skip) (wirem_Wire_Tick.RV R) (kvc Tryz.prog 32 Tryz.f83.results.toList (Tryz.f83.body.getD .skip) (wirem_Wire_Tick.RV R) [([(0, [1, 0, 0, 1, 1]), (2, [1, 0, 0]), (1, [0])], fun σ w => dP (slotOf σ 0) fun w0_ => dI .i64 (slotOf σ 2) fun i_ => sB1 w0_ i_ w)] 2000) [(0, [1, 0, 0]), (2, [1, 0, 0]), (1, [0])] [(0, .pointer w0), (2, .int .i64 i)] w := by kernel_rfl
theorem wirem_Wire_Tick.L1b_sound {R : World → Prop} {N1 : Option Addr → Int → World → Prop} (hN1 : ∀ w0 i w, N1 w0 i w → KW Tryz.prog 83 32 (wirem_Wire_Tick.RV R) ([(0, [1, 0, 0]), (2, [1, 0, 0]), (1, [0])].map (toItem (Tryz.f83.body.getD .skip))) [(0, .pointer w0), (2, .int .i64 i)] w) (w0 : Option Addr) (i : Int) (w : World) (h : wirem_Wire_Tick.L1b w0 i w  N1 R) :
    KW Tryz.prog 83 32 (wirem_Wire_Tick.RV R) ([(0, [1, 0, 0]), (2, [1, 0, 0]), (1, [0])].map (toItem (Tryz.f83.body.getD .skip))) [(0, .pointer w0), (2, .int .i64 i)] w := by
  exact block_spec Tryz.func83 Tryz.mixed (stops_cons (fun σ w h => by
      obtain ⟨w0_, e0, h⟩ := dP_elim h
      obtain ⟨i_, e1, h⟩ := dI_elim h
      exact (wirem_Wire_Tick.B1_sound hN1 w0_ i_ w h).weaken (Sub.cons (Sub.cons (Sub.nil _) e1) e0)) stops_nil) (Eq.mp (wirem_Wire_Tick.L1b_eq w0 i w  N1 R (fun w0_ i_ w => wirem_Wire_Tick.B1 w0_ i_ w N1 R)) h)
def wirem_Wire_Tick.L1 (w0 : Option Addr) (i : Int) (w : World)  (R : World → Prop) : Prop :=
  ∃ (I : Nat → Option Addr → Int → World → Prop) (m : Nat), I m w0 i w ∧ ∀ m w0 i w, I m w0 i w → wirem_Wire_Tick.L1b w0 i w  (fun w0' i' w' => ∃ m', m' < m ∧ I m' w0' i' w') R
theorem wirem_Wire_Tick.L1_sound {R : World → Prop}  (w0 : Option Addr) (i : Int) (w : World) (h : wirem_Wire_Tick.L1 w0 i w  R) :
    KW Tryz.prog 83 32 (wirem_Wire_Tick.RV R) ([(0, [1, 0, 0]), (2, [1, 0, 0]), (1, [0])].map (toItem (Tryz.f83.body.getD .skip))) [(0, .pointer w0), (2, .int .i64 i)] w := by
  obtain ⟨I, m, hBase, hr⟩ := h
  refine KW.loop (fun m σ w => ∃ (w0 : Option Addr) (i : Int), σ = [(0, .pointer w0), (2, .int .i64 i)] ∧ I m w0 i w) ?_ m _ w ⟨w0, i, rfl, hBase⟩
  rintro m ih σ w ⟨w0, i, rfl, hI⟩
  exact wirem_Wire_Tick.L1b_sound  (N1 := fun w0' i' w' => ∃ m', m' < m ∧ I m' w0' i' w') (fun w0' i' w' hx => by obtain ⟨m', hlt, hI'⟩ := hx; exact ih m' hlt _ w' ⟨w0', i', rfl, hI'⟩) w0 i w (hr m w0 i w hI)
def wirem_Wire_Tick.B0 (w0 : Option Addr) (w : World)   (R : World → Prop) : Prop :=
  wirem_Wire_Tick.L1 w0 (0 : Int) w  R
theorem wirem_Wire_Tick.B0_eq (w0 : Option Addr) (w : World)   (R : World → Prop) (sL1 : Option Addr → Int → World → Prop) :
    (
  sL1 w0 (0 : Int) w) = kstep Tryz.prog 32 Tryz.f83.results.toList (Tryz.f83.body.getD .skip) (wirem_Wire_Tick.RV R) (kvc Tryz.prog 32 Tryz.f83.results.toList (Tryz.f83.body.getD .skip) (wirem_Wire_Tick.RV R) [([(0, [1, 0, 0]), (2, [1, 0, 0]), (1, [0])], fun σ w => dP (slotOf σ 0) fun w0_ => dI .i64 (slotOf σ 2) fun i_ => sL1 w0_ i_ w)] 2000) [(0, [])] [(0, .pointer w0)] w := by kernel_rfl
theorem wirem_Wire_Tick.B0_sound {R : World → Prop}  (w0 : Option Addr) (w : World) (h : wirem_Wire_Tick.B0 w0 w   R) :
    KW Tryz.prog 83 32 (wirem_Wire_Tick.RV R) ([(0, [])].map (toItem (Tryz.f83.body.getD .skip))) [(0, .pointer w0)] w := by
  exact block_spec Tryz.func83 Tryz.mixed (stops_cons (fun σ w h => by
      obtain ⟨w0_, e0, h⟩ := dP_elim h
      obtain ⟨i_, e1, h⟩ := dI_elim h
      exact (wirem_Wire_Tick.L1_sound  w0_ i_ w h).weaken (Sub.cons (Sub.cons (Sub.nil _) e1) e0)) stops_nil) (Eq.mp (wirem_Wire_Tick.B0_eq w0 w   R (fun w0_ i_ w => wirem_Wire_Tick.L1 w0_ i_ w  R)) h)
theorem wirem_Wire_Tick.sound (w0 : Option Addr) (w : World) (R : World → Prop) (h : wirem_Wire_Tick.B0 w0 w R) : wirem_Wire_Tick.Call w0 w R := by
  have hc := calls_of_block (args := #[.pointer w0]) Tryz.func83 (body := (Tryz.f83.body.getD .skip)) (by kernel_rfl) (by kernel_rfl) (args_slot _) (wirem_Wire_Tick.B0_sound w0 w h)
  exact hc.mono fun e w' he => by
    obtain ⟨v, rfl, hv⟩ := he
    exact wirem_Wire_Tick.RV_elim hv
def host_Host_Tick.B3 (h0 out_b : Option Addr) (out_l out_c : Nat) (list_b : Option Addr) (list_l list_c : Nat) (i : Int) (w : World) (N1 : Option Addr → Option Addr → Nat → Nat → Option Addr → Nat → Nat → Int → World → Prop)  (R : Option Addr → Nat → Nat → World → Prop) : Prop :=
  N1 h0 out_b out_l out_c list_b list_l list_c (IntKind.i64.wrap (i + (1 : Int))) w
theorem host_Host_Tick.B3_eq (h0 out_b : Option Addr) (out_l out_c : Nat) (list_b : Option Addr) (list_l list_c : Nat) (i : Int) (w : World) (N1 : Option Addr → Option Addr → Nat → Nat → Option Addr → Nat → Nat → Int → World → Prop)  (R : Option Addr → Nat → Nat → World → Prop)  :
    (
  N1 h0 out_b out_l out_c list_b list_l list_c (IntKind.i64.wrap (i + (1 : Int))) w) = kstep Tryz.prog 87 Tryz.f84.results.toList (Tryz.f84.body.getD .skip) (host_Host_Tick.RV R) (kvc Tryz.prog 87 Tryz.f84.results.toList (Tryz.f84.body.getD .skip) (host_Host_Tick.RV R) [([(0, [1, 1, 1, 1, 1, 0, 1, 0, 0]), (2, [1, 1, 1, 1, 1, 0, 1, 0, 0]), (1, [0]), (0, [1, 1, 1, 1, 1, 1])], fun σ w => dP (slotOf σ 0) fun h0_ => dL (slotOf σ 3) fun out_b_ out_l_ out_c_ => dL (slotOf σ 4) fun list_b_ list_l_ list_c_ => dI .i64 (slotOf σ 5) fun i_ => N1 h0_ out_b_ out_l_ out_c_ list_b_ list_l_ list_c_ i_ w)] 2000) [(0, [1, 1, 1, 1, 1, 0, 1, 0, 0, 1, 1]), (2, [1, 1, 1, 1, 1, 0, 1, 0, 0]), (1, [0]), (0, [1, 1, 1, 1, 1, 1])] [(0, .pointer h0), (3, .slice out_b out_l out_c), (4, .slice list_b list_l list_c), (5, .int .i64 i)] w := by kernel_rfl
theorem host_Host_Tick.B3_sound {R : Option Addr → Nat → Nat → World → Prop} {N1 : Option Addr → Option Addr → Nat → Nat → Option Addr → Nat → Nat → Int → World → Prop} (hN1 : ∀ h0 out_b out_l out_c list_b list_l list_c i w, N1 h0 out_b out_l out_c list_b list_l list_c i w → KW Tryz.prog 84 87 (host_Host_Tick.RV R) ([(0, [1, 1, 1, 1, 1, 0, 1, 0, 0]), (2, [1, 1, 1, 1, 1, 0, 1, 0, 0]), (1, [0]), (0, [1, 1, 1, 1, 1, 1])].map (toItem (Tryz.f84.body.getD .skip))) [(0, .pointer h0), (3, .slice out_b out_l out_c), (4, .slice list_b list_l list_c), (5, .int .i64 i)] w) (h0 out_b : Option Addr) (out_l out_c : Nat) (list_b : Option Addr) (list_l list_c : Nat) (i : Int) (w : World) (h : host_Host_Tick.B3 h0 out_b out_l out_c list_b list_l list_c i w N1  R) :
    KW Tryz.prog 84 87 (host_Host_Tick.RV R) ([(0, [1, 1, 1, 1, 1, 0, 1, 0, 0, 1, 1]), (2, [1, 1, 1, 1, 1, 0, 1, 0, 0]), (1, [0]), (0, [1, 1, 1, 1, 1, 1])].map (toItem (Tryz.f84.body.getD .skip))) [(0, .pointer h0), (3, .slice out_b out_l out_c), (4, .slice list_b list_l list_c), (5, .int .i64 i)] w := by
  exact block_spec Tryz.func84 Tryz.mixed (stops_cons (fun σ w h => by
      obtain ⟨h0_, e0, h⟩ := dP_elim h
      obtain ⟨out_b_, out_l_, out_c_, e1, h⟩ := dL_elim h
      obtain ⟨list_b_, list_l_, list_c_, e2, h⟩ := dL_elim h
      obtain ⟨i_, e3, h⟩ := dI_elim h
      exact (hN1 h0_ out_b_ out_l_ out_c_ list_b_ list_l_ list_c_ i_ w h).weaken (Sub.cons (Sub.cons (Sub.cons (Sub.cons (Sub.nil _) e3) e2) e1) e0)) stops_nil) (Eq.mp (host_Host_Tick.B3_eq h0 out_b out_l out_c list_b list_l list_c i w N1  R ) h)
def host_Host_Tick.B2 (h0 out_b : Option Addr) (out_l out_c : Nat) (list_b : Option Addr) (list_l list_c : Nat) (i : Int) (en : Nat) (t51 : Bool) (w : World) (N1 : Option Addr → Option Addr → Nat → Nat → Option Addr → Nat → Nat → Int → World → Prop)  (R : Option Addr → Nat → Nat → World → Prop) : Prop :=
  Bm t51 (
    host_Host_Tick.B3 h0 out_b out_l out_c list_b list_l list_c i w N1 R) (
    LdI .i64 ⟨en, 5, none⟩ w.drew fun x54 =>
    Pn h0 fun a =>
    (0 ≤ x54 ∧ x54 < ((4 : Nat) : Int)) ∧
    LdP (Addr.add (a.add 13) (x54.toNat * 1)) w.drew fun x58 =>
    conn_Conn_Tick.Call x58 w.drew fun r59_b r59_l r59_c w1 =>
    LdI .i64 ⟨en, 0, none⟩ w1 fun x62_0 =>
    LdI .i64 ⟨en, 1, none⟩ w1 fun x62_1 =>
    LdI .i64 ⟨en, 2, none⟩ w1 fun x62_2 =>
    LdI .i64 ⟨en, 3, none⟩ w1 fun x62_3 =>
    LdI .i64 ⟨en, 4, none⟩ w1 fun x62_4 =>
    LdI .i64 ⟨en, 5, none⟩ w1 fun x62_5 =>
    LdI .i64 ⟨en, 6, none⟩ w1 fun x62_6 =>
    LdB ⟨en, 7, none⟩ w1 fun x62_7 =>
    host_Host_emit.Call h0 out_b out_l out_c x62_0 x62_1 x62_2 x62_3 x62_4 x62_5 x62_6 x62_7 r59_b r59_l r59_c w1 fun r64_b r64_l r64_c w2 =>
    LdI .i64 ⟨en, 5, none⟩ w2.drew fun x67 =>
    Pn h0 fun a_1 =>
    (0 ≤ x67 ∧ x67 < ((4 : Nat) : Int)) ∧
    LdP (Addr.add (a_1.add 13) (x67.toNat * 1)) w2.drew fun x71 =>
    conn_Conn_Info.Call x71 w2.drew fun r72 w3 =>
    Pn r72 fun a_2 =>
    LdI .i64 a_2 w3 fun x75 =>
    Bm (x75 == (0 : Int)) (
      Pn h0 fun a_3 =>
      LdP (a_3.add 17) w3.drew fun x80 =>
      Pn list_b fun a_4 =>
      (0 ≤ i ∧ i < ((list_l : Nat) : Int)) ∧
      LdI .i64 (Addr.add a_4 (i.toNat * 1)) w3.drew fun x84 =>
      sock_Table_Free.Call x80 x84 w3.drew fun r85 w4 =>
      host_Host_Tick.B3 h0 r64_b r64_l r64_c list_b list_l list_c i w4 N1 R) (
      host_Host_Tick.B3 h0 r64_b r64_l r64_c list_b list_l list_c i w3 N1 R))
theorem host_Host_Tick.B2_eq (h0 out_b : Option Addr) (out_l out_c : Nat) (list_b : Option Addr) (list_l list_c : Nat) (i : Int) (en : Nat) (t51 : Bool) (w : World) (N1 : Option Addr → Option Addr → Nat → Nat → Option Addr → Nat → Nat → Int → World → Prop)  (R : Option Addr → Nat → Nat → World → Prop) (sB3 : Option Addr → Option Addr → Nat → Nat → Option Addr → Nat → Nat → Int → World → Prop) :
    (
  Bm t51 (
    sB3 h0 out_b out_l out_c list_b list_l list_c i w) (
    LdI .i64 ⟨en, 5, none⟩ w.drew fun x54 =>
    Pn h0 fun a =>
    (0 ≤ x54 ∧ x54 < ((4 : Nat) : Int)) ∧
    LdP (Addr.add (a.add 13) (x54.toNat * 1)) w.drew fun x58 =>
    conn_Conn_Tick.Call x58 w.drew fun r59_b r59_l r59_c w1 =>
    LdI .i64 ⟨en, 0, none⟩ w1 fun x62_0 =>
    LdI .i64 ⟨en, 1, none⟩ w1 fun x62_1 =>
    LdI .i64 ⟨en, 2, none⟩ w1 fun x62_2 =>
    LdI .i64 ⟨en, 3, none⟩ w1 fun x62_3 =>
    LdI .i64 ⟨en, 4, none⟩ w1 fun x62_4 =>
    LdI .i64 ⟨en, 5, none⟩ w1 fun x62_5 =>
    LdI .i64 ⟨en, 6, none⟩ w1 fun x62_6 =>
    LdB ⟨en, 7, none⟩ w1 fun x62_7 =>
    host_Host_emit.Call h0 out_b out_l out_c x62_0 x62_1 x62_2 x62_3 x62_4 x62_5 x62_6 x62_7 r59_b r59_l r59_c w1 fun r64_b r64_l r64_c w2 =>
    LdI .i64 ⟨en, 5, none⟩ w2.drew fun x67 =>
    Pn h0 fun a_1 =>
    (0 ≤ x67 ∧ x67 < ((4 : Nat) : Int)) ∧
    LdP (Addr.add (a_1.add 13) (x67.toNat * 1)) w2.drew fun x71 =>
    conn_Conn_Info.Call x71 w2.drew fun r72 w3 =>
    Pn r72 fun a_2 =>
    LdI .i64 a_2 w3 fun x75 =>
    Bm (x75 == (0 : Int)) (
      Pn h0 fun a_3 =>
      LdP (a_3.add 17) w3.drew fun x80 =>
      Pn list_b fun a_4 =>
      (0 ≤ i ∧ i < ((list_l : Nat) : Int)) ∧
      LdI .i64 (Addr.add a_4 (i.toNat * 1)) w3.drew fun x84 =>
      sock_Table_Free.Call x80 x84 w3.drew fun r85 w4 =>
      sB3 h0 r64_b r64_l r64_c list_b list_l list_c i w4) (
      sB3 h0 r64_b r64_l r64_c list_b list_l list_c i w3))) = kstep Tryz.prog 87 Tryz.f84.results.toList (Tryz.f84.body.getD .skip) (host_Host_Tick.RV R) (kvc Tryz.prog 87 Tryz.f84.results.toList (Tryz.f84.body.getD .skip) (host_Host_Tick.RV R) [([(0, [1, 1, 1, 1, 1, 0, 1, 0, 0, 1, 1]), (2, [1, 1, 1, 1, 1, 0, 1, 0, 0]), (1, [0]), (0, [1, 1, 1, 1, 1, 1])], fun σ w => dP (slotOf σ 0) fun h0_ => dL (slotOf σ 3) fun out_b_ out_l_ out_c_ => dL (slotOf σ 4) fun list_b_ list_l_ list_c_ => dI .i64 (slotOf σ 5) fun i_ => sB3 h0_ out_b_ out_l_ out_c_ list_b_ list_l_ list_c_ i_ w)] 2000) [(0, [1, 1, 1, 1, 1, 0, 1, 0, 0, 1, 0, 0, 1, 0, 1]), (0, [1, 1, 1, 1, 1, 0, 1, 0, 0, 1, 0, 0, 1, 1]), (1, [1]), (0, [1, 1, 1, 1, 1, 0, 1, 0, 0, 1, 1]), (2, [1, 1, 1, 1, 1, 0, 1, 0, 0]), (1, [0]), (0, [1, 1, 1, 1, 1, 1])] [(0, .pointer h0), (3, .slice out_b out_l out_c), (4, .slice list_b list_l list_c), (5, .int .i64 i), (6, .pointer (some ⟨en, 0, none⟩)), (51, .bool t51)] w := by kernel_rfl
theorem host_Host_Tick.B2_sound {R : Option Addr → Nat → Nat → World → Prop} {N1 : Option Addr → Option Addr → Nat → Nat → Option Addr → Nat → Nat → Int → World → Prop} (hN1 : ∀ h0 out_b out_l out_c list_b list_l list_c i w, N1 h0 out_b out_l out_c list_b list_l list_c i w → KW Tryz.prog 84 87 (host_Host_Tick.RV R) ([(0, [1, 1, 1, 1, 1, 0, 1, 0, 0]), (2, [1, 1, 1, 1, 1, 0, 1, 0, 0]), (1, [0]), (0, [1, 1, 1, 1, 1, 1])].map (toItem (Tryz.f84.body.getD .skip))) [(0, .pointer h0), (3, .slice out_b out_l out_c), (4, .slice list_b list_l list_c), (5, .int .i64 i)] w) (h0 out_b : Option Addr) (out_l out_c : Nat) (list_b : Option Addr) (list_l list_c : Nat) (i : Int) (en : Nat) (t51 : Bool) (w : World) (h : host_Host_Tick.B2 h0 out_b out_l out_c list_b list_l list_c i en t51 w N1  R) :
    KW Tryz.prog 84 87 (host_Host_Tick.RV R) ([(0, [1, 1, 1, 1, 1, 0, 1, 0, 0, 1, 0, 0, 1, 0, 1]), (0, [1, 1, 1, 1, 1, 0, 1, 0, 0, 1, 0, 0, 1, 1]), (1, [1]), (0, [1, 1, 1, 1, 1, 0, 1, 0, 0, 1, 1]), (2, [1, 1, 1, 1, 1, 0, 1, 0, 0]), (1, [0]), (0, [1, 1, 1, 1, 1, 1])].map (toItem (Tryz.f84.body.getD .skip))) [(0, .pointer h0), (3, .slice out_b out_l out_c), (4, .slice list_b list_l list_c), (5, .int .i64 i), (6, .pointer (some ⟨en, 0, none⟩)), (51, .bool t51)] w := by
  exact block_spec Tryz.func84 Tryz.mixed (stops_cons (fun σ w h => by
      obtain ⟨h0_, e0, h⟩ := dP_elim h
      obtain ⟨out_b_, out_l_, out_c_, e1, h⟩ := dL_elim h
      obtain ⟨list_b_, list_l_, list_c_, e2, h⟩ := dL_elim h
      obtain ⟨i_, e3, h⟩ := dI_elim h
      exact (host_Host_Tick.B3_sound hN1 h0_ out_b_ out_l_ out_c_ list_b_ list_l_ list_c_ i_ w h).weaken (Sub.cons (Sub.cons (Sub.cons (Sub.cons (Sub.nil _) e3) e2) e1) e0)) stops_nil) (Eq.mp (host_Host_Tick.B2_eq h0 out_b out_l out_c list_b list_l list_c i en t51 w N1  R (fun h0_ out_b_ out_l_ out_c_ list_b_ list_l_ list_c_ i_ w => host_Host_Tick.B3 h0_ out_b_ out_l_ out_c_ list_b_ list_l_ list_c_ i_ w N1 R)) h)
def host_Host_Tick.B1 (h0 out_b : Option Addr) (out_l out_c : Nat) (list_b : Option Addr) (list_l list_c : Nat) (i : Int) (en : Nat) (e : Int) (w : World) (N1 : Option Addr → Option Addr → Nat → Nat → Option Addr → Nat → Nat → Int → World → Prop)  (R : Option Addr → Nat → Nat → World → Prop) : Prop :=
  Bm (e != (0 : Int)) (
    host_Host_Tick.B2 h0 out_b out_l out_c list_b list_l list_c i en true w N1 R) (
    LdI .i64 ⟨en, 1, none⟩ w fun x49 =>
    host_Host_Tick.B2 h0 out_b out_l out_c list_b list_l list_c i en (x49 != (2 : Int)) w N1 R)
theorem host_Host_Tick.B1_eq (h0 out_b : Option Addr) (out_l out_c : Nat) (list_b : Option Addr) (list_l list_c : Nat) (i : Int) (en : Nat) (e : Int) (w : World) (N1 : Option Addr → Option Addr → Nat → Nat → Option Addr → Nat → Nat → Int → World → Prop)  (R : Option Addr → Nat → Nat → World → Prop) (sB2 : Option Addr → Option Addr → Nat → Nat → Option Addr → Nat → Nat → Int → Nat → Bool → World → Prop) :
    (
  Bm (e != (0 : Int)) (
    sB2 h0 out_b out_l out_c list_b list_l list_c i en true w) (
    LdI .i64 ⟨en, 1, none⟩ w fun x49 =>
    sB2 h0 out_b out_l out_c list_b list_l list_c i en (x49 != (2 : Int)) w)) = kstep Tryz.prog 87 Tryz.f84.results.toList (Tryz.f84.body.getD .skip) (host_Host_Tick.RV R) (kvc Tryz.prog 87 Tryz.f84.results.toList (Tryz.f84.body.getD .skip) (host_Host_Tick.RV R) [([(0, [1, 1, 1, 1, 1, 0, 1, 0, 0, 1, 0, 0, 1, 0, 1]), (0, [1, 1, 1, 1, 1, 0, 1, 0, 0, 1, 0, 0, 1, 1]), (1, [1]), (0, [1, 1, 1, 1, 1, 0, 1, 0, 0, 1, 1]), (2, [1, 1, 1, 1, 1, 0, 1, 0, 0]), (1, [0]), (0, [1, 1, 1, 1, 1, 1])], fun σ w => dP (slotOf σ 0) fun h0_ => dL (slotOf σ 3) fun out_b_ out_l_ out_c_ => dL (slotOf σ 4) fun list_b_ list_l_ list_c_ => dI .i64 (slotOf σ 5) fun i_ => dK (slotOf σ 6) fun en_ => dB (slotOf σ 51) fun t51_ => sB2 h0_ out_b_ out_l_ out_c_ list_b_ list_l_ list_c_ i_ en_ t51_ w)] 2000) [(0, [1, 1, 1, 1, 1, 0, 1, 0, 0, 1, 0, 0, 1]), (1, [1]), (0, [1, 1, 1, 1, 1, 0, 1, 0, 0, 1, 1]), (2, [1, 1, 1, 1, 1, 0, 1, 0, 0]), (1, [0]), (0, [1, 1, 1, 1, 1, 1])] [(0, .pointer h0), (3, .slice out_b out_l out_c), (4, .slice list_b list_l list_c), (5, .int .i64 i), (6, .pointer (some ⟨en, 0, none⟩)), (7, .int .i64 e)] w := by kernel_rfl
theorem host_Host_Tick.B1_sound {R : Option Addr → Nat → Nat → World → Prop} {N1 : Option Addr → Option Addr → Nat → Nat → Option Addr → Nat → Nat → Int → World → Prop} (hN1 : ∀ h0 out_b out_l out_c list_b list_l list_c i w, N1 h0 out_b out_l out_c list_b list_l list_c i w → KW Tryz.prog 84 87 (host_Host_Tick.RV R) ([(0, [1, 1, 1, 1, 1, 0, 1, 0, 0]), (2, [1, 1, 1, 1, 1, 0, 1, 0, 0]), (1, [0]), (0, [1, 1, 1, 1, 1, 1])].map (toItem (Tryz.f84.body.getD .skip))) [(0, .pointer h0), (3, .slice out_b out_l out_c), (4, .slice list_b list_l list_c), (5, .int .i64 i)] w) (h0 out_b : Option Addr) (out_l out_c : Nat) (list_b : Option Addr) (list_l list_c : Nat) (i : Int) (en : Nat) (e : Int) (w : World) (h : host_Host_Tick.B1 h0 out_b out_l out_c list_b list_l list_c i en e w N1  R) :
    KW Tryz.prog 84 87 (host_Host_Tick.RV R) ([(0, [1, 1, 1, 1, 1, 0, 1, 0, 0, 1, 0, 0, 1]), (1, [1]), (0, [1, 1, 1, 1, 1, 0, 1, 0, 0, 1, 1]), (2, [1, 1, 1, 1, 1, 0, 1, 0, 0]), (1, [0]), (0, [1, 1, 1, 1, 1, 1])].map (toItem (Tryz.f84.body.getD .skip))) [(0, .pointer h0), (3, .slice out_b out_l out_c), (4, .slice list_b list_l list_c), (5, .int .i64 i), (6, .pointer (some ⟨en, 0, none⟩)), (7, .int .i64 e)] w := by
  exact block_spec Tryz.func84 Tryz.mixed (stops_cons (fun σ w h => by
      obtain ⟨h0_, e0, h⟩ := dP_elim h
      obtain ⟨out_b_, out_l_, out_c_, e1, h⟩ := dL_elim h
      obtain ⟨list_b_, list_l_, list_c_, e2, h⟩ := dL_elim h
      obtain ⟨i_, e3, h⟩ := dI_elim h
      obtain ⟨en_, e4, h⟩ := dK_elim h
      obtain ⟨t51_, e5, h⟩ := dB_elim h
      exact (host_Host_Tick.B2_sound hN1 h0_ out_b_ out_l_ out_c_ list_b_ list_l_ list_c_ i_ en_ t51_ w h).weaken (Sub.cons (Sub.cons (Sub.cons (Sub.cons (Sub.cons (Sub.cons (Sub.nil _) e5) e4) e3) e2) e1) e0)) stops_nil) (Eq.mp (host_Host_Tick.B1_eq h0 out_b out_l out_c list_b list_l list_c i en e w N1  R (fun h0_ out_b_ out_l_ out_c_ list_b_ list_l_ list_c_ i_ en_ t51_ w => host_Host_Tick.B2 h0_ out_b_ out_l_ out_c_ list_b_ list_l_ list_c_ i_ en_ t51_ w N1 R)) h)
def host_Host_Tick.L1b (h0 out_b : Option Addr) (out_l out_c : Nat) (list_b : Option Addr) (list_l list_c : Nat) (i : Int) (w : World)  (N1 : Option Addr → Option Addr → Nat → Nat → Option Addr → Nat → Nat → Int → World → Prop) (R : Option Addr → Nat → Nat → World → Prop) : Prop :=
  Bm (decide (i < ((list_l : Nat) : Int))) (
    Pn h0 fun a =>
    LdP (a.add 17) w.drew fun x37 =>
    Pn list_b fun a_1 =>
    (0 ≤ i ∧ i < ((list_l : Nat) : Int)) ∧
    LdI .i64 (Addr.add a_1 (i.toNat * 1)) w.drew fun x41 =>
    ((
      sock_Table_Get.Call x37 x41 w.drew fun r42_0_0 r42_0_1 r42_0_2 r42_0_3 r42_0_4 r42_0_5 r42_0_6 r42_0_7 r42_1 w1 =>
      New (.cells #[.int .i64 (0 : Int), .int .i64 (0 : Int), .int .i64 (0 : Int), .int .i64 (0 : Int), .int .i64 (0 : Int), .int .i64 (0 : Int), .int .i64 (0 : Int), .bool false] 66) w1 fun en_ w2 =>
      Sts [.int .i64 r42_0_0, .int .i64 r42_0_1, .int .i64 r42_0_2, .int .i64 r42_0_3, .int .i64 r42_0_4, .int .i64 r42_0_5, .int .i64 r42_0_6, .bool r42_0_7] ⟨en_, 0, none⟩ 0 w2 fun w3 =>
      host_Host_Tick.B1 h0 out_b out_l out_c list_b list_l list_c i en_ r42_1 w3 N1 R) ∧ (
      New (.cells #[.int .i64 (0 : Int), .int .i64 (0 : Int), .int .i64 (0 : Int), .int .i64 (0 : Int), .int .i64 (0 : Int), .int .i64 (0 : Int), .int .i64 (0 : Int), .bool false] 66) w.drew fun en__1 w4 =>
      w4.cell? (Addr.add a_1 (i.toNat * 1)) = some (.int .i64 x41) ∧
      w4.cell? (a.add 17) = some (.pointer x37) ∧
      sock_Table_Get.Call x37 x41 w4 fun r42_0_0_1 r42_0_1_1 r42_0_2_1 r42_0_3_1 r42_0_4_1 r42_0_5_1 r42_0_6_1 r42_0_7_1 r42_1_1 w5 =>
      Sts [.int .i64 r42_0_0_1, .int .i64 r42_0_1_1, .int .i64 r42_0_2_1, .int .i64 r42_0_3_1, .int .i64 r42_0_4_1, .int .i64 r42_0_5_1, .int .i64 r42_0_6_1, .bool r42_0_7_1] ⟨en__1, 0, none⟩ 0 w5 fun w6 =>
      host_Host_Tick.B1 h0 out_b out_l out_c list_b list_l list_c i en__1 r42_1_1 w6 N1 R))) (
    R out_b out_l out_c w)
theorem host_Host_Tick.L1b_eq (h0 out_b : Option Addr) (out_l out_c : Nat) (list_b : Option Addr) (list_l list_c : Nat) (i : Int) (w : World)  (N1 : Option Addr → Option Addr → Nat → Nat → Option Addr → Nat → Nat → Int → World → Prop) (R : Option Addr → Nat → Nat → World → Prop) (sB1 : Option Addr → Option Addr → Nat → Nat → Option Addr → Nat → Nat → Int → Nat → Int → World → Prop) :
    (
  Bm (decide (i < ((list_l : Nat) : Int))) (
    Pn h0 fun a =>
    LdP (a.add 17) w.drew fun x37 =>
    Pn list_b fun a_1 =>
    (0 ≤ i ∧ i < ((list_l : Nat) : Int)) ∧
    LdI .i64 (Addr.add a_1 (i.toNat * 1)) w.drew fun x41 =>
    ((
      sock_Table_Get.Call x37 x41 w.drew fun r42_0_0 r42_0_1 r42_0_2 r42_0_3 r42_0_4 r42_0_5 r42_0_6 r42_0_7 r42_1 w1 =>
      New (.cells #[.int .i64 (0 : Int), .int .i64 (0 : Int), .int .i64 (0 : Int), .int .i64 (0 : Int), .int .i64 (0 : Int), .int .i64 (0 : Int), .int .i64 (0 : Int), .bool false] 66) w1 fun en_ w2 =>
      Sts [.int .i64 r42_0_0, .int .i64 r42_0_1, .int .i64 r42_0_2, .int .i64 r42_0_3, .int .i64 r42_0_4, .int .i64 r42_0_5, .int .i64 r42_0_6, .bool r42_0_7] ⟨en_, 0, none⟩ 0 w2 fun w3 =>
      sB1 h0 out_b out_l out_c list_b list_l list_c i en_ r42_1 w3) ∧ (
      New (.cells #[.int .i64 (0 : Int), .int .i64 (0 : Int), .int .i64 (0 : Int), .int .i64 (0 : Int), .int .i64 (0 : Int), .int .i64 (0 : Int), .int .i64 (0 : Int), .bool false] 66) w.drew fun en__1 w4 =>
      w4.cell? (Addr.add a_1 (i.toNat * 1)) = some (.int .i64 x41) ∧
      w4.cell? (a.add 17) = some (.pointer x37) ∧
      sock_Table_Get.Call x37 x41 w4 fun r42_0_0_1 r42_0_1_1 r42_0_2_1 r42_0_3_1 r42_0_4_1 r42_0_5_1 r42_0_6_1 r42_0_7_1 r42_1_1 w5 =>
      Sts [.int .i64 r42_0_0_1, .int .i64 r42_0_1_1, .int .i64 r42_0_2_1, .int .i64 r42_0_3_1, .int .i64 r42_0_4_1, .int .i64 r42_0_5_1, .int .i64 r42_0_6_1, .bool r42_0_7_1] ⟨en__1, 0, none⟩ 0 w5 fun w6 =>
      sB1 h0 out_b out_l out_c list_b list_l list_c i en__1 r42_1_1 w6))) (
    R out_b out_l out_c w)) = kstep Tryz.prog 87 Tryz.f84.results.toList (Tryz.f84.body.getD .skip) (host_Host_Tick.RV R) (kvc Tryz.prog 87 Tryz.f84.results.toList (Tryz.f84.body.getD .skip) (host_Host_Tick.RV R) [([(0, [1, 1, 1, 1, 1, 0, 1, 0, 0, 1, 0, 0, 1]), (1, [1]), (0, [1, 1, 1, 1, 1, 0, 1, 0, 0, 1, 1]), (2, [1, 1, 1, 1, 1, 0, 1, 0, 0]), (1, [0]), (0, [1, 1, 1, 1, 1, 1])], fun σ w => dP (slotOf σ 0) fun h0_ => dL (slotOf σ 3) fun out_b_ out_l_ out_c_ => dL (slotOf σ 4) fun list_b_ list_l_ list_c_ => dI .i64 (slotOf σ 5) fun i_ => dK (slotOf σ 6) fun en_ => dI .i64 (slotOf σ 7) fun e_ => sB1 h0_ out_b_ out_l_ out_c_ list_b_ list_l_ list_c_ i_ en_ e_ w)] 2000) [(0, [1, 1, 1, 1, 1, 0, 1, 0, 0]), (2, [1, 1, 1, 1, 1, 0, 1, 0, 0]), (1, [0]), (0, [1, 1, 1, 1, 1, 1])] [(0, .pointer h0), (3, .slice out_b out_l out_c), (4, .slice list_b list_l list_c), (5, .int .i64 i)] w := by kernel_rfl
theorem host_Host_Tick.L1b_sound {R : Option Addr → Nat → Nat → World → Prop} {N1 : Option Addr → Option Addr → Nat → Nat → Option Addr → Nat → Nat → Int → World → Prop} (hN1 : ∀ h0 out_b out_l out_c list_b list_l list_c i w, N1 h0 out_b out_l out_c list_b list_l list_c i w → KW Tryz.prog 84 87 (host_Host_Tick.RV R) ([(0, [1, 1, 1, 1, 1, 0, 1, 0, 0]), (2, [1, 1, 1, 1, 1, 0, 1, 0, 0]), (1, [0]), (0, [1, 1, 1, 1, 1, 1])].map (toItem (Tryz.f84.body.getD .skip))) [(0, .pointer h0), (3, .slice out_b out_l out_c), (4, .slice list_b list_l list_c), (5, .int .i64 i)] w) (h0 out_b : Option Addr) (out_l out_c : Nat) (list_b : Option Addr) (list_l list_c : Nat) (i : Int) (w : World) (h : host_Host_Tick.L1b h0 out_b out_l out_c list_b list_l list_c i w  N1 R) :
    KW Tryz.prog 84 87 (host_Host_Tick.RV R) ([(0, [1, 1, 1, 1, 1, 0, 1, 0, 0]), (2, [1, 1, 1, 1, 1, 0, 1, 0, 0]), (1, [0]), (0, [1, 1, 1, 1, 1, 1])].map (toItem (Tryz.f84.body.getD .skip))) [(0, .pointer h0), (3, .slice out_b out_l out_c), (4, .slice list_b list_l list_c), (5, .int .i64 i)] w := by
  exact block_spec Tryz.func84 Tryz.mixed (stops_cons (fun σ w h => by
      obtain ⟨h0_, e0, h⟩ := dP_elim h
      obtain ⟨out_b_, out_l_, out_c_, e1, h⟩ := dL_elim h
      obtain ⟨list_b_, list_l_, list_c_, e2, h⟩ := dL_elim h
      obtain ⟨i_, e3, h⟩ := dI_elim h
      obtain ⟨en_, e4, h⟩ := dK_elim h
      obtain ⟨e_, e5, h⟩ := dI_elim h
      exact (host_Host_Tick.B1_sound hN1 h0_ out_b_ out_l_ out_c_ list_b_ list_l_ list_c_ i_ en_ e_ w h).weaken (Sub.cons (Sub.cons (Sub.cons (Sub.cons (Sub.cons (Sub.cons (Sub.nil _) e5) e4) e3) e2) e1) e0)) stops_nil) (Eq.mp (host_Host_Tick.L1b_eq h0 out_b out_l out_c list_b list_l list_c i w  N1 R (fun h0_ out_b_ out_l_ out_c_ list_b_ list_l_ list_c_ i_ en_ e_ w => host_Host_Tick.B1 h0_ out_b_ out_l_ out_c_ list_b_ list_l_ list_c_ i_ en_ e_ w N1 R)) h)
def host_Host_Tick.L1 (h0 out_b : Option Addr) (out_l out_c : Nat) (list_b : Option Addr) (list_l list_c : Nat) (i : Int) (w : World)  (R : Option Addr → Nat → Nat → World → Prop) : Prop :=
  ∃ (I : Nat → Option Addr → Option Addr → Nat → Nat → Option Addr → Nat → Nat → Int → World → Prop) (m : Nat), I m h0 out_b out_l out_c list_b list_l list_c i w ∧ ∀ m h0 out_b out_l out_c list_b list_l list_c i w, I m h0 out_b out_l out_c list_b list_l list_c i w → host_Host_Tick.L1b h0 out_b out_l out_c list_b list_l list_c i w  (fun h0' out_b' out_l' out_c' list_b' list_l' list_c' i' w' => ∃ m', m' < m ∧ I m' h0' out_b' out_l' out_c' list_b' list_l' list_c' i' w') R
theorem host_Host_Tick.L1_sound {R : Option Addr → Nat → Nat → World → Prop}  (h0 out_b : Option Addr) (out_l out_c : Nat) (list_b : Option Addr) (list_l list_c : Nat) (i : Int) (w : World) (h : host_Host_Tick.L1 h0 out_b out_l out_c list_b list_l list_c i w  R) :
    KW Tryz.prog 84 87 (host_Host_Tick.RV R) ([(0, [1, 1, 1, 1, 1, 0, 1, 0, 0]), (2, [1, 1, 1, 1, 1, 0, 1, 0, 0]), (1, [0]), (0, [1, 1, 1, 1, 1, 1])].map (toItem (Tryz.f84.body.getD .skip))) [(0, .pointer h0), (3, .slice out_b out_l out_c), (4, .slice list_b list_l list_c), (5, .int .i64 i)] w := by
  obtain ⟨I, m, hBase, hr⟩ := h
  refine KW.loop (fun m σ w => ∃ (h0 out_b : Option Addr) (out_l out_c : Nat) (list_b : Option Addr) (list_l list_c : Nat) (i : Int), σ = [(0, .pointer h0), (3, .slice out_b out_l out_c), (4, .slice list_b list_l list_c), (5, .int .i64 i)] ∧ I m h0 out_b out_l out_c list_b list_l list_c i w) ?_ m _ w ⟨h0, out_b, out_l, out_c, list_b, list_l, list_c, i, rfl, hBase⟩
  rintro m ih σ w ⟨h0, out_b, out_l, out_c, list_b, list_l, list_c, i, rfl, hI⟩
  exact host_Host_Tick.L1b_sound  (N1 := fun h0' out_b' out_l' out_c' list_b' list_l' list_c' i' w' => ∃ m', m' < m ∧ I m' h0' out_b' out_l' out_c' list_b' list_l' list_c' i' w') (fun h0' out_b' out_l' out_c' list_b' list_l' list_c' i' w' hx => by obtain ⟨m', hlt, hI'⟩ := hx; exact ih m' hlt _ w' ⟨h0', out_b', out_l', out_c', list_b', list_l', list_c', i', rfl, hI'⟩) h0 out_b out_l out_c list_b list_l list_c i w (hr m h0 out_b out_l out_c list_b list_l list_c i w hI)
def host_Host_Tick.B0 (h0 : Option Addr) (w : World)   (R : Option Addr → Nat → Nat → World → Prop) : Prop :=
  Pn h0 fun a =>
  LdI .i64 (a.add 1) w fun x12 =>
  Pn h0 fun a_1 =>
  Sts [.int .i64 (IntKind.i64.wrap (x12 + (1 : Int)))] (a_1.add 1) 0 w fun w1 =>
  Pn h0 fun a_2 =>
  LdP (a_2.add 12) w1 fun x19 =>
  ip_IP_Tick.Call x19 w1 fun w2 =>
  New (.cells #[] 81) w2 fun b21 w3 =>
  Pn h0 fun a_3 =>
  LdP (a_3.add 17) w3 fun x25 =>
  sock_Table_List.Call x25 w3 fun r26_b r26_l r26_c w4 =>
  host_Host_Tick.L1 h0 (some ⟨b21, 0, none⟩) 0 0 r26_b r26_l r26_c (0 : Int) w4  R
theorem host_Host_Tick.B0_eq (h0 : Option Addr) (w : World)   (R : Option Addr → Nat → Nat → World → Prop) (sL1 : Option Addr → Option Addr → Nat → Nat → Option Addr → Nat → Nat → Int → World → Prop) :
    (
  Pn h0 fun a =>
  LdI .i64 (a.add 1) w fun x12 =>
  Pn h0 fun a_1 =>
  Sts [.int .i64 (IntKind.i64.wrap (x12 + (1 : Int)))] (a_1.add 1) 0 w fun w1 =>
  Pn h0 fun a_2 =>
  LdP (a_2.add 12) w1 fun x19 =>
  ip_IP_Tick.Call x19 w1 fun w2 =>
  New (.cells #[] 81) w2 fun b21 w3 =>
  Pn h0 fun a_3 =>
  LdP (a_3.add 17) w3 fun x25 =>
  sock_Table_List.Call x25 w3 fun r26_b r26_l r26_c w4 =>
  sL1 h0 (some ⟨b21, 0, none⟩) 0 0 r26_b r26_l r26_c (0 : Int) w4) = kstep Tryz.prog 87 Tryz.f84.results.toList (Tryz.f84.body.getD .skip) (host_Host_Tick.RV R) (kvc Tryz.prog 87 Tryz.f84.results.toList (Tryz.f84.body.getD .skip) (host_Host_Tick.RV R) [([(0, [1, 1, 1, 1, 1, 0, 1, 0, 0]), (2, [1, 1, 1, 1, 1, 0, 1, 0, 0]), (1, [0]), (0, [1, 1, 1, 1, 1, 1])], fun σ w => dP (slotOf σ 0) fun h0_ => dL (slotOf σ 3) fun out_b_ out_l_ out_c_ => dL (slotOf σ 4) fun list_b_ list_l_ list_c_ => dI .i64 (slotOf σ 5) fun i_ => sL1 h0_ out_b_ out_l_ out_c_ list_b_ list_l_ list_c_ i_ w)] 2000) [(0, [])] [(0, .pointer h0)] w := by kernel_rfl
theorem host_Host_Tick.B0_sound {R : Option Addr → Nat → Nat → World → Prop}  (h0 : Option Addr) (w : World) (h : host_Host_Tick.B0 h0 w   R) :
    KW Tryz.prog 84 87 (host_Host_Tick.RV R) ([(0, [])].map (toItem (Tryz.f84.body.getD .skip))) [(0, .pointer h0)] w := by
  exact block_spec Tryz.func84 Tryz.mixed (stops_cons (fun σ w h => by
      obtain ⟨h0_, e0, h⟩ := dP_elim h
      obtain ⟨out_b_, out_l_, out_c_, e1, h⟩ := dL_elim h
      obtain ⟨list_b_, list_l_, list_c_, e2, h⟩ := dL_elim h
      obtain ⟨i_, e3, h⟩ := dI_elim h
      exact (host_Host_Tick.L1_sound  h0_ out_b_ out_l_ out_c_ list_b_ list_l_ list_c_ i_ w h).weaken (Sub.cons (Sub.cons (Sub.cons (Sub.cons (Sub.nil _) e3) e2) e1) e0)) stops_nil) (Eq.mp (host_Host_Tick.B0_eq h0 w   R (fun h0_ out_b_ out_l_ out_c_ list_b_ list_l_ list_c_ i_ w => host_Host_Tick.L1 h0_ out_b_ out_l_ out_c_ list_b_ list_l_ list_c_ i_ w  R)) h)
theorem host_Host_Tick.sound (h0 : Option Addr) (w : World) (R : Option Addr → Nat → Nat → World → Prop) (h : host_Host_Tick.B0 h0 w R) : host_Host_Tick.Call h0 w R := by
  have hc := calls_of_block (args := #[.pointer h0]) Tryz.func84 (body := (Tryz.f84.body.getD .skip)) (by kernel_rfl) (by kernel_rfl) (args_slot _) (host_Host_Tick.B0_sound h0 w h)
  exact hc.mono fun e w' he => by
    obtain ⟨v, rfl, hv⟩ := he
    exact host_Host_Tick.RV_elim hv
def wirem_Wire_Len.B0 (w0 : Option Addr) (w : World)   (R : Int → World → Prop) : Prop :=
  Pn w0 fun a =>
  LdL a w fun x6_b x6_l x6_c =>
  R ((x6_l : Nat) : Int) w
theorem wirem_Wire_Len.B0_eq (w0 : Option Addr) (w : World)   (R : Int → World → Prop)  :
    (
  Pn w0 fun a =>
  LdL a w fun x6_b x6_l x6_c =>
  R ((x6_l : Nat) : Int) w) = kstep Tryz.prog 8 Tryz.f85.results.toList (Tryz.f85.body.getD .skip) (wirem_Wire_Len.RV R) (kvc Tryz.prog 8 Tryz.f85.results.toList (Tryz.f85.body.getD .skip) (wirem_Wire_Len.RV R) [] 2000) [(0, [])] [(0, .pointer w0)] w := by kernel_rfl
theorem wirem_Wire_Len.B0_sound {R : Int → World → Prop}  (w0 : Option Addr) (w : World) (h : wirem_Wire_Len.B0 w0 w   R) :
    KW Tryz.prog 85 8 (wirem_Wire_Len.RV R) ([(0, [])].map (toItem (Tryz.f85.body.getD .skip))) [(0, .pointer w0)] w := by
  exact block_spec Tryz.func85 Tryz.mixed stops_nil (Eq.mp (wirem_Wire_Len.B0_eq w0 w   R ) h)
theorem wirem_Wire_Len.sound (w0 : Option Addr) (w : World) (R : Int → World → Prop) (h : wirem_Wire_Len.B0 w0 w R) : wirem_Wire_Len.Call w0 w R := by
  have hc := calls_of_block (args := #[.pointer w0]) Tryz.func85 (body := (Tryz.f85.body.getD .skip)) (by kernel_rfl) (by kernel_rfl) (args_slot _) (wirem_Wire_Len.B0_sound w0 w h)
  exact hc.mono fun e w' he => by
    obtain ⟨v, rfl, hv⟩ := he
    exact wirem_Wire_Len.RV_elim hv
def wirem_Wire_remove.B0 (w0 : Option Addr) (i : Int) (w : World)   (R : World → Prop) : Prop :=
  Pn w0 fun a =>
  LdL a w fun x8_b x8_l x8_c =>
  Make 129 (.agg #[.slice none 0 0, .int .i64 (0 : Int), .bool false]) 3 40 (0 : Int) ((x8_l : Nat) : Int) w fun b10 w1 =>
  Pn w0 fun a_1 =>
  LdL a_1 w1 fun x15_b x15_l x15_c =>
  (0 ≤ i ∧ i ≤ ((x15_c : Nat) : Int)) ∧
  Append 129 (.agg #[.slice none 0 0, .int .i64 (0 : Int), .bool false]) 3 40 (some ⟨b10, 0, none⟩) 0 (((x8_l : Nat) : Int).toNat) (slBase x15_b ((0 : Nat) : Int) ((x15_c : Nat) : Int) 3) (i.toNat - ((0 : Nat) : Int).toNat) w1 fun b18 c18 w2 =>
  Pn w0 fun a_2 =>
  LdL a_2 w2 fun x24_b x24_l x24_c =>
  (0 ≤ (IntKind.i64.wrap (i + (1 : Int))) ∧ (IntKind.i64.wrap (i + (1 : Int))) ≤ ((x24_l : Nat) : Int)) ∧
  Append 129 (.agg #[.slice none 0 0, .int .i64 (0 : Int), .bool false]) 3 40 b18 (0 + (i.toNat - ((0 : Nat) : Int).toNat)) c18 (slBase x24_b (IntKind.i64.wrap (i + (1 : Int))) ((x24_c : Nat) : Int) 3) (((x24_l : Nat) : Int).toNat - (IntKind.i64.wrap (i + (1 : Int))).toNat) w2 fun b28 c28 w3 =>
  Pn w0 fun a_3 =>
  Sts [.slice b28 ((0 + (i.toNat - ((0 : Nat) : Int).toNat)) + (((x24_l : Nat) : Int).toNat - (IntKind.i64.wrap (i + (1 : Int))).toNat)) c28] a_3 0 w3 fun w4 =>
  R  w4
theorem wirem_Wire_remove.B0_eq (w0 : Option Addr) (i : Int) (w : World)   (R : World → Prop)  :
    (
  Pn w0 fun a =>
  LdL a w fun x8_b x8_l x8_c =>
  Make 129 (.agg #[.slice none 0 0, .int .i64 (0 : Int), .bool false]) 3 40 (0 : Int) ((x8_l : Nat) : Int) w fun b10 w1 =>
  Pn w0 fun a_1 =>
  LdL a_1 w1 fun x15_b x15_l x15_c =>
  (0 ≤ i ∧ i ≤ ((x15_c : Nat) : Int)) ∧
  Append 129 (.agg #[.slice none 0 0, .int .i64 (0 : Int), .bool false]) 3 40 (some ⟨b10, 0, none⟩) 0 (((x8_l : Nat) : Int).toNat) (slBase x15_b ((0 : Nat) : Int) ((x15_c : Nat) : Int) 3) (i.toNat - ((0 : Nat) : Int).toNat) w1 fun b18 c18 w2 =>
  Pn w0 fun a_2 =>
  LdL a_2 w2 fun x24_b x24_l x24_c =>
  (0 ≤ (IntKind.i64.wrap (i + (1 : Int))) ∧ (IntKind.i64.wrap (i + (1 : Int))) ≤ ((x24_l : Nat) : Int)) ∧
  Append 129 (.agg #[.slice none 0 0, .int .i64 (0 : Int), .bool false]) 3 40 b18 (0 + (i.toNat - ((0 : Nat) : Int).toNat)) c18 (slBase x24_b (IntKind.i64.wrap (i + (1 : Int))) ((x24_c : Nat) : Int) 3) (((x24_l : Nat) : Int).toNat - (IntKind.i64.wrap (i + (1 : Int))).toNat) w2 fun b28 c28 w3 =>
  Pn w0 fun a_3 =>
  Sts [.slice b28 ((0 + (i.toNat - ((0 : Nat) : Int).toNat)) + (((x24_l : Nat) : Int).toNat - (IntKind.i64.wrap (i + (1 : Int))).toNat)) c28] a_3 0 w3 fun w4 =>
  R  w4) = kstep Tryz.prog 31 Tryz.f86.results.toList (Tryz.f86.body.getD .skip) (wirem_Wire_remove.RV R) (kvc Tryz.prog 31 Tryz.f86.results.toList (Tryz.f86.body.getD .skip) (wirem_Wire_remove.RV R) [] 2000) [(0, [])] [(0, .pointer w0), (1, .int .i64 i)] w := by kernel_rfl
theorem wirem_Wire_remove.B0_sound {R : World → Prop}  (w0 : Option Addr) (i : Int) (w : World) (h : wirem_Wire_remove.B0 w0 i w   R) :
    KW Tryz.prog 86 31 (wirem_Wire_remove.RV R) ([(0, [])].map (toItem (Tryz.f86.body.getD .skip))) [(0, .pointer w0), (1, .int .i64 i)] w := by
  exact block_spec Tryz.func86 Tryz.mixed stops_nil (Eq.mp (wirem_Wire_remove.B0_eq w0 i w   R ) h)
theorem wirem_Wire_remove.sound (w0 : Option Addr) (i : Int) (w : World) (R : World → Prop) (h : wirem_Wire_remove.B0 w0 i w R) : wirem_Wire_remove.Call w0 i w R := by
  have hc := calls_of_block (args := #[.pointer w0, .int .i64 i]) Tryz.func86 (body := (Tryz.f86.body.getD .skip)) (by kernel_rfl) (by kernel_rfl) (args_slot _) (wirem_Wire_remove.B0_sound w0 i w h)
  exact hc.mono fun e w' he => by
    obtain ⟨v, rfl, hv⟩ := he
    exact wirem_Wire_remove.RV_elim hv
def hostlaw_World_count.B3 (w0 : Option Addr) (c kind n i : Int) (w : World) (N1 : Option Addr → Int → Int → Int → Int → World → Prop)  (R : Int → World → Prop) : Prop :=
  N1 w0 c kind n (IntKind.i64.wrap (i + (1 : Int))) w
theorem hostlaw_World_count.B3_eq (w0 : Option Addr) (c kind n i : Int) (w : World) (N1 : Option Addr → Int → Int → Int → Int → World → Prop)  (R : Int → World → Prop)  :
    (
  N1 w0 c kind n (IntKind.i64.wrap (i + (1 : Int))) w) = kstep Tryz.prog 53 Tryz.f87.results.toList (Tryz.f87.body.getD .skip) (hostlaw_World_count.RV R) (kvc Tryz.prog 53 Tryz.f87.results.toList (Tryz.f87.body.getD .skip) (hostlaw_World_count.RV R) [([(0, [1, 1, 0, 1, 0, 0]), (2, [1, 1, 0, 1, 0, 0]), (1, [0]), (0, [1, 1, 1])], fun σ w => dP (slotOf σ 0) fun w0_ => dI .i64 (slotOf σ 1) fun c_ => dI .i64 (slotOf σ 2) fun kind_ => dI .i64 (slotOf σ 7) fun n_ => dI .i64 (slotOf σ 8) fun i_ => N1 w0_ c_ kind_ n_ i_ w)] 2000) [(0, [1, 1, 0, 1, 0, 0, 1, 1]), (2, [1, 1, 0, 1, 0, 0]), (1, [0]), (0, [1, 1, 1])] [(0, .pointer w0), (1, .int .i64 c), (2, .int .i64 kind), (7, .int .i64 n), (8, .int .i64 i)] w := by kernel_rfl
theorem hostlaw_World_count.B3_sound {R : Int → World → Prop} {N1 : Option Addr → Int → Int → Int → Int → World → Prop} (hN1 : ∀ w0 c kind n i w, N1 w0 c kind n i w → KW Tryz.prog 87 53 (hostlaw_World_count.RV R) ([(0, [1, 1, 0, 1, 0, 0]), (2, [1, 1, 0, 1, 0, 0]), (1, [0]), (0, [1, 1, 1])].map (toItem (Tryz.f87.body.getD .skip))) [(0, .pointer w0), (1, .int .i64 c), (2, .int .i64 kind), (7, .int .i64 n), (8, .int .i64 i)] w) (w0 : Option Addr) (c kind n i : Int) (w : World) (h : hostlaw_World_count.B3 w0 c kind n i w N1  R) :
    KW Tryz.prog 87 53 (hostlaw_World_count.RV R) ([(0, [1, 1, 0, 1, 0, 0, 1, 1]), (2, [1, 1, 0, 1, 0, 0]), (1, [0]), (0, [1, 1, 1])].map (toItem (Tryz.f87.body.getD .skip))) [(0, .pointer w0), (1, .int .i64 c), (2, .int .i64 kind), (7, .int .i64 n), (8, .int .i64 i)] w := by
  exact block_spec Tryz.func87 Tryz.mixed (stops_cons (fun σ w h => by
      obtain ⟨w0_, e0, h⟩ := dP_elim h
      obtain ⟨c_, e1, h⟩ := dI_elim h
      obtain ⟨kind_, e2, h⟩ := dI_elim h
      obtain ⟨n_, e3, h⟩ := dI_elim h
      obtain ⟨i_, e4, h⟩ := dI_elim h
      exact (hN1 w0_ c_ kind_ n_ i_ w h).weaken (Sub.cons (Sub.cons (Sub.cons (Sub.cons (Sub.cons (Sub.nil _) e4) e3) e2) e1) e0)) stops_nil) (Eq.mp (hostlaw_World_count.B3_eq w0 c kind n i w N1  R ) h)
def hostlaw_World_count.B2 (w0 : Option Addr) (c kind n i : Int) (t49 : Bool) (w : World) (N1 : Option Addr → Int → Int → Int → Int → World → Prop)  (R : Int → World → Prop) : Prop :=
  Bm t49 (
    hostlaw_World_count.B3 w0 c kind (IntKind.i64.wrap (n + (1 : Int))) i w N1 R) (
    hostlaw_World_count.B3 w0 c kind n i w N1 R)
theorem hostlaw_World_count.B2_eq (w0 : Option Addr) (c kind n i : Int) (t49 : Bool) (w : World) (N1 : Option Addr → Int → Int → Int → Int → World → Prop)  (R : Int → World → Prop) (sB3 : Option Addr → Int → Int → Int → Int → World → Prop) :
    (
  Bm t49 (
    sB3 w0 c kind (IntKind.i64.wrap (n + (1 : Int))) i w) (
    sB3 w0 c kind n i w)) = kstep Tryz.prog 53 Tryz.f87.results.toList (Tryz.f87.body.getD .skip) (hostlaw_World_count.RV R) (kvc Tryz.prog 53 Tryz.f87.results.toList (Tryz.f87.body.getD .skip) (hostlaw_World_count.RV R) [([(0, [1, 1, 0, 1, 0, 0, 1, 1]), (2, [1, 1, 0, 1, 0, 0]), (1, [0]), (0, [1, 1, 1])], fun σ w => dP (slotOf σ 0) fun w0_ => dI .i64 (slotOf σ 1) fun c_ => dI .i64 (slotOf σ 2) fun kind_ => dI .i64 (slotOf σ 7) fun n_ => dI .i64 (slotOf σ 8) fun i_ => sB3 w0_ c_ kind_ n_ i_ w)] 2000) [(0, [1, 1, 0, 1, 0, 0, 1, 0, 0, 1, 1]), (1, [1]), (0, [1, 1, 0, 1, 0, 0, 1, 1]), (2, [1, 1, 0, 1, 0, 0]), (1, [0]), (0, [1, 1, 1])] [(0, .pointer w0), (1, .int .i64 c), (2, .int .i64 kind), (7, .int .i64 n), (8, .int .i64 i), (49, .bool t49)] w := by kernel_rfl
theorem hostlaw_World_count.B2_sound {R : Int → World → Prop} {N1 : Option Addr → Int → Int → Int → Int → World → Prop} (hN1 : ∀ w0 c kind n i w, N1 w0 c kind n i w → KW Tryz.prog 87 53 (hostlaw_World_count.RV R) ([(0, [1, 1, 0, 1, 0, 0]), (2, [1, 1, 0, 1, 0, 0]), (1, [0]), (0, [1, 1, 1])].map (toItem (Tryz.f87.body.getD .skip))) [(0, .pointer w0), (1, .int .i64 c), (2, .int .i64 kind), (7, .int .i64 n), (8, .int .i64 i)] w) (w0 : Option Addr) (c kind n i : Int) (t49 : Bool) (w : World) (h : hostlaw_World_count.B2 w0 c kind n i t49 w N1  R) :
    KW Tryz.prog 87 53 (hostlaw_World_count.RV R) ([(0, [1, 1, 0, 1, 0, 0, 1, 0, 0, 1, 1]), (1, [1]), (0, [1, 1, 0, 1, 0, 0, 1, 1]), (2, [1, 1, 0, 1, 0, 0]), (1, [0]), (0, [1, 1, 1])].map (toItem (Tryz.f87.body.getD .skip))) [(0, .pointer w0), (1, .int .i64 c), (2, .int .i64 kind), (7, .int .i64 n), (8, .int .i64 i), (49, .bool t49)] w := by
  exact block_spec Tryz.func87 Tryz.mixed (stops_cons (fun σ w h => by
      obtain ⟨w0_, e0, h⟩ := dP_elim h
      obtain ⟨c_, e1, h⟩ := dI_elim h
      obtain ⟨kind_, e2, h⟩ := dI_elim h
      obtain ⟨n_, e3, h⟩ := dI_elim h
      obtain ⟨i_, e4, h⟩ := dI_elim h
      exact (hostlaw_World_count.B3_sound hN1 w0_ c_ kind_ n_ i_ w h).weaken (Sub.cons (Sub.cons (Sub.cons (Sub.cons (Sub.cons (Sub.nil _) e4) e3) e2) e1) e0)) stops_nil) (Eq.mp (hostlaw_World_count.B2_eq w0 c kind n i t49 w N1  R (fun w0_ c_ kind_ n_ i_ w => hostlaw_World_count.B3 w0_ c_ kind_ n_ i_ w N1 R)) h)
def hostlaw_World_count.B1 (w0 : Option Addr) (c kind n i : Int) (s : Nat) (e : Int) (w : World) (N1 : Option Addr → Int → Int → Int → Int → World → Prop)  (R : Int → World → Prop) : Prop :=
  Bm (e == (0 : Int)) (
    LdI .i64 ⟨s, 1, none⟩ w fun x46 =>
    hostlaw_World_count.B2 w0 c kind n i (x46 == kind) w N1 R) (
    hostlaw_World_count.B2 w0 c kind n i false w N1 R)
theorem hostlaw_World_count.B1_eq (w0 : Option Addr) (c kind n i : Int) (s : Nat) (e : Int) (w : World) (N1 : Option Addr → Int → Int → Int → Int → World → Prop)  (R : Int → World → Prop) (sB2 : Option Addr → Int → Int → Int → Int → Bool → World → Prop) :
    (
  Bm (e == (0 : Int)) (
    LdI .i64 ⟨s, 1, none⟩ w fun x46 =>
    sB2 w0 c kind n i (x46 == kind) w) (
    sB2 w0 c kind n i false w)) = kstep Tryz.prog 53 Tryz.f87.results.toList (Tryz.f87.body.getD .skip) (hostlaw_World_count.RV R) (kvc Tryz.prog 53 Tryz.f87.results.toList (Tryz.f87.body.getD .skip) (hostlaw_World_count.RV R) [([(0, [1, 1, 0, 1, 0, 0, 1, 0, 0, 1, 1]), (1, [1]), (0, [1, 1, 0, 1, 0, 0, 1, 1]), (2, [1, 1, 0, 1, 0, 0]), (1, [0]), (0, [1, 1, 1])], fun σ w => dP (slotOf σ 0) fun w0_ => dI .i64 (slotOf σ 1) fun c_ => dI .i64 (slotOf σ 2) fun kind_ => dI .i64 (slotOf σ 7) fun n_ => dI .i64 (slotOf σ 8) fun i_ => dB (slotOf σ 49) fun t49_ => sB2 w0_ c_ kind_ n_ i_ t49_ w)] 2000) [(0, [1, 1, 0, 1, 0, 0, 1, 0, 0, 1]), (1, [1]), (0, [1, 1, 0, 1, 0, 0, 1, 1]), (2, [1, 1, 0, 1, 0, 0]), (1, [0]), (0, [1, 1, 1])] [(0, .pointer w0), (1, .int .i64 c), (2, .int .i64 kind), (7, .int .i64 n), (8, .int .i64 i), (9, .pointer (some ⟨s, 0, none⟩)), (10, .int .i64 e)] w := by kernel_rfl
theorem hostlaw_World_count.B1_sound {R : Int → World → Prop} {N1 : Option Addr → Int → Int → Int → Int → World → Prop} (hN1 : ∀ w0 c kind n i w, N1 w0 c kind n i w → KW Tryz.prog 87 53 (hostlaw_World_count.RV R) ([(0, [1, 1, 0, 1, 0, 0]), (2, [1, 1, 0, 1, 0, 0]), (1, [0]), (0, [1, 1, 1])].map (toItem (Tryz.f87.body.getD .skip))) [(0, .pointer w0), (1, .int .i64 c), (2, .int .i64 kind), (7, .int .i64 n), (8, .int .i64 i)] w) (w0 : Option Addr) (c kind n i : Int) (s : Nat) (e : Int) (w : World) (h : hostlaw_World_count.B1 w0 c kind n i s e w N1  R) :
    KW Tryz.prog 87 53 (hostlaw_World_count.RV R) ([(0, [1, 1, 0, 1, 0, 0, 1, 0, 0, 1]), (1, [1]), (0, [1, 1, 0, 1, 0, 0, 1, 1]), (2, [1, 1, 0, 1, 0, 0]), (1, [0]), (0, [1, 1, 1])].map (toItem (Tryz.f87.body.getD .skip))) [(0, .pointer w0), (1, .int .i64 c), (2, .int .i64 kind), (7, .int .i64 n), (8, .int .i64 i), (9, .pointer (some ⟨s, 0, none⟩)), (10, .int .i64 e)] w := by
  exact block_spec Tryz.func87 Tryz.mixed (stops_cons (fun σ w h => by
      obtain ⟨w0_, e0, h⟩ := dP_elim h
      obtain ⟨c_, e1, h⟩ := dI_elim h
      obtain ⟨kind_, e2, h⟩ := dI_elim h
      obtain ⟨n_, e3, h⟩ := dI_elim h
      obtain ⟨i_, e4, h⟩ := dI_elim h
      obtain ⟨t49_, e5, h⟩ := dB_elim h
      exact (hostlaw_World_count.B2_sound hN1 w0_ c_ kind_ n_ i_ t49_ w h).weaken (Sub.cons (Sub.cons (Sub.cons (Sub.cons (Sub.cons (Sub.cons (Sub.nil _) e5) e4) e3) e2) e1) e0)) stops_nil) (Eq.mp (hostlaw_World_count.B1_eq w0 c kind n i s e w N1  R (fun w0_ c_ kind_ n_ i_ t49_ w => hostlaw_World_count.B2 w0_ c_ kind_ n_ i_ t49_ w N1 R)) h)
def hostlaw_World_count.L1b (w0 : Option Addr) (c kind n i : Int) (w : World)  (N1 : Option Addr → Int → Int → Int → Int → World → Prop) (R : Int → World → Prop) : Prop :=
  Pn w0 fun a =>
  (0 ≤ c ∧ c < ((3 : Nat) : Int)) ∧
  LdL (Addr.add (a.add 34) (c.toNat * 1)) w fun x17_b x17_l x17_c =>
  Bm (decide (i < ((x17_l : Nat) : Int))) (
    Pn w0 fun a_1 =>
    (0 ≤ c ∧ c < ((3 : Nat) : Int)) ∧
    LdP (Addr.add a_1 (c.toNat * 1)) w.drew fun x28 =>
    Pn w0 fun a_2 =>
    (0 ≤ c ∧ c < ((3 : Nat) : Int)) ∧
    LdL (Addr.add (a_2.add 34) (c.toNat * 1)) w.drew fun x34_b x34_l x34_c =>
    Pn x34_b fun a_3 =>
    (0 ≤ i ∧ i < ((x34_l : Nat) : Int)) ∧
    LdI .i64 (Addr.add a_3 (i.toNat * 1)) w.drew fun x37 =>
    ((
      host_Host_Info.Call x28 x37 w.drew fun r38_0_0 r38_0_1 r38_0_2 r38_0_3 r38_0_4 r38_0_5 r38_0_6 r38_0_7 r38_0_8 r38_1 w1 =>
      New (.cells #[.int .i64 (0 : Int), .int .i64 (0 : Int), .int .i64 (0 : Int), .int .i64 (0 : Int), .int .i64 (0 : Int), .int .i64 (0 : Int), .int .i64 (0 : Int), .bool false, .pointer none] 69) w1 fun s_ w2 =>
      Sts [.int .i64 r38_0_0, .int .i64 r38_0_1, .int .i64 r38_0_2, .int .i64 r38_0_3, .int .i64 r38_0_4, .int .i64 r38_0_5, .int .i64 r38_0_6, .bool r38_0_7, .pointer r38_0_8] ⟨s_, 0, none⟩ 0 w2 fun w3 =>
      hostlaw_World_count.B1 w0 c kind n i s_ r38_1 w3 N1 R) ∧ (
      New (.cells #[.int .i64 (0 : Int), .int .i64 (0 : Int), .int .i64 (0 : Int), .int .i64 (0 : Int), .int .i64 (0 : Int), .int .i64 (0 : Int), .int .i64 (0 : Int), .bool false, .pointer none] 69) w.drew fun s__1 w4 =>
      w4.cell? (Addr.add a_3 (i.toNat * 1)) = some (.int .i64 x37) ∧
      w4.cell? (Addr.add (a_2.add 34) (c.toNat * 1)) = some (.slice x34_b x34_l x34_c) ∧
      w4.cell? (Addr.add a_1 (c.toNat * 1)) = some (.pointer x28) ∧
      host_Host_Info.Call x28 x37 w4 fun r38_0_0_1 r38_0_1_1 r38_0_2_1 r38_0_3_1 r38_0_4_1 r38_0_5_1 r38_0_6_1 r38_0_7_1 r38_0_8_1 r38_1_1 w5 =>
      Sts [.int .i64 r38_0_0_1, .int .i64 r38_0_1_1, .int .i64 r38_0_2_1, .int .i64 r38_0_3_1, .int .i64 r38_0_4_1, .int .i64 r38_0_5_1, .int .i64 r38_0_6_1, .bool r38_0_7_1, .pointer r38_0_8_1] ⟨s__1, 0, none⟩ 0 w5 fun w6 =>
      hostlaw_World_count.B1 w0 c kind n i s__1 r38_1_1 w6 N1 R))) (
    R n w)
theorem hostlaw_World_count.L1b_eq (w0 : Option Addr) (c kind n i : Int) (w : World)  (N1 : Option Addr → Int → Int → Int → Int → World → Prop) (R : Int → World → Prop) (sB1 : Option Addr → Int → Int → Int → Int → Nat → Int → World → Prop) :
    (
  Pn w0 fun a =>
  (0 ≤ c ∧ c < ((3 : Nat) : Int)) ∧
  LdL (Addr.add (a.add 34) (c.toNat * 1)) w fun x17_b x17_l x17_c =>
  Bm (decide (i < ((x17_l : Nat) : Int))) (
    Pn w0 fun a_1 =>
    (0 ≤ c ∧ c < ((3 : Nat) : Int)) ∧
    LdP (Addr.add a_1 (c.toNat * 1)) w.drew fun x28 =>
    Pn w0 fun a_2 =>
    (0 ≤ c ∧ c < ((3 : Nat) : Int)) ∧
    LdL (Addr.add (a_2.add 34) (c.toNat * 1)) w.drew fun x34_b x34_l x34_c =>
    Pn x34_b fun a_3 =>
    (0 ≤ i ∧ i < ((x34_l : Nat) : Int)) ∧
    LdI .i64 (Addr.add a_3 (i.toNat * 1)) w.drew fun x37 =>
    ((
      host_Host_Info.Call x28 x37 w.drew fun r38_0_0 r38_0_1 r38_0_2 r38_0_3 r38_0_4 r38_0_5 r38_0_6 r38_0_7 r38_0_8 r38_1 w1 =>
      New (.cells #[.int .i64 (0 : Int), .int .i64 (0 : Int), .int .i64 (0 : Int), .int .i64 (0 : Int), .int .i64 (0 : Int), .int .i64 (0 : Int), .int .i64 (0 : Int), .bool false, .pointer none] 69) w1 fun s_ w2 =>
      Sts [.int .i64 r38_0_0, .int .i64 r38_0_1, .int .i64 r38_0_2, .int .i64 r38_0_3, .int .i64 r38_0_4, .int .i64 r38_0_5, .int .i64 r38_0_6, .bool r38_0_7, .pointer r38_0_8] ⟨s_, 0, none⟩ 0 w2 fun w3 =>
      sB1 w0 c kind n i s_ r38_1 w3) ∧ (
      New (.cells #[.int .i64 (0 : Int), .int .i64 (0 : Int), .int .i64 (0 : Int), .int .i64 (0 : Int), .int .i64 (0 : Int), .int .i64 (0 : Int), .int .i64 (0 : Int), .bool false, .pointer none] 69) w.drew fun s__1 w4 =>
      w4.cell? (Addr.add a_3 (i.toNat * 1)) = some (.int .i64 x37) ∧
      w4.cell? (Addr.add (a_2.add 34) (c.toNat * 1)) = some (.slice x34_b x34_l x34_c) ∧
      w4.cell? (Addr.add a_1 (c.toNat * 1)) = some (.pointer x28) ∧
      host_Host_Info.Call x28 x37 w4 fun r38_0_0_1 r38_0_1_1 r38_0_2_1 r38_0_3_1 r38_0_4_1 r38_0_5_1 r38_0_6_1 r38_0_7_1 r38_0_8_1 r38_1_1 w5 =>
      Sts [.int .i64 r38_0_0_1, .int .i64 r38_0_1_1, .int .i64 r38_0_2_1, .int .i64 r38_0_3_1, .int .i64 r38_0_4_1, .int .i64 r38_0_5_1, .int .i64 r38_0_6_1, .bool r38_0_7_1, .pointer r38_0_8_1] ⟨s__1, 0, none⟩ 0 w5 fun w6 =>
      sB1 w0 c kind n i s__1 r38_1_1 w6))) (
    R n w)) = kstep Tryz.prog 53 Tryz.f87.results.toList (Tryz.f87.body.getD .skip) (hostlaw_World_count.RV R) (kvc Tryz.prog 53 Tryz.f87.results.toList (Tryz.f87.body.getD .skip) (hostlaw_World_count.RV R) [([(0, [1, 1, 0, 1, 0, 0, 1, 0, 0, 1]), (1, [1]), (0, [1, 1, 0, 1, 0, 0, 1, 1]), (2, [1, 1, 0, 1, 0, 0]), (1, [0]), (0, [1, 1, 1])], fun σ w => dP (slotOf σ 0) fun w0_ => dI .i64 (slotOf σ 1) fun c_ => dI .i64 (slotOf σ 2) fun kind_ => dI .i64 (slotOf σ 7) fun n_ => dI .i64 (slotOf σ 8) fun i_ => dK (slotOf σ 9) fun s_ => dI .i64 (slotOf σ 10) fun e_ => sB1 w0_ c_ kind_ n_ i_ s_ e_ w)] 2000) [(0, [1, 1, 0, 1, 0, 0]), (2, [1, 1, 0, 1, 0, 0]), (1, [0]), (0, [1, 1, 1])] [(0, .pointer w0), (1, .int .i64 c), (2, .int .i64 kind), (7, .int .i64 n), (8, .int .i64 i)] w := by kernel_rfl
theorem hostlaw_World_count.L1b_sound {R : Int → World → Prop} {N1 : Option Addr → Int → Int → Int → Int → World → Prop} (hN1 : ∀ w0 c kind n i w, N1 w0 c kind n i w → KW Tryz.prog 87 53 (hostlaw_World_count.RV R) ([(0, [1, 1, 0, 1, 0, 0]), (2, [1, 1, 0, 1, 0, 0]), (1, [0]), (0, [1, 1, 1])].map (toItem (Tryz.f87.body.getD .skip))) [(0, .pointer w0), (1, .int .i64 c), (2, .int .i64 kind), (7, .int .i64 n), (8, .int .i64 i)] w) (w0 : Option Addr) (c kind n i : Int) (w : World) (h : hostlaw_World_count.L1b w0 c kind n i w  N1 R) :
    KW Tryz.prog 87 53 (hostlaw_World_count.RV R) ([(0, [1, 1, 0, 1, 0, 0]), (2, [1, 1, 0, 1, 0, 0]), (1, [0]), (0, [1, 1, 1])].map (toItem (Tryz.f87.body.getD .skip))) [(0, .pointer w0), (1, .int .i64 c), (2, .int .i64 kind), (7, .int .i64 n), (8, .int .i64 i)] w := by
  exact block_spec Tryz.func87 Tryz.mixed (stops_cons (fun σ w h => by
      obtain ⟨w0_, e0, h⟩ := dP_elim h
      obtain ⟨c_, e1, h⟩ := dI_elim h
      obtain ⟨kind_, e2, h⟩ := dI_elim h
      obtain ⟨n_, e3, h⟩ := dI_elim h
      obtain ⟨i_, e4, h⟩ := dI_elim h
      obtain ⟨s_, e5, h⟩ := dK_elim h
      obtain ⟨e_, e6, h⟩ := dI_elim h
      exact (hostlaw_World_count.B1_sound hN1 w0_ c_ kind_ n_ i_ s_ e_ w h).weaken (Sub.cons (Sub.cons (Sub.cons (Sub.cons (Sub.cons (Sub.cons (Sub.cons (Sub.nil _) e6) e5) e4) e3) e2) e1) e0)) stops_nil) (Eq.mp (hostlaw_World_count.L1b_eq w0 c kind n i w  N1 R (fun w0_ c_ kind_ n_ i_ s_ e_ w => hostlaw_World_count.B1 w0_ c_ kind_ n_ i_ s_ e_ w N1 R)) h)
def hostlaw_World_count.L1 (w0 : Option Addr) (c kind n i : Int) (w : World)  (R : Int → World → Prop) : Prop :=
  ∃ (I : Nat → Option Addr → Int → Int → Int → Int → World → Prop) (m : Nat), I m w0 c kind n i w ∧ ∀ m w0 c kind n i w, I m w0 c kind n i w → hostlaw_World_count.L1b w0 c kind n i w  (fun w0' c' kind' n' i' w' => ∃ m', m' < m ∧ I m' w0' c' kind' n' i' w') R
theorem hostlaw_World_count.L1_sound {R : Int → World → Prop}  (w0 : Option Addr) (c kind n i : Int) (w : World) (h : hostlaw_World_count.L1 w0 c kind n i w  R) :
    KW Tryz.prog 87 53 (hostlaw_World_count.RV R) ([(0, [1, 1, 0, 1, 0, 0]), (2, [1, 1, 0, 1, 0, 0]), (1, [0]), (0, [1, 1, 1])].map (toItem (Tryz.f87.body.getD .skip))) [(0, .pointer w0), (1, .int .i64 c), (2, .int .i64 kind), (7, .int .i64 n), (8, .int .i64 i)] w := by
  obtain ⟨I, m, hBase, hr⟩ := h
  refine KW.loop (fun m σ w => ∃ (w0 : Option Addr) (c kind n i : Int), σ = [(0, .pointer w0), (1, .int .i64 c), (2, .int .i64 kind), (7, .int .i64 n), (8, .int .i64 i)] ∧ I m w0 c kind n i w) ?_ m _ w ⟨w0, c, kind, n, i, rfl, hBase⟩
  rintro m ih σ w ⟨w0, c, kind, n, i, rfl, hI⟩
  exact hostlaw_World_count.L1b_sound  (N1 := fun w0' c' kind' n' i' w' => ∃ m', m' < m ∧ I m' w0' c' kind' n' i' w') (fun w0' c' kind' n' i' w' hx => by obtain ⟨m', hlt, hI'⟩ := hx; exact ih m' hlt _ w' ⟨w0', c', kind', n', i', rfl, hI'⟩) w0 c kind n i w (hr m w0 c kind n i w hI)
def hostlaw_World_count.B0 (w0 : Option Addr) (c kind : Int) (w : World)   (R : Int → World → Prop) : Prop :=
  hostlaw_World_count.L1 w0 c kind (0 : Int) (0 : Int) w  R
theorem hostlaw_World_count.B0_eq (w0 : Option Addr) (c kind : Int) (w : World)   (R : Int → World → Prop) (sL1 : Option Addr → Int → Int → Int → Int → World → Prop) :
    (
  sL1 w0 c kind (0 : Int) (0 : Int) w) = kstep Tryz.prog 53 Tryz.f87.results.toList (Tryz.f87.body.getD .skip) (hostlaw_World_count.RV R) (kvc Tryz.prog 53 Tryz.f87.results.toList (Tryz.f87.body.getD .skip) (hostlaw_World_count.RV R) [([(0, [1, 1, 0, 1, 0, 0]), (2, [1, 1, 0, 1, 0, 0]), (1, [0]), (0, [1, 1, 1])], fun σ w => dP (slotOf σ 0) fun w0_ => dI .i64 (slotOf σ 1) fun c_ => dI .i64 (slotOf σ 2) fun kind_ => dI .i64 (slotOf σ 7) fun n_ => dI .i64 (slotOf σ 8) fun i_ => sL1 w0_ c_ kind_ n_ i_ w)] 2000) [(0, [])] [(0, .pointer w0), (1, .int .i64 c), (2, .int .i64 kind)] w := by kernel_rfl
theorem hostlaw_World_count.B0_sound {R : Int → World → Prop}  (w0 : Option Addr) (c kind : Int) (w : World) (h : hostlaw_World_count.B0 w0 c kind w   R) :
    KW Tryz.prog 87 53 (hostlaw_World_count.RV R) ([(0, [])].map (toItem (Tryz.f87.body.getD .skip))) [(0, .pointer w0), (1, .int .i64 c), (2, .int .i64 kind)] w := by
  exact block_spec Tryz.func87 Tryz.mixed (stops_cons (fun σ w h => by
      obtain ⟨w0_, e0, h⟩ := dP_elim h
      obtain ⟨c_, e1, h⟩ := dI_elim h
      obtain ⟨kind_, e2, h⟩ := dI_elim h
      obtain ⟨n_, e3, h⟩ := dI_elim h
      obtain ⟨i_, e4, h⟩ := dI_elim h
      exact (hostlaw_World_count.L1_sound  w0_ c_ kind_ n_ i_ w h).weaken (Sub.cons (Sub.cons (Sub.cons (Sub.cons (Sub.cons (Sub.nil _) e4) e3) e2) e1) e0)) stops_nil) (Eq.mp (hostlaw_World_count.B0_eq w0 c kind w   R (fun w0_ c_ kind_ n_ i_ w => hostlaw_World_count.L1 w0_ c_ kind_ n_ i_ w  R)) h)
theorem hostlaw_World_count.sound (w0 : Option Addr) (c kind : Int) (w : World) (R : Int → World → Prop) (h : hostlaw_World_count.B0 w0 c kind w R) : hostlaw_World_count.Call w0 c kind w R := by
  have hc := calls_of_block (args := #[.pointer w0, .int .i64 c, .int .i64 kind]) Tryz.func87 (body := (Tryz.f87.body.getD .skip)) (by kernel_rfl) (by kernel_rfl) (args_slot _) (hostlaw_World_count.B0_sound w0 c kind w h)
  exact hc.mono fun e w' he => by
    obtain ⟨v, rfl, hv⟩ := he
    exact hostlaw_World_count.RV_elim hv
def host_Host_Listen.B0 (h0 : Option Addr) (port : Int) (w : World)   (R : Int → Int → World → Prop) : Prop :=
  Pn h0 fun a =>
  LdP (a.add 17) w fun x9 =>
  sock_Table_Listen.Call x9 port w fun r11_0 r11_1 w1 =>
  R r11_0 r11_1 w1
theorem host_Host_Listen.B0_eq (h0 : Option Addr) (port : Int) (w : World)   (R : Int → Int → World → Prop)  :
    (
  Pn h0 fun a =>
  LdP (a.add 17) w fun x9 =>
  sock_Table_Listen.Call x9 port w fun r11_0 r11_1 w1 =>
  R r11_0 r11_1 w1) = kstep Tryz.prog 14 Tryz.f88.results.toList (Tryz.f88.body.getD .skip) (host_Host_Listen.RV R) (kvc Tryz.prog 14 Tryz.f88.results.toList (Tryz.f88.body.getD .skip) (host_Host_Listen.RV R) [] 2000) [(0, [])] [(0, .pointer h0), (1, .int .i64 port)] w := by kernel_rfl
theorem host_Host_Listen.B0_sound {R : Int → Int → World → Prop}  (h0 : Option Addr) (port : Int) (w : World) (h : host_Host_Listen.B0 h0 port w   R) :
    KW Tryz.prog 88 14 (host_Host_Listen.RV R) ([(0, [])].map (toItem (Tryz.f88.body.getD .skip))) [(0, .pointer h0), (1, .int .i64 port)] w := by
  exact block_spec Tryz.func88 Tryz.mixed stops_nil (Eq.mp (host_Host_Listen.B0_eq h0 port w   R ) h)
theorem host_Host_Listen.sound (h0 : Option Addr) (port : Int) (w : World) (R : Int → Int → World → Prop) (h : host_Host_Listen.B0 h0 port w R) : host_Host_Listen.Call h0 port w R := by
  have hc := calls_of_block (args := #[.pointer h0, .int .i64 port]) Tryz.func88 (body := (Tryz.f88.body.getD .skip)) (by kernel_rfl) (by kernel_rfl) (args_slot _) (host_Host_Listen.B0_sound h0 port w h)
  exact hc.mono fun e w' he => by
    obtain ⟨v, rfl, hv⟩ := he
    exact host_Host_Listen.RV_elim hv
def host_Host_Connect.B0 (h0 : Option Addr) (rhost rport : Int) (w : World)   (R : Int → Option Addr → Nat → Nat → Int → World → Prop) : Prop :=
  Pn h0 fun a =>
  LdP (a.add 17) w fun x18 =>
  sock_Table_Connect.Call x18 rhost rport w fun r21_0 r21_1 w1 =>
  Bm (r21_1 != (0 : Int)) (
    R (0 : Int) none 0 0 r21_1 w1) (
    Pn h0 fun a_1 =>
    LdP (a_1.add 17) w1 fun x31 =>
    sock_Table_Get.Call x31 r21_0 w1 fun r33_0_0 r33_0_1 r33_0_2 r33_0_3 r33_0_4 r33_0_5 r33_0_6 r33_0_7 r33_1 w2 =>
    New (.cells #[.int .i64 (0 : Int), .int .i64 (0 : Int), .int .i64 (0 : Int), .int .i64 (0 : Int), .int .i64 (0 : Int), .int .i64 (0 : Int), .int .i64 (0 : Int), .bool false] 66) w2 fun en_ w3 =>
    Sts [.int .i64 r33_0_0, .int .i64 r33_0_1, .int .i64 r33_0_2, .int .i64 r33_0_3, .int .i64 r33_0_4, .int .i64 r33_0_5, .int .i64 r33_0_6, .bool r33_0_7] ⟨en_, 0, none⟩ 0 w3 fun w4 =>
    Bm (r33_1 != (0 : Int)) (
      R (0 : Int) none 0 0 r33_1 w4) (
      LdI .i64 ⟨en_, 5, none⟩ w4.drew fun x42 =>
      Pn h0 fun a_2 =>
      (0 ≤ x42 ∧ x42 < ((4 : Nat) : Int)) ∧
      LdP (Addr.add (a_2.add 13) (x42.toNat * 1)) w4.drew fun x46 =>
      Pn h0 fun a_3 =>
      LdI .i64 (a_3.add 1) w4.drew fun x50 =>
      (256 : Int) ≠ 0 ∧
      conn_Conn_OpenActive.Call x46 (x50.tmod (256 : Int)) w4.drew fun r52_0_b r52_0_l r52_0_c r52_1 w5 =>
      Bm (r52_1 != (0 : Int)) (
        R (0 : Int) none 0 0 r52_1 w5) (
        New (.cells #[] 81) w5 fun b59 w6 =>
        LdI .i64 ⟨en_, 0, none⟩ w6 fun x60_0 =>
        LdI .i64 ⟨en_, 1, none⟩ w6 fun x60_1 =>
        LdI .i64 ⟨en_, 2, none⟩ w6 fun x60_2 =>
        LdI .i64 ⟨en_, 3, none⟩ w6 fun x60_3 =>
        LdI .i64 ⟨en_, 4, none⟩ w6 fun x60_4 =>
        LdI .i64 ⟨en_, 5, none⟩ w6 fun x60_5 =>
        LdI .i64 ⟨en_, 6, none⟩ w6 fun x60_6 =>
        LdB ⟨en_, 7, none⟩ w6 fun x60_7 =>
        host_Host_emit.Call h0 (some ⟨b59, 0, none⟩) 0 0 x60_0 x60_1 x60_2 x60_3 x60_4 x60_5 x60_6 x60_7 r52_0_b r52_0_l r52_0_c w6 fun r62_b r62_l r62_c w7 =>
        R r21_0 r62_b r62_l r62_c (0 : Int) w7)))
theorem host_Host_Connect.B0_eq (h0 : Option Addr) (rhost rport : Int) (w : World)   (R : Int → Option Addr → Nat → Nat → Int → World → Prop)  :
    (
  Pn h0 fun a =>
  LdP (a.add 17) w fun x18 =>
  sock_Table_Connect.Call x18 rhost rport w fun r21_0 r21_1 w1 =>
  Bm (r21_1 != (0 : Int)) (
    R (0 : Int) none 0 0 r21_1 w1) (
    Pn h0 fun a_1 =>
    LdP (a_1.add 17) w1 fun x31 =>
    sock_Table_Get.Call x31 r21_0 w1 fun r33_0_0 r33_0_1 r33_0_2 r33_0_3 r33_0_4 r33_0_5 r33_0_6 r33_0_7 r33_1 w2 =>
    New (.cells #[.int .i64 (0 : Int), .int .i64 (0 : Int), .int .i64 (0 : Int), .int .i64 (0 : Int), .int .i64 (0 : Int), .int .i64 (0 : Int), .int .i64 (0 : Int), .bool false] 66) w2 fun en_ w3 =>
    Sts [.int .i64 r33_0_0, .int .i64 r33_0_1, .int .i64 r33_0_2, .int .i64 r33_0_3, .int .i64 r33_0_4, .int .i64 r33_0_5, .int .i64 r33_0_6, .bool r33_0_7] ⟨en_, 0, none⟩ 0 w3 fun w4 =>
    Bm (r33_1 != (0 : Int)) (
      R (0 : Int) none 0 0 r33_1 w4) (
      LdI .i64 ⟨en_, 5, none⟩ w4.drew fun x42 =>
      Pn h0 fun a_2 =>
      (0 ≤ x42 ∧ x42 < ((4 : Nat) : Int)) ∧
      LdP (Addr.add (a_2.add 13) (x42.toNat * 1)) w4.drew fun x46 =>
      Pn h0 fun a_3 =>
      LdI .i64 (a_3.add 1) w4.drew fun x50 =>
      (256 : Int) ≠ 0 ∧
      conn_Conn_OpenActive.Call x46 (x50.tmod (256 : Int)) w4.drew fun r52_0_b r52_0_l r52_0_c r52_1 w5 =>
      Bm (r52_1 != (0 : Int)) (
        R (0 : Int) none 0 0 r52_1 w5) (
        New (.cells #[] 81) w5 fun b59 w6 =>
        LdI .i64 ⟨en_, 0, none⟩ w6 fun x60_0 =>
        LdI .i64 ⟨en_, 1, none⟩ w6 fun x60_1 =>
        LdI .i64 ⟨en_, 2, none⟩ w6 fun x60_2 =>
        LdI .i64 ⟨en_, 3, none⟩ w6 fun x60_3 =>
        LdI .i64 ⟨en_, 4, none⟩ w6 fun x60_4 =>
        LdI .i64 ⟨en_, 5, none⟩ w6 fun x60_5 =>
        LdI .i64 ⟨en_, 6, none⟩ w6 fun x60_6 =>
        LdB ⟨en_, 7, none⟩ w6 fun x60_7 =>
        host_Host_emit.Call h0 (some ⟨b59, 0, none⟩) 0 0 x60_0 x60_1 x60_2 x60_3 x60_4 x60_5 x60_6 x60_7 r52_0_b r52_0_l r52_0_c w6 fun r62_b r62_l r62_c w7 =>
        R r21_0 r62_b r62_l r62_c (0 : Int) w7)))) = kstep Tryz.prog 65 Tryz.f89.results.toList (Tryz.f89.body.getD .skip) (host_Host_Connect.RV R) (kvc Tryz.prog 65 Tryz.f89.results.toList (Tryz.f89.body.getD .skip) (host_Host_Connect.RV R) [] 2000) [(0, [])] [(0, .pointer h0), (1, .int .i64 rhost), (2, .int .i64 rport)] w := by kernel_rfl
theorem host_Host_Connect.B0_sound {R : Int → Option Addr → Nat → Nat → Int → World → Prop}  (h0 : Option Addr) (rhost rport : Int) (w : World) (h : host_Host_Connect.B0 h0 rhost rport w   R) :
    KW Tryz.prog 89 65 (host_Host_Connect.RV R) ([(0, [])].map (toItem (Tryz.f89.body.getD .skip))) [(0, .pointer h0), (1, .int .i64 rhost), (2, .int .i64 rport)] w := by
  exact block_spec Tryz.func89 Tryz.mixed stops_nil (Eq.mp (host_Host_Connect.B0_eq h0 rhost rport w   R ) h)
theorem host_Host_Connect.sound (h0 : Option Addr) (rhost rport : Int) (w : World) (R : Int → Option Addr → Nat → Nat → Int → World → Prop) (h : host_Host_Connect.B0 h0 rhost rport w R) : host_Host_Connect.Call h0 rhost rport w R := by
  have hc := calls_of_block (args := #[.pointer h0, .int .i64 rhost, .int .i64 rport]) Tryz.func89 (body := (Tryz.f89.body.getD .skip)) (by kernel_rfl) (by kernel_rfl) (args_slot _) (host_Host_Connect.B0_sound h0 rhost rport w h)
  exact hc.mono fun e w' he => by
    obtain ⟨v, rfl, hv⟩ := he
    exact host_Host_Connect.RV_elim hv
end Go.Proofs.Qxb6500424aGreat
