import Derived.Test.Qxb6500427aSig
set_option maxRecDepth 100000
set_option linter.unusedVariables false
open Go.Vc
namespace Go.Proofs.Qxb6500427a
def sock_Table_take.B0 (t : Option Addr) (w : World)   (R : Int → World → Prop) : Prop :=
  Pn t fun a =>
  LdI .i64 (a.add 90) w fun x7 =>
  Bm (x7 != (-1 : Int)) (
    Pn t fun a_1 =>
    (0 ≤ x7 ∧ x7 < ((6 : Nat) : Int)) ∧
    LdI .i64 ((Addr.add a_1 (x7.toNat * 15)).add 9) w fun x17 =>
    Pn t fun a_2 =>
    Sts [.int .i64 x17] (a_2.add 90) 0 w fun w1 =>
    Pn t fun a_3 =>
    (0 ≤ x7 ∧ x7 < ((6 : Nat) : Int)) ∧
    Sts [.bool true, .int .i64 (0 : Int), .int .i64 (0 : Int), .int .i64 (0 : Int), .int .i64 (0 : Int), .int .i64 (0 : Int), .int .i64 (0 : Int), .int .i64 (0 : Int), .bool false, .int .i64 (-1 : Int), .int .i64 (0 : Int), .int .i64 (0 : Int), .int .i64 (0 : Int), .int .i64 (0 : Int), .int .i64 (0 : Int)] (Addr.add a_3 (x7.toNat * 15)) 0 w1 fun w2 =>
    R x7 w2) (
    R x7 w)
theorem sock_Table_take.B0_eq (t : Option Addr) (w : World)   (R : Int → World → Prop)  :
    (
  Pn t fun a =>
  LdI .i64 (a.add 90) w fun x7 =>
  Bm (x7 != (-1 : Int)) (
    Pn t fun a_1 =>
    (0 ≤ x7 ∧ x7 < ((6 : Nat) : Int)) ∧
    LdI .i64 ((Addr.add a_1 (x7.toNat * 15)).add 9) w fun x17 =>
    Pn t fun a_2 =>
    Sts [.int .i64 x17] (a_2.add 90) 0 w fun w1 =>
    Pn t fun a_3 =>
    (0 ≤ x7 ∧ x7 < ((6 : Nat) : Int)) ∧
    Sts [.bool true, .int .i64 (0 : Int), .int .i64 (0 : Int), .int .i64 (0 : Int), .int .i64 (0 : Int), .int .i64 (0 : Int), .int .i64 (0 : Int), .int .i64 (0 : Int), .bool false, .int .i64 (-1 : Int), .int .i64 (0 : Int), .int .i64 (0 : Int), .int .i64 (0 : Int), .int .i64 (0 : Int), .int .i64 (0 : Int)] (Addr.add a_3 (x7.toNat * 15)) 0 w1 fun w2 =>
    R x7 w2) (
    R x7 w)) = kstep Try.prog 27 Try.f65.results.toList (Try.f65.body.getD .skip) (sock_Table_take.RV R) (kvc Try.prog 27 Try.f65.results.toList (Try.f65.body.getD .skip) (sock_Table_take.RV R) [] 2000) [(0, [])] [(0, .pointer t)] w := by kernel_rfl
theorem sock_Table_take.B0_sound {R : Int → World → Prop}  (t : Option Addr) (w : World) (h : sock_Table_take.B0 t w   R) :
    KW Try.prog 65 27 (sock_Table_take.RV R) ([(0, [])].map (toItem (Try.f65.body.getD .skip))) [(0, .pointer t)] w := by
  exact block_spec Try.func65 Try.mixed stops_nil (Eq.mp (sock_Table_take.B0_eq t w   R ) h)
theorem sock_Table_take.sound (t : Option Addr) (w : World) (R : Int → World → Prop) (h : sock_Table_take.B0 t w R) : sock_Table_take.Call t w R := by
  have hc := calls_of_block (args := #[.pointer t]) Try.func65 (body := (Try.f65.body.getD .skip)) (by kernel_rfl) (by kernel_rfl) (args_slot _) (sock_Table_take.B0_sound t w h)
  exact hc.mono fun e w' he => by
    obtain ⟨v, rfl, hv⟩ := he
    exact sock_Table_take.RV_elim hv
def sockm_Table_count.B1 (t : Option Addr) (kind n i : Int) (w : World) (N1 : Option Addr → Int → Int → Int → World → Prop)  (R : Int → World → Prop) : Prop :=
  N1 t kind n (IntKind.i64.wrap (i + (1 : Int))) w
theorem sockm_Table_count.B1_eq (t : Option Addr) (kind n i : Int) (w : World) (N1 : Option Addr → Int → Int → Int → World → Prop)  (R : Int → World → Prop)  :
    (
  N1 t kind n (IntKind.i64.wrap (i + (1 : Int))) w) = kstep Try.prog 30 Try.f66.results.toList (Try.f66.body.getD .skip) (sockm_Table_count.RV R) (kvc Try.prog 30 Try.f66.results.toList (Try.f66.body.getD .skip) (sockm_Table_count.RV R) [([(0, [1, 1, 0, 1, 0, 0]), (2, [1, 1, 0, 1, 0, 0]), (1, [0]), (0, [1, 1, 1])], fun σ w => dP (slotOf σ 0) fun t_ => dI .i64 (slotOf σ 1) fun kind_ => dI .i64 (slotOf σ 5) fun n_ => dI .i64 (slotOf σ 6) fun i_ => N1 t_ kind_ n_ i_ w)] 2000) [(0, [1, 1, 0, 1, 0, 0, 1, 1]), (2, [1, 1, 0, 1, 0, 0]), (1, [0]), (0, [1, 1, 1])] [(0, .pointer t), (1, .int .i64 kind), (5, .int .i64 n), (6, .int .i64 i)] w := by kernel_rfl
theorem sockm_Table_count.B1_sound {R : Int → World → Prop} {N1 : Option Addr → Int → Int → Int → World → Prop} (hN1 : ∀ t kind n i w, N1 t kind n i w → KW Try.prog 66 30 (sockm_Table_count.RV R) ([(0, [1, 1, 0, 1, 0, 0]), (2, [1, 1, 0, 1, 0, 0]), (1, [0]), (0, [1, 1, 1])].map (toItem (Try.f66.body.getD .skip))) [(0, .pointer t), (1, .int .i64 kind), (5, .int .i64 n), (6, .int .i64 i)] w) (t : Option Addr) (kind n i : Int) (w : World) (h : sockm_Table_count.B1 t kind n i w N1  R) :
    KW Try.prog 66 30 (sockm_Table_count.RV R) ([(0, [1, 1, 0, 1, 0, 0, 1, 1]), (2, [1, 1, 0, 1, 0, 0]), (1, [0]), (0, [1, 1, 1])].map (toItem (Try.f66.body.getD .skip))) [(0, .pointer t), (1, .int .i64 kind), (5, .int .i64 n), (6, .int .i64 i)] w := by
  exact block_spec Try.func66 Try.mixed (stops_cons (fun σ w h => by
      obtain ⟨t_, e0, h⟩ := dP_elim h
      obtain ⟨kind_, e1, h⟩ := dI_elim h
      obtain ⟨n_, e2, h⟩ := dI_elim h
      obtain ⟨i_, e3, h⟩ := dI_elim h
      exact (hN1 t_ kind_ n_ i_ w h).weaken (Sub.cons (Sub.cons (Sub.cons (Sub.cons (Sub.nil _) e3) e2) e1) e0)) stops_nil) (Eq.mp (sockm_Table_count.B1_eq t kind n i w N1  R ) h)
def sockm_Table_count.L1b (t : Option Addr) (kind n i : Int) (w : World)  (N1 : Option Addr → Int → Int → Int → World → Prop) (R : Int → World → Prop) : Prop :=
  Pn t fun a =>
  LdL a w fun x11_b x11_l x11_c =>
  Bm (decide (i < ((x11_l : Nat) : Int))) (
    Pn t fun a_1 =>
    LdL a_1 w fun x19_b x19_l x19_c =>
    Pn x19_b fun a_2 =>
    (0 ≤ i ∧ i < ((x19_l : Nat) : Int)) ∧
    LdI .i64 ((Addr.add a_2 (i.toNat * 9)).add 1) w fun x24 =>
    Bm (x24 == kind) (
      sockm_Table_count.B1 t kind (IntKind.i64.wrap (n + (1 : Int))) i w N1 R) (
      sockm_Table_count.B1 t kind n i w N1 R)) (
    R n w)
theorem sockm_Table_count.L1b_eq (t : Option Addr) (kind n i : Int) (w : World)  (N1 : Option Addr → Int → Int → Int → World → Prop) (R : Int → World → Prop) (sB1 : Option Addr → Int → Int → Int → World → Prop) :
    (
  Pn t fun a =>
  LdL a w fun x11_b x11_l x11_c =>
  Bm (decide (i < ((x11_l : Nat) : Int))) (
    Pn t fun a_1 =>
    LdL a_1 w fun x19_b x19_l x19_c =>
    Pn x19_b fun a_2 =>
    (0 ≤ i ∧ i < ((x19_l : Nat) : Int)) ∧
    LdI .i64 ((Addr.add a_2 (i.toNat * 9)).add 1) w fun x24 =>
    Bm (x24 == kind) (
      sB1 t kind (IntKind.i64.wrap (n + (1 : Int))) i w) (
      sB1 t kind n i w)) (
    R n w)) = kstep Try.prog 30 Try.f66.results.toList (Try.f66.body.getD .skip) (sockm_Table_count.RV R) (kvc Try.prog 30 Try.f66.results.toList (Try.f66.body.getD .skip) (sockm_Table_count.RV R) [([(0, [1, 1, 0, 1, 0, 0, 1, 1]), (2, [1, 1, 0, 1, 0, 0]), (1, [0]), (0, [1, 1, 1])], fun σ w => dP (slotOf σ 0) fun t_ => dI .i64 (slotOf σ 1) fun kind_ => dI .i64 (slotOf σ 5) fun n_ => dI .i64 (slotOf σ 6) fun i_ => sB1 t_ kind_ n_ i_ w)] 2000) [(0, [1, 1, 0, 1, 0, 0]), (2, [1, 1, 0, 1, 0, 0]), (1, [0]), (0, [1, 1, 1])] [(0, .pointer t), (1, .int .i64 kind), (5, .int .i64 n), (6, .int .i64 i)] w := by kernel_rfl
theorem sockm_Table_count.L1b_sound {R : Int → World → Prop} {N1 : Option Addr → Int → Int → Int → World → Prop} (hN1 : ∀ t kind n i w, N1 t kind n i w → KW Try.prog 66 30 (sockm_Table_count.RV R) ([(0, [1, 1, 0, 1, 0, 0]), (2, [1, 1, 0, 1, 0, 0]), (1, [0]), (0, [1, 1, 1])].map (toItem (Try.f66.body.getD .skip))) [(0, .pointer t), (1, .int .i64 kind), (5, .int .i64 n), (6, .int .i64 i)] w) (t : Option Addr) (kind n i : Int) (w : World) (h : sockm_Table_count.L1b t kind n i w  N1 R) :
    KW Try.prog 66 30 (sockm_Table_count.RV R) ([(0, [1, 1, 0, 1, 0, 0]), (2, [1, 1, 0, 1, 0, 0]), (1, [0]), (0, [1, 1, 1])].map (toItem (Try.f66.body.getD .skip))) [(0, .pointer t), (1, .int .i64 kind), (5, .int .i64 n), (6, .int .i64 i)] w := by
  exact block_spec Try.func66 Try.mixed (stops_cons (fun σ w h => by
      obtain ⟨t_, e0, h⟩ := dP_elim h
      obtain ⟨kind_, e1, h⟩ := dI_elim h
      obtain ⟨n_, e2, h⟩ := dI_elim h
      obtain ⟨i_, e3, h⟩ := dI_elim h
      exact (sockm_Table_count.B1_sound hN1 t_ kind_ n_ i_ w h).weaken (Sub.cons (Sub.cons (Sub.cons (Sub.cons (Sub.nil _) e3) e2) e1) e0)) stops_nil) (Eq.mp (sockm_Table_count.L1b_eq t kind n i w  N1 R (fun t_ kind_ n_ i_ w => sockm_Table_count.B1 t_ kind_ n_ i_ w N1 R)) h)
def sockm_Table_count.L1 (t : Option Addr) (kind n i : Int) (w : World)  (R : Int → World → Prop) : Prop :=
  ∃ (I : Nat → Option Addr → Int → Int → Int → World → Prop) (m : Nat), I m t kind n i w ∧ ∀ m t kind n i w, I m t kind n i w → sockm_Table_count.L1b t kind n i w  (fun t' kind' n' i' w' => ∃ m', m' < m ∧ I m' t' kind' n' i' w') R
theorem sockm_Table_count.L1_sound {R : Int → World → Prop}  (t : Option Addr) (kind n i : Int) (w : World) (h : sockm_Table_count.L1 t kind n i w  R) :
    KW Try.prog 66 30 (sockm_Table_count.RV R) ([(0, [1, 1, 0, 1, 0, 0]), (2, [1, 1, 0, 1, 0, 0]), (1, [0]), (0, [1, 1, 1])].map (toItem (Try.f66.body.getD .skip))) [(0, .pointer t), (1, .int .i64 kind), (5, .int .i64 n), (6, .int .i64 i)] w := by
  obtain ⟨I, m, hBase, hr⟩ := h
  refine KW.loop (fun m σ w => ∃ (t : Option Addr) (kind n i : Int), σ = [(0, .pointer t), (1, .int .i64 kind), (5, .int .i64 n), (6, .int .i64 i)] ∧ I m t kind n i w) ?_ m _ w ⟨t, kind, n, i, rfl, hBase⟩
  rintro m ih σ w ⟨t, kind, n, i, rfl, hI⟩
  exact sockm_Table_count.L1b_sound  (N1 := fun t' kind' n' i' w' => ∃ m', m' < m ∧ I m' t' kind' n' i' w') (fun t' kind' n' i' w' hx => by obtain ⟨m', hlt, hI'⟩ := hx; exact ih m' hlt _ w' ⟨t', kind', n', i', rfl, hI'⟩) t kind n i w (hr m t kind n i w hI)
def sockm_Table_count.B0 (t : Option Addr) (kind : Int) (w : World)   (R : Int → World → Prop) : Prop :=
  sockm_Table_count.L1 t kind (0 : Int) (0 : Int) w  R
theorem sockm_Table_count.B0_eq (t : Option Addr) (kind : Int) (w : World)   (R : Int → World → Prop) (sL1 : Option Addr → Int → Int → Int → World → Prop) :
    (
  sL1 t kind (0 : Int) (0 : Int) w) = kstep Try.prog 30 Try.f66.results.toList (Try.f66.body.getD .skip) (sockm_Table_count.RV R) (kvc Try.prog 30 Try.f66.results.toList (Try.f66.body.getD .skip) (sockm_Table_count.RV R) [([(0, [1, 1, 0, 1, 0, 0]), (2, [1, 1, 0, 1, 0, 0]), (1, [0]), (0, [1, 1, 1])], fun σ w => dP (slotOf σ 0) fun t_ => dI .i64 (slotOf σ 1) fun kind_ => dI .i64 (slotOf σ 5) fun n_ => dI .i64 (slotOf σ 6) fun i_ => sL1 t_ kind_ n_ i_ w)] 2000) [(0, [])] [(0, .pointer t), (1, .int .i64 kind)] w := by kernel_rfl
theorem sockm_Table_count.B0_sound {R : Int → World → Prop}  (t : Option Addr) (kind : Int) (w : World) (h : sockm_Table_count.B0 t kind w   R) :
    KW Try.prog 66 30 (sockm_Table_count.RV R) ([(0, [])].map (toItem (Try.f66.body.getD .skip))) [(0, .pointer t), (1, .int .i64 kind)] w := by
  exact block_spec Try.func66 Try.mixed (stops_cons (fun σ w h => by
      obtain ⟨t_, e0, h⟩ := dP_elim h
      obtain ⟨kind_, e1, h⟩ := dI_elim h
      obtain ⟨n_, e2, h⟩ := dI_elim h
      obtain ⟨i_, e3, h⟩ := dI_elim h
      exact (sockm_Table_count.L1_sound  t_ kind_ n_ i_ w h).weaken (Sub.cons (Sub.cons (Sub.cons (Sub.cons (Sub.nil _) e3) e2) e1) e0)) stops_nil) (Eq.mp (sockm_Table_count.B0_eq t kind w   R (fun t_ kind_ n_ i_ w => sockm_Table_count.L1 t_ kind_ n_ i_ w  R)) h)
theorem sockm_Table_count.sound (t : Option Addr) (kind : Int) (w : World) (R : Int → World → Prop) (h : sockm_Table_count.B0 t kind w R) : sockm_Table_count.Call t kind w R := by
  have hc := calls_of_block (args := #[.pointer t, .int .i64 kind]) Try.func66 (body := (Try.f66.body.getD .skip)) (by kernel_rfl) (by kernel_rfl) (args_slot _) (sockm_Table_count.B0_sound t kind w h)
  exact hc.mono fun e w' he => by
    obtain ⟨v, rfl, hv⟩ := he
    exact sockm_Table_count.RV_elim hv
def sockm_Table_add.B0 (t : Option Addr) (e_0 e_1 e_2 e_3 e_4 e_5 e_6 : Int) (e_7 : Bool) (w : World)   (R : Int → World → Prop) : Prop :=
  New (.cells #[.int .i64 e_0, .int .i64 e_1, .int .i64 e_2, .int .i64 e_3, .int .i64 e_4, .int .i64 e_5, .int .i64 e_6, .bool e_7] 40) w fun e_ w1 =>
  Pn t fun a =>
  LdI .i64 (a.add 1) w1 fun x8 =>
  Sts [.int .i64 x8] ⟨e_, 0, none⟩ 0 w1 fun w2 =>
  Pn t fun a_1 =>
  LdI .i64 (a_1.add 1) w2 fun x13 =>
  Pn t fun a_2 =>
  Sts [.int .i64 (IntKind.i64.wrap (x13 + (1 : Int)))] (a_2.add 1) 0 w2 fun w3 =>
  Pn t fun a_3 =>
  LdL a_3 w3.drew fun x21_b x21_l x21_c =>
  LdI .i64 ⟨e_, 0, none⟩ w3.drew fun x22_0 =>
  LdI .i64 ⟨e_, 1, none⟩ w3.drew fun x22_1 =>
  LdI .i64 ⟨e_, 2, none⟩ w3.drew fun x22_2 =>
  LdI .i64 ⟨e_, 3, none⟩ w3.drew fun x22_3 =>
  LdI .i64 ⟨e_, 4, none⟩ w3.drew fun x22_4 =>
  LdI .i64 ⟨e_, 5, none⟩ w3.drew fun x22_5 =>
  LdI .i64 ⟨e_, 6, none⟩ w3.drew fun x22_6 =>
  LdB ⟨e_, 7, none⟩ w3.drew fun x22_7 =>
  New (.cells #[.int .i64 x22_0, .int .i64 x22_1, .int .i64 x22_2, .int .i64 x22_3, .int .i64 x22_4, .int .i64 x22_5, .int .i64 x22_6, .bool x22_7, .int .i64 (0 : Int)] 63) w3.drew fun b24 w4 =>
  w4.cell? a_3 = some (.slice x21_b x21_l x21_c) ∧
  Append 63 (.agg #[.int .i64 (0 : Int), .int .i64 (0 : Int), .int .i64 (0 : Int), .int .i64 (0 : Int), .int .i64 (0 : Int), .int .i64 (0 : Int), .int .i64 (0 : Int), .bool false, .int .i64 (0 : Int)]) 9 72 x21_b x21_l x21_c (some ⟨b24, 0, none⟩) 1 w4 fun b25 c25 w5 =>
  Pn t fun a_4 =>
  Sts [.slice b25 (x21_l + 1) c25] a_4 0 w5 fun w6 =>
  LdI .i64 ⟨e_, 0, none⟩ w6 fun x29 =>
  R x29 w6
theorem sockm_Table_add.B0_eq (t : Option Addr) (e_0 e_1 e_2 e_3 e_4 e_5 e_6 : Int) (e_7 : Bool) (w : World)   (R : Int → World → Prop)  :
    (
  New (.cells #[.int .i64 e_0, .int .i64 e_1, .int .i64 e_2, .int .i64 e_3, .int .i64 e_4, .int .i64 e_5, .int .i64 e_6, .bool e_7] 40) w fun e_ w1 =>
  Pn t fun a =>
  LdI .i64 (a.add 1) w1 fun x8 =>
  Sts [.int .i64 x8] ⟨e_, 0, none⟩ 0 w1 fun w2 =>
  Pn t fun a_1 =>
  LdI .i64 (a_1.add 1) w2 fun x13 =>
  Pn t fun a_2 =>
  Sts [.int .i64 (IntKind.i64.wrap (x13 + (1 : Int)))] (a_2.add 1) 0 w2 fun w3 =>
  Pn t fun a_3 =>
  LdL a_3 w3.drew fun x21_b x21_l x21_c =>
  LdI .i64 ⟨e_, 0, none⟩ w3.drew fun x22_0 =>
  LdI .i64 ⟨e_, 1, none⟩ w3.drew fun x22_1 =>
  LdI .i64 ⟨e_, 2, none⟩ w3.drew fun x22_2 =>
  LdI .i64 ⟨e_, 3, none⟩ w3.drew fun x22_3 =>
  LdI .i64 ⟨e_, 4, none⟩ w3.drew fun x22_4 =>
  LdI .i64 ⟨e_, 5, none⟩ w3.drew fun x22_5 =>
  LdI .i64 ⟨e_, 6, none⟩ w3.drew fun x22_6 =>
  LdB ⟨e_, 7, none⟩ w3.drew fun x22_7 =>
  New (.cells #[.int .i64 x22_0, .int .i64 x22_1, .int .i64 x22_2, .int .i64 x22_3, .int .i64 x22_4, .int .i64 x22_5, .int .i64 x22_6, .bool x22_7, .int .i64 (0 : Int)] 63) w3.drew fun b24 w4 =>
  w4.cell? a_3 = some (.slice x21_b x21_l x21_c) ∧
  Append 63 (.agg #[.int .i64 (0 : Int), .int .i64 (0 : Int), .int .i64 (0 : Int), .int .i64 (0 : Int), .int .i64 (0 : Int), .int .i64 (0 : Int), .int .i64 (0 : Int), .bool false, .int .i64 (0 : Int)]) 9 72 x21_b x21_l x21_c (some ⟨b24, 0, none⟩) 1 w4 fun b25 c25 w5 =>
  Pn t fun a_4 =>
  Sts [.slice b25 (x21_l + 1) c25] a_4 0 w5 fun w6 =>
  LdI .i64 ⟨e_, 0, none⟩ w6 fun x29 =>
  R x29 w6) = kstep Try.prog 30 Try.f67.results.toList (Try.f67.body.getD .skip) (sockm_Table_add.RV R) (kvc Try.prog 30 Try.f67.results.toList (Try.f67.body.getD .skip) (sockm_Table_add.RV R) [] 2000) [(0, [])] [(0, .pointer t), (1, .agg #[.int .i64 e_0, .int .i64 e_1, .int .i64 e_2, .int .i64 e_3, .int .i64 e_4, .int .i64 e_5, .int .i64 e_6, .bool e_7])] w := by kernel_rfl
theorem sockm_Table_add.B0_sound {R : Int → World → Prop}  (t : Option Addr) (e_0 e_1 e_2 e_3 e_4 e_5 e_6 : Int) (e_7 : Bool) (w : World) (h : sockm_Table_add.B0 t e_0 e_1 e_2 e_3 e_4 e_5 e_6 e_7 w   R) :
    KW Try.prog 67 30 (sockm_Table_add.RV R) ([(0, [])].map (toItem (Try.f67.body.getD .skip))) [(0, .pointer t), (1, .agg #[.int .i64 e_0, .int .i64 e_1, .int .i64 e_2, .int .i64 e_3, .int .i64 e_4, .int .i64 e_5, .int .i64 e_6, .bool e_7])] w := by
  exact block_spec Try.func67 Try.mixed stops_nil (Eq.mp (sockm_Table_add.B0_eq t e_0 e_1 e_2 e_3 e_4 e_5 e_6 e_7 w   R ) h)
theorem sockm_Table_add.sound (t : Option Addr) (e_0 e_1 e_2 e_3 e_4 e_5 e_6 : Int) (e_7 : Bool) (w : World) (R : Int → World → Prop) (h : sockm_Table_add.B0 t e_0 e_1 e_2 e_3 e_4 e_5 e_6 e_7 w R) : sockm_Table_add.Call t e_0 e_1 e_2 e_3 e_4 e_5 e_6 e_7 w R := by
  have hc := calls_of_block (args := #[.pointer t, .agg #[.int .i64 e_0, .int .i64 e_1, .int .i64 e_2, .int .i64 e_3, .int .i64 e_4, .int .i64 e_5, .int .i64 e_6, .bool e_7]]) Try.func67 (body := (Try.f67.body.getD .skip)) (by kernel_rfl) (by kernel_rfl) (args_slot _) (sockm_Table_add.B0_sound t e_0 e_1 e_2 e_3 e_4 e_5 e_6 e_7 w h)
  exact hc.mono fun e w' he => by
    obtain ⟨v, rfl, hv⟩ := he
    exact sockm_Table_add.RV_elim hv
def sock_Table_lowBlock.L1b (t : Option Addr) (s : Int) (w : World)  (N1 : Option Addr → Int → World → Prop) (R : Int → World → Prop) : Prop :=
  Bm (decide (s < (4 : Int))) (
    Pn t fun a =>
    LdI .u8 (a.add 103) w.drew fun x11 =>
    sock_bitOf.Call s w.drew fun r13 w1 =>
    w1.cell? (a.add 103) = some (.int .u8 x11) ∧
    Bm ((IntKind.u8.wrap (BitVec.ofInt IntKind.u8.bits x11 &&& BitVec.ofInt IntKind.u8.bits r13).toNat) == (0 : Int)) (
      R s w1) (
      N1 t (IntKind.i64.wrap (s + (1 : Int))) w1)) (
    R (-1 : Int) w)
theorem sock_Table_lowBlock.L1b_eq (t : Option Addr) (s : Int) (w : World)  (N1 : Option Addr → Int → World → Prop) (R : Int → World → Prop)  :
    (
  Bm (decide (s < (4 : Int))) (
    Pn t fun a =>
    LdI .u8 (a.add 103) w.drew fun x11 =>
    sock_bitOf.Call s w.drew fun r13 w1 =>
    w1.cell? (a.add 103) = some (.int .u8 x11) ∧
    Bm ((IntKind.u8.wrap (BitVec.ofInt IntKind.u8.bits x11 &&& BitVec.ofInt IntKind.u8.bits r13).toNat) == (0 : Int)) (
      R s w1) (
      N1 t (IntKind.i64.wrap (s + (1 : Int))) w1)) (
    R (-1 : Int) w)) = kstep Try.prog 17 Try.f68.results.toList (Try.f68.body.getD .skip) (sock_Table_lowBlock.RV R) (kvc Try.prog 17 Try.f68.results.toList (Try.f68.body.getD .skip) (sock_Table_lowBlock.RV R) [([(0, [1, 0, 1, 0, 0]), (2, [1, 0, 1, 0, 0]), (1, [0]), (0, [1, 1])], fun σ w => dP (slotOf σ 0) fun t_ => dI .i64 (slotOf σ 3) fun s_ => N1 t_ s_ w)] 2000) [(0, [1, 0, 1, 0, 0]), (2, [1, 0, 1, 0, 0]), (1, [0]), (0, [1, 1])] [(0, .pointer t), (3, .int .i64 s)] w := by kernel_rfl
theorem sock_Table_lowBlock.L1b_sound {R : Int → World → Prop} {N1 : Option Addr → Int → World → Prop} (hN1 : ∀ t s w, N1 t s w → KW Try.prog 68 17 (sock_Table_lowBlock.RV R) ([(0, [1, 0, 1, 0, 0]), (2, [1, 0, 1, 0, 0]), (1, [0]), (0, [1, 1])].map (toItem (Try.f68.body.getD .skip))) [(0, .pointer t), (3, .int .i64 s)] w) (t : Option Addr) (s : Int) (w : World) (h : sock_Table_lowBlock.L1b t s w  N1 R) :
    KW Try.prog 68 17 (sock_Table_lowBlock.RV R) ([(0, [1, 0, 1, 0, 0]), (2, [1, 0, 1, 0, 0]), (1, [0]), (0, [1, 1])].map (toItem (Try.f68.body.getD .skip))) [(0, .pointer t), (3, .int .i64 s)] w := by
  exact block_spec Try.func68 Try.mixed (stops_cons (fun σ w h => by
      obtain ⟨t_, e0, h⟩ := dP_elim h
      obtain ⟨s_, e1, h⟩ := dI_elim h
      exact (hN1 t_ s_ w h).weaken (Sub.cons (Sub.cons (Sub.nil _) e1) e0)) stops_nil) (Eq.mp (sock_Table_lowBlock.L1b_eq t s w  N1 R ) h)
def sock_Table_lowBlock.L1 (t : Option Addr) (s : Int) (w : World)  (R : Int → World → Prop) : Prop :=
  ∃ (I : Nat → Option Addr → Int → World → Prop) (m : Nat), I m t s w ∧ ∀ m t s w, I m t s w → sock_Table_lowBlock.L1b t s w  (fun t' s' w' => ∃ m', m' < m ∧ I m' t' s' w') R
theorem sock_Table_lowBlock.L1_sound {R : Int → World → Prop}  (t : Option Addr) (s : Int) (w : World) (h : sock_Table_lowBlock.L1 t s w  R) :
    KW Try.prog 68 17 (sock_Table_lowBlock.RV R) ([(0, [1, 0, 1, 0, 0]), (2, [1, 0, 1, 0, 0]), (1, [0]), (0, [1, 1])].map (toItem (Try.f68.body.getD .skip))) [(0, .pointer t), (3, .int .i64 s)] w := by
  obtain ⟨I, m, hBase, hr⟩ := h
  refine KW.loop (fun m σ w => ∃ (t : Option Addr) (s : Int), σ = [(0, .pointer t), (3, .int .i64 s)] ∧ I m t s w) ?_ m _ w ⟨t, s, rfl, hBase⟩
  rintro m ih σ w ⟨t, s, rfl, hI⟩
  exact sock_Table_lowBlock.L1b_sound  (N1 := fun t' s' w' => ∃ m', m' < m ∧ I m' t' s' w') (fun t' s' w' hx => by obtain ⟨m', hlt, hI'⟩ := hx; exact ih m' hlt _ w' ⟨t', s', rfl, hI'⟩) t s w (hr m t s w hI)
def sock_Table_lowBlock.B0 (t : Option Addr) (w : World)   (R : Int → World → Prop) : Prop :=
  sock_Table_lowBlock.L1 t (0 : Int) w  R
theorem sock_Table_lowBlock.B0_eq (t : Option Addr) (w : World)   (R : Int → World → Prop) (sL1 : Option Addr → Int → World → Prop) :
    (
  sL1 t (0 : Int) w) = kstep Try.prog 17 Try.f68.results.toList (Try.f68.body.getD .skip) (sock_Table_lowBlock.RV R) (kvc Try.prog 17 Try.f68.results.toList (Try.f68.body.getD .skip) (sock_Table_lowBlock.RV R) [([(0, [1, 0, 1, 0, 0]), (2, [1, 0, 1, 0, 0]), (1, [0]), (0, [1, 1])], fun σ w => dP (slotOf σ 0) fun t_ => dI .i64 (slotOf σ 3) fun s_ => sL1 t_ s_ w)] 2000) [(0, [])] [(0, .pointer t)] w := by kernel_rfl
theorem sock_Table_lowBlock.B0_sound {R : Int → World → Prop}  (t : Option Addr) (w : World) (h : sock_Table_lowBlock.B0 t w   R) :
    KW Try.prog 68 17 (sock_Table_lowBlock.RV R) ([(0, [])].map (toItem (Try.f68.body.getD .skip))) [(0, .pointer t)] w := by
  exact block_spec Try.func68 Try.mixed (stops_cons (fun σ w h => by
      obtain ⟨t_, e0, h⟩ := dP_elim h
      obtain ⟨s_, e1, h⟩ := dI_elim h
      exact (sock_Table_lowBlock.L1_sound  t_ s_ w h).weaken (Sub.cons (Sub.cons (Sub.nil _) e1) e0)) stops_nil) (Eq.mp (sock_Table_lowBlock.B0_eq t w   R (fun t_ s_ w => sock_Table_lowBlock.L1 t_ s_ w  R)) h)
theorem sock_Table_lowBlock.sound (t : Option Addr) (w : World) (R : Int → World → Prop) (h : sock_Table_lowBlock.B0 t w R) : sock_Table_lowBlock.Call t w R := by
  have hc := calls_of_block (args := #[.pointer t]) Try.func68 (body := (Try.f68.body.getD .skip)) (by kernel_rfl) (by kernel_rfl) (args_slot _) (sock_Table_lowBlock.B0_sound t w h)
  exact hc.mono fun e w' he => by
    obtain ⟨v, rfl, hv⟩ := he
    exact sock_Table_lowBlock.RV_elim hv
def sock_nextEph.B0 (p : Int) (w : World)   (R : Int → World → Prop) : Prop :=
  Bm (decide (p ≥ (15 : Int))) (
    R (8 : Int) w) (
    R (IntKind.i64.wrap (p + (1 : Int))) w)
theorem sock_nextEph.B0_eq (p : Int) (w : World)   (R : Int → World → Prop)  :
    (
  Bm (decide (p ≥ (15 : Int))) (
    R (8 : Int) w) (
    R (IntKind.i64.wrap (p + (1 : Int))) w)) = kstep Try.prog 7 Try.f69.results.toList (Try.f69.body.getD .skip) (sock_nextEph.RV R) (kvc Try.prog 7 Try.f69.results.toList (Try.f69.body.getD .skip) (sock_nextEph.RV R) [] 2000) [(0, [])] [(0, .int .i64 p)] w := by kernel_rfl
theorem sock_nextEph.B0_sound {R : Int → World → Prop}  (p : Int) (w : World) (h : sock_nextEph.B0 p w   R) :
    KW Try.prog 69 7 (sock_nextEph.RV R) ([(0, [])].map (toItem (Try.f69.body.getD .skip))) [(0, .int .i64 p)] w := by
  exact block_spec Try.func69 Try.mixed stops_nil (Eq.mp (sock_nextEph.B0_eq p w   R ) h)
theorem sock_nextEph.sound (p : Int) (w : World) (R : Int → World → Prop) (h : sock_nextEph.B0 p w R) : sock_nextEph.Call p w R := by
  have hc := calls_of_block (args := #[.int .i64 p]) Try.func69 (body := (Try.f69.body.getD .skip)) (by kernel_rfl) (by kernel_rfl) (args_slot _) (sock_nextEph.B0_sound p w h)
  exact hc.mono fun e w' he => by
    obtain ⟨v, rfl, hv⟩ := he
    exact sock_nextEph.RV_elim hv
def sock_Table_conn.B0 (t : Option Addr) (lport rhost rport slot parent : Int) (w : World)   (R : Int → World → Prop) : Prop :=
  sock_Table_take.Call t w fun r16 w1 =>
  Bm (r16 == (-1 : Int)) (
    R (0 : Int) w1) (
    Pn t fun a =>
    LdI .i64 (a.add 105) w1 fun x22 =>
    Pn t fun a_1 =>
    LdI .i64 (a_1.add 105) w1 fun x26 =>
    Pn t fun a_2 =>
    Sts [.int .i64 (IntKind.i64.wrap (x26 + (1 : Int)))] (a_2.add 105) 0 w1 fun w2 =>
    Pn t fun a_3 =>
    (0 ≤ r16 ∧ r16 < ((6 : Nat) : Int)) ∧
    Sts [.int .i64 x22, .int .i64 (2 : Int), .int .i64 lport, .int .i64 rhost, .int .i64 rport, .int .i64 slot, .int .i64 parent, .bool false] ((Addr.add a_3 (r16.toNat * 15)).add 1) 0 w2 fun w3 =>
    Pn t fun a_4 =>
    LdI .u8 (a_4.add 103) w3.drew fun x46 =>
    sock_bitOf.Call slot w3.drew fun r48 w4 =>
    w4.cell? (a_4.add 103) = some (.int .u8 x46) ∧
    Pn t fun a_5 =>
    Sts [.int .u8 (IntKind.u8.wrap (BitVec.ofInt IntKind.u8.bits x46 ||| BitVec.ofInt IntKind.u8.bits r48).toNat)] (a_5.add 103) 0 w4 fun w5 =>
    sock_Table_link.Call t r16 w5 fun w6 =>
    R x22 w6)
theorem sock_Table_conn.B0_eq (t : Option Addr) (lport rhost rport slot parent : Int) (w : World)   (R : Int → World → Prop)  :
    (
  sock_Table_take.Call t w fun r16 w1 =>
  Bm (r16 == (-1 : Int)) (
    R (0 : Int) w1) (
    Pn t fun a =>
    LdI .i64 (a.add 105) w1 fun x22 =>
    Pn t fun a_1 =>
    LdI .i64 (a_1.add 105) w1 fun x26 =>
    Pn t fun a_2 =>
    Sts [.int .i64 (IntKind.i64.wrap (x26 + (1 : Int)))] (a_2.add 105) 0 w1 fun w2 =>
    Pn t fun a_3 =>
    (0 ≤ r16 ∧ r16 < ((6 : Nat) : Int)) ∧
    Sts [.int .i64 x22, .int .i64 (2 : Int), .int .i64 lport, .int .i64 rhost, .int .i64 rport, .int .i64 slot, .int .i64 parent, .bool false] ((Addr.add a_3 (r16.toNat * 15)).add 1) 0 w2 fun w3 =>
    Pn t fun a_4 =>
    LdI .u8 (a_4.add 103) w3.drew fun x46 =>
    sock_bitOf.Call slot w3.drew fun r48 w4 =>
    w4.cell? (a_4.add 103) = some (.int .u8 x46) ∧
    Pn t fun a_5 =>
    Sts [.int .u8 (IntKind.u8.wrap (BitVec.ofInt IntKind.u8.bits x46 ||| BitVec.ofInt IntKind.u8.bits r48).toNat)] (a_5.add 103) 0 w4 fun w5 =>
    sock_Table_link.Call t r16 w5 fun w6 =>
    R x22 w6)) = kstep Try.prog 56 Try.f70.results.toList (Try.f70.body.getD .skip) (sock_Table_conn.RV R) (kvc Try.prog 56 Try.f70.results.toList (Try.f70.body.getD .skip) (sock_Table_conn.RV R) [] 2000) [(0, [])] [(0, .pointer t), (1, .int .i64 lport), (2, .int .i64 rhost), (3, .int .i64 rport), (4, .int .i64 slot), (5, .int .i64 parent)] w := by kernel_rfl
theorem sock_Table_conn.B0_sound {R : Int → World → Prop}  (t : Option Addr) (lport rhost rport slot parent : Int) (w : World) (h : sock_Table_conn.B0 t lport rhost rport slot parent w   R) :
    KW Try.prog 70 56 (sock_Table_conn.RV R) ([(0, [])].map (toItem (Try.f70.body.getD .skip))) [(0, .pointer t), (1, .int .i64 lport), (2, .int .i64 rhost), (3, .int .i64 rport), (4, .int .i64 slot), (5, .int .i64 parent)] w := by
  exact block_spec Try.func70 Try.mixed stops_nil (Eq.mp (sock_Table_conn.B0_eq t lport rhost rport slot parent w   R ) h)
theorem sock_Table_conn.sound (t : Option Addr) (lport rhost rport slot parent : Int) (w : World) (R : Int → World → Prop) (h : sock_Table_conn.B0 t lport rhost rport slot parent w R) : sock_Table_conn.Call t lport rhost rport slot parent w R := by
  have hc := calls_of_block (args := #[.pointer t, .int .i64 lport, .int .i64 rhost, .int .i64 rport, .int .i64 slot, .int .i64 parent]) Try.func70 (body := (Try.f70.body.getD .skip)) (by kernel_rfl) (by kernel_rfl) (args_slot _) (sock_Table_conn.B0_sound t lport rhost rport slot parent w h)
  exact hc.mono fun e w' he => by
    obtain ⟨v, rfl, hv⟩ := he
    exact sock_Table_conn.RV_elim hv
def sockm_Table_freeSlot.B2 (t : Option Addr) (s : Int) (used : Bool) (i : Int) (w : World) (N1 : Option Addr → Int → World → Prop) (N2 : Option Addr → Int → Bool → Int → World → Prop)  (R : Int → World → Prop) : Prop :=
  N2 t s used (IntKind.i64.wrap (i + (1 : Int))) w
theorem sockm_Table_freeSlot.B2_eq (t : Option Addr) (s : Int) (used : Bool) (i : Int) (w : World) (N1 : Option Addr → Int → World → Prop) (N2 : Option Addr → Int → Bool → Int → World → Prop)  (R : Int → World → Prop)  :
    (
  N2 t s used (IntKind.i64.wrap (i + (1 : Int))) w) = kstep Try.prog 45 Try.f71.results.toList (Try.f71.body.getD .skip) (sockm_Table_freeSlot.RV R) (kvc Try.prog 45 Try.f71.results.toList (Try.f71.body.getD .skip) (sockm_Table_freeSlot.RV R) [([(0, [1, 0, 1, 0, 0, 1, 0, 0, 1, 0, 1, 0, 0]), (2, [1, 0, 1, 0, 0, 1, 0, 0, 1, 0, 1, 0, 0]), (1, [2]), (0, [1, 0, 1, 0, 0, 1, 0, 0, 1, 1]), (1, [1]), (0, [1, 0, 1, 0, 0, 1, 1]), (2, [1, 0, 1, 0, 0]), (1, [0]), (0, [1, 1])], fun σ w => dP (slotOf σ 0) fun t_ => dI .i64 (slotOf σ 3) fun s_ => dB (slotOf σ 4) fun used_ => dI .i64 (slotOf σ 5) fun i_ => N2 t_ s_ used_ i_ w)] 2000) [(0, [1, 0, 1, 0, 0, 1, 0, 0, 1, 0, 1, 0, 0, 1, 1]), (2, [1, 0, 1, 0, 0, 1, 0, 0, 1, 0, 1, 0, 0]), (1, [2]), (0, [1, 0, 1, 0, 0, 1, 0, 0, 1, 1]), (1, [1]), (0, [1, 0, 1, 0, 0, 1, 1]), (2, [1, 0, 1, 0, 0]), (1, [0]), (0, [1, 1])] [(0, .pointer t), (3, .int .i64 s), (4, .bool used), (5, .int .i64 i)] w := by kernel_rfl
theorem sockm_Table_freeSlot.B2_sound {R : Int → World → Prop} {N1 : Option Addr → Int → World → Prop} (hN1 : ∀ t s w, N1 t s w → KW Try.prog 71 45 (sockm_Table_freeSlot.RV R) ([(0, [1, 0, 1, 0, 0]), (2, [1, 0, 1, 0, 0]), (1, [0]), (0, [1, 1])].map (toItem (Try.f71.body.getD .skip))) [(0, .pointer t), (3, .int .i64 s)] w) {N2 : Option Addr → Int → Bool → Int → World → Prop} (hN2 : ∀ t s used i w, N2 t s used i w → KW Try.prog 71 45 (sockm_Table_freeSlot.RV R) ([(0, [1, 0, 1, 0, 0, 1, 0, 0, 1, 0, 1, 0, 0]), (2, [1, 0, 1, 0, 0, 1, 0, 0, 1, 0, 1, 0, 0]), (1, [2]), (0, [1, 0, 1, 0, 0, 1, 0, 0, 1, 1]), (1, [1]), (0, [1, 0, 1, 0, 0, 1, 1]), (2, [1, 0, 1, 0, 0]), (1, [0]), (0, [1, 1])].map (toItem (Try.f71.body.getD .skip))) [(0, .pointer t), (3, .int .i64 s), (4, .bool used), (5, .int .i64 i)] w) (t : Option Addr) (s : Int) (used : Bool) (i : Int) (w : World) (h : sockm_Table_freeSlot.B2 t s used i w N1 N2  R) :
    KW Try.prog 71 45 (sockm_Table_freeSlot.RV R) ([(0, [1, 0, 1, 0, 0, 1, 0, 0, 1, 0, 1, 0, 0, 1, 1]), (2, [1, 0, 1, 0, 0, 1, 0, 0, 1, 0, 1, 0, 0]), (1, [2]), (0, [1, 0, 1, 0, 0, 1, 0, 0, 1, 1]), (1, [1]), (0, [1, 0, 1, 0, 0, 1, 1]), (2, [1, 0, 1, 0, 0]), (1, [0]), (0, [1, 1])].map (toItem (Try.f71.body.getD .skip))) [(0, .pointer t), (3, .int .i64 s), (4, .bool used), (5, .int .i64 i)] w := by
  exact block_spec Try.func71 Try.mixed (stops_cons (fun σ w h => by
      obtain ⟨t_, e0, h⟩ := dP_elim h
      obtain ⟨s_, e1, h⟩ := dI_elim h
      obtain ⟨used_, e2, h⟩ := dB_elim h
      obtain ⟨i_, e3, h⟩ := dI_elim h
      exact (hN2 t_ s_ used_ i_ w h).weaken (Sub.cons (Sub.cons (Sub.cons (Sub.cons (Sub.nil _) e3) e2) e1) e0)) stops_nil) (Eq.mp (sockm_Table_freeSlot.B2_eq t s used i w N1 N2  R ) h)
def sockm_Table_freeSlot.B1 (t : Option Addr) (s : Int) (used : Bool) (i : Int) (t41 : Bool) (w : World) (N1 : Option Addr → Int → World → Prop) (N2 : Option Addr → Int → Bool → Int → World → Prop)  (R : Int → World → Prop) : Prop :=
  Bm t41 (
    sockm_Table_freeSlot.B2 t s true i w N1 N2 R) (
    sockm_Table_freeSlot.B2 t s used i w N1 N2 R)
theorem sockm_Table_freeSlot.B1_eq (t : Option Addr) (s : Int) (used : Bool) (i : Int) (t41 : Bool) (w : World) (N1 : Option Addr → Int → World → Prop) (N2 : Option Addr → Int → Bool → Int → World → Prop)  (R : Int → World → Prop) (sB2 : Option Addr → Int → Bool → Int → World → Prop) :
    (
  Bm t41 (
    sB2 t s true i w) (
    sB2 t s used i w)) = kstep Try.prog 45 Try.f71.results.toList (Try.f71.body.getD .skip) (sockm_Table_freeSlot.RV R) (kvc Try.prog 45 Try.f71.results.toList (Try.f71.body.getD .skip) (sockm_Table_freeSlot.RV R) [([(0, [1, 0, 1, 0, 0, 1, 0, 0, 1, 0, 1, 0, 0, 1, 1]), (2, [1, 0, 1, 0, 0, 1, 0, 0, 1, 0, 1, 0, 0]), (1, [2]), (0, [1, 0, 1, 0, 0, 1, 0, 0, 1, 1]), (1, [1]), (0, [1, 0, 1, 0, 0, 1, 1]), (2, [1, 0, 1, 0, 0]), (1, [0]), (0, [1, 1])], fun σ w => dP (slotOf σ 0) fun t_ => dI .i64 (slotOf σ 3) fun s_ => dB (slotOf σ 4) fun used_ => dI .i64 (slotOf σ 5) fun i_ => sB2 t_ s_ used_ i_ w)] 2000) [(0, [1, 0, 1, 0, 0, 1, 0, 0, 1, 0, 1, 0, 0, 1, 0, 0, 1]), (1, [3]), (0, [1, 0, 1, 0, 0, 1, 0, 0, 1, 0, 1, 0, 0, 1, 1]), (2, [1, 0, 1, 0, 0, 1, 0, 0, 1, 0, 1, 0, 0]), (1, [2]), (0, [1, 0, 1, 0, 0, 1, 0, 0, 1, 1]), (1, [1]), (0, [1, 0, 1, 0, 0, 1, 1]), (2, [1, 0, 1, 0, 0]), (1, [0]), (0, [1, 1])] [(0, .pointer t), (3, .int .i64 s), (4, .bool used), (5, .int .i64 i), (41, .bool t41)] w := by kernel_rfl
theorem sockm_Table_freeSlot.B1_sound {R : Int → World → Prop} {N1 : Option Addr → Int → World → Prop} (hN1 : ∀ t s w, N1 t s w → KW Try.prog 71 45 (sockm_Table_freeSlot.RV R) ([(0, [1, 0, 1, 0, 0]), (2, [1, 0, 1, 0, 0]), (1, [0]), (0, [1, 1])].map (toItem (Try.f71.body.getD .skip))) [(0, .pointer t), (3, .int .i64 s)] w) {N2 : Option Addr → Int → Bool → Int → World → Prop} (hN2 : ∀ t s used i w, N2 t s used i w → KW Try.prog 71 45 (sockm_Table_freeSlot.RV R) ([(0, [1, 0, 1, 0, 0, 1, 0, 0, 1, 0, 1, 0, 0]), (2, [1, 0, 1, 0, 0, 1, 0, 0, 1, 0, 1, 0, 0]), (1, [2]), (0, [1, 0, 1, 0, 0, 1, 0, 0, 1, 1]), (1, [1]), (0, [1, 0, 1, 0, 0, 1, 1]), (2, [1, 0, 1, 0, 0]), (1, [0]), (0, [1, 1])].map (toItem (Try.f71.body.getD .skip))) [(0, .pointer t), (3, .int .i64 s), (4, .bool used), (5, .int .i64 i)] w) (t : Option Addr) (s : Int) (used : Bool) (i : Int) (t41 : Bool) (w : World) (h : sockm_Table_freeSlot.B1 t s used i t41 w N1 N2  R) :
    KW Try.prog 71 45 (sockm_Table_freeSlot.RV R) ([(0, [1, 0, 1, 0, 0, 1, 0, 0, 1, 0, 1, 0, 0, 1, 0, 0, 1]), (1, [3]), (0, [1, 0, 1, 0, 0, 1, 0, 0, 1, 0, 1, 0, 0, 1, 1]), (2, [1, 0, 1, 0, 0, 1, 0, 0, 1, 0, 1, 0, 0]), (1, [2]), (0, [1, 0, 1, 0, 0, 1, 0, 0, 1, 1]), (1, [1]), (0, [1, 0, 1, 0, 0, 1, 1]), (2, [1, 0, 1, 0, 0]), (1, [0]), (0, [1, 1])].map (toItem (Try.f71.body.getD .skip))) [(0, .pointer t), (3, .int .i64 s), (4, .bool used), (5, .int .i64 i), (41, .bool t41)] w := by
  exact block_spec Try.func71 Try.mixed (stops_cons (fun σ w h => by
      obtain ⟨t_, e0, h⟩ := dP_elim h
      obtain ⟨s_, e1, h⟩ := dI_elim h
      obtain ⟨used_, e2, h⟩ := dB_elim h
      obtain ⟨i_, e3, h⟩ := dI_elim h
      exact (sockm_Table_freeSlot.B2_sound hN1 hN2 t_ s_ used_ i_ w h).weaken (Sub.cons (Sub.cons (Sub.cons (Sub.cons (Sub.nil _) e3) e2) e1) e0)) stops_nil) (Eq.mp (sockm_Table_freeSlot.B1_eq t s used i t41 w N1 N2  R (fun t_ s_ used_ i_ w => sockm_Table_freeSlot.B2 t_ s_ used_ i_ w N1 N2 R)) h)
def sockm_Table_freeSlot.L2b (t : Option Addr) (s : Int) (used : Bool) (i : Int) (w : World) (N1 : Option Addr → Int → World → Prop) (N2 : Option Addr → Int → Bool → Int → World → Prop) (R : Int → World → Prop) : Prop :=
  Pn t fun a =>
  LdL a w fun x14_b x14_l x14_c =>
  Bm (decide (i < ((x14_l : Nat) : Int))) (
    Pn t fun a_1 =>
    LdL a_1 w fun x22_b x22_l x22_c =>
    Pn x22_b fun a_2 =>
    (0 ≤ i ∧ i < ((x22_l : Nat) : Int)) ∧
    LdI .i64 ((Addr.add a_2 (i.toNat * 9)).add 1) w fun x27 =>
    Bm (x27 == (2 : Int)) (
      Pn t fun a_3 =>
      LdL a_3 w fun x33_b x33_l x33_c =>
      Pn x33_b fun a_4 =>
      (0 ≤ i ∧ i < ((x33_l : Nat) : Int)) ∧
      LdI .i64 ((Addr.add a_4 (i.toNat * 9)).add 5) w fun x38 =>
      sockm_Table_freeSlot.B1 t s used i (x38 == s) w N1 N2 R) (
      sockm_Table_freeSlot.B1 t s used i false w N1 N2 R)) (
    Bm (!used) (
      R s w) (
      N1 t (IntKind.i64.wrap (s + (1 : Int))) w))
theorem sockm_Table_freeSlot.L2b_eq (t : Option Addr) (s : Int) (used : Bool) (i : Int) (w : World) (N1 : Option Addr → Int → World → Prop) (N2 : Option Addr → Int → Bool → Int → World → Prop) (R : Int → World → Prop) (sB1 : Option Addr → Int → Bool → Int → Bool → World → Prop) :
    (
  Pn t fun a =>
  LdL a w fun x14_b x14_l x14_c =>
  Bm (decide (i < ((x14_l : Nat) : Int))) (
    Pn t fun a_1 =>
    LdL a_1 w fun x22_b x22_l x22_c =>
    Pn x22_b fun a_2 =>
    (0 ≤ i ∧ i < ((x22_l : Nat) : Int)) ∧
    LdI .i64 ((Addr.add a_2 (i.toNat * 9)).add 1) w fun x27 =>
    Bm (x27 == (2 : Int)) (
      Pn t fun a_3 =>
      LdL a_3 w fun x33_b x33_l x33_c =>
      Pn x33_b fun a_4 =>
      (0 ≤ i ∧ i < ((x33_l : Nat) : Int)) ∧
      LdI .i64 ((Addr.add a_4 (i.toNat * 9)).add 5) w fun x38 =>
      sB1 t s used i (x38 == s) w) (
      sB1 t s used i false w)) (
    Bm (!used) (
      R s w) (
      N1 t (IntKind.i64.wrap (s + (1 : Int))) w))) = kstep Try.prog 45 Try.f71.results.toList (Try.f71.body.getD .skip) (sockm_Table_freeSlot.RV R) (kvc Try.prog 45 Try.f71.results.toList (Try.f71.body.getD .skip) (sockm_Table_freeSlot.RV R) [([(0, [1, 0, 1, 0, 0, 1, 0, 0, 1, 0, 1, 0, 0, 1, 0, 0, 1]), (1, [3]), (0, [1, 0, 1, 0, 0, 1, 0, 0, 1, 0, 1, 0, 0, 1, 1]), (2, [1, 0, 1, 0, 0, 1, 0, 0, 1, 0, 1, 0, 0]), (1, [2]), (0, [1, 0, 1, 0, 0, 1, 0, 0, 1, 1]), (1, [1]), (0, [1, 0, 1, 0, 0, 1, 1]), (2, [1, 0, 1, 0, 0]), (1, [0]), (0, [1, 1])], fun σ w => dP (slotOf σ 0) fun t_ => dI .i64 (slotOf σ 3) fun s_ => dB (slotOf σ 4) fun used_ => dI .i64 (slotOf σ 5) fun i_ => dB (slotOf σ 41) fun t41_ => sB1 t_ s_ used_ i_ t41_ w),
    ([(0, [1, 0, 1, 0, 0]), (2, [1, 0, 1, 0, 0]), (1, [0]), (0, [1, 1])], fun σ w => dP (slotOf σ 0) fun t_ => dI .i64 (slotOf σ 3) fun s_ => N1 t_ s_ w)] 2000) [(0, [1, 0, 1, 0, 0, 1, 0, 0, 1, 0, 1, 0, 0]), (2, [1, 0, 1, 0, 0, 1, 0, 0, 1, 0, 1, 0, 0]), (1, [2]), (0, [1, 0, 1, 0, 0, 1, 0, 0, 1, 1]), (1, [1]), (0, [1, 0, 1, 0, 0, 1, 1]), (2, [1, 0, 1, 0, 0]), (1, [0]), (0, [1, 1])] [(0, .pointer t), (3, .int .i64 s), (4, .bool used), (5, .int .i64 i)] w := by kernel_rfl
theorem sockm_Table_freeSlot.L2b_sound {R : Int → World → Prop} {N1 : Option Addr → Int → World → Prop} (hN1 : ∀ t s w, N1 t s w → KW Try.prog 71 45 (sockm_Table_freeSlot.RV R) ([(0, [1, 0, 1, 0, 0]), (2, [1, 0, 1, 0, 0]), (1, [0]), (0, [1, 1])].map (toItem (Try.f71.body.getD .skip))) [(0, .pointer t), (3, .int .i64 s)] w) {N2 : Option Addr → Int → Bool → Int → World → Prop} (hN2 : ∀ t s used i w, N2 t s used i w → KW Try.prog 71 45 (sockm_Table_freeSlot.RV R) ([(0, [1, 0, 1, 0, 0, 1, 0, 0, 1, 0, 1, 0, 0]), (2, [1, 0, 1, 0, 0, 1, 0, 0, 1, 0, 1, 0, 0]), (1, [2]), (0, [1, 0, 1, 0, 0, 1, 0, 0, 1, 1]), (1, [1]), (0, [1, 0, 1, 0, 0, 1, 1]), (2, [1, 0, 1, 0, 0]), (1, [0]), (0, [1, 1])].map (toItem (Try.f71.body.getD .skip))) [(0, .pointer t), (3, .int .i64 s), (4, .bool used), (5, .int .i64 i)] w) (t : Option Addr) (s : Int) (used : Bool) (i : Int) (w : World) (h : sockm_Table_freeSlot.L2b t s used i w N1 N2 R) :
    KW Try.prog 71 45 (sockm_Table_freeSlot.RV R) ([(0, [1, 0, 1, 0, 0, 1, 0, 0, 1, 0, 1, 0, 0]), (2, [1, 0, 1, 0, 0, 1, 0, 0, 1, 0, 1, 0, 0]), (1, [2]), (0, [1, 0, 1, 0, 0, 1, 0, 0, 1, 1]), (1, [1]), (0, [1, 0, 1, 0, 0, 1, 1]), (2, [1, 0, 1, 0, 0]), (1, [0]), (0, [1, 1])].map (toItem (Try.f71.body.getD .skip))) [(0, .pointer t), (3, .int .i64 s), (4, .bool used), (5, .int .i64 i)] w := by
  exact block_spec Try.func71 Try.mixed (stops_cons (fun σ w h => by
      obtain ⟨t_, e0, h⟩ := dP_elim h
      obtain ⟨s_, e1, h⟩ := dI_elim h
      obtain ⟨used_, e2, h⟩ := dB_elim h
      obtain ⟨i_, e3, h⟩ := dI_elim h
      obtain ⟨t41_, e4, h⟩ := dB_elim h
      exact (sockm_Table_freeSlot.B1_sound hN1 hN2 t_ s_ used_ i_ t41_ w h).weaken (Sub.cons (Sub.cons (Sub.cons (Sub.cons (Sub.cons (Sub.nil _) e4) e3) e2) e1) e0)) (stops_cons (fun σ w h => by
      obtain ⟨t_, e0, h⟩ := dP_elim h
      obtain ⟨s_, e1, h⟩ := dI_elim h
      exact (hN1 t_ s_ w h).weaken (Sub.cons (Sub.cons (Sub.nil _) e1) e0)) stops_nil)) (Eq.mp (sockm_Table_freeSlot.L2b_eq t s used i w N1 N2 R (fun t_ s_ used_ i_ t41_ w => sockm_Table_freeSlot.B1 t_ s_ used_ i_ t41_ w N1 N2 R)) h)
def sockm_Table_freeSlot.L2 (t : Option Addr) (s : Int) (used : Bool) (i : Int) (w : World) (N1 : Option Addr → Int → World → Prop) (R : Int → World → Prop) : Prop :=
  ∃ (I : Nat → Option Addr → Int → Bool → Int → World → Prop) (m : Nat), I m t s used i w ∧ ∀ m t s used i w, I m t s used i w → sockm_Table_freeSlot.L2b t s used i w N1 (fun t' s' used' i' w' => ∃ m', m' < m ∧ I m' t' s' used' i' w') R
theorem sockm_Table_freeSlot.L2_sound {R : Int → World → Prop} {N1 : Option Addr → Int → World → Prop} (hN1 : ∀ t s w, N1 t s w → KW Try.prog 71 45 (sockm_Table_freeSlot.RV R) ([(0, [1, 0, 1, 0, 0]), (2, [1, 0, 1, 0, 0]), (1, [0]), (0, [1, 1])].map (toItem (Try.f71.body.getD .skip))) [(0, .pointer t), (3, .int .i64 s)] w) (t : Option Addr) (s : Int) (used : Bool) (i : Int) (w : World) (h : sockm_Table_freeSlot.L2 t s used i w N1 R) :
    KW Try.prog 71 45 (sockm_Table_freeSlot.RV R) ([(0, [1, 0, 1, 0, 0, 1, 0, 0, 1, 0, 1, 0, 0]), (2, [1, 0, 1, 0, 0, 1, 0, 0, 1, 0, 1, 0, 0]), (1, [2]), (0, [1, 0, 1, 0, 0, 1, 0, 0, 1, 1]), (1, [1]), (0, [1, 0, 1, 0, 0, 1, 1]), (2, [1, 0, 1, 0, 0]), (1, [0]), (0, [1, 1])].map (toItem (Try.f71.body.getD .skip))) [(0, .pointer t), (3, .int .i64 s), (4, .bool used), (5, .int .i64 i)] w := by
  obtain ⟨I, m, hBase, hr⟩ := h
  refine KW.loop (fun m σ w => ∃ (t : Option Addr) (s : Int) (used : Bool) (i : Int), σ = [(0, .pointer t), (3, .int .i64 s), (4, .bool used), (5, .int .i64 i)] ∧ I m t s used i w) ?_ m _ w ⟨t, s, used, i, rfl, hBase⟩
  rintro m ih σ w ⟨t, s, used, i, rfl, hI⟩
  exact sockm_Table_freeSlot.L2b_sound hN1 (N2 := fun t' s' used' i' w' => ∃ m', m' < m ∧ I m' t' s' used' i' w') (fun t' s' used' i' w' hx => by obtain ⟨m', hlt, hI'⟩ := hx; exact ih m' hlt _ w' ⟨t', s', used', i', rfl, hI'⟩) t s used i w (hr m t s used i w hI)
def sockm_Table_freeSlot.L1b (t : Option Addr) (s : Int) (w : World)  (N1 : Option Addr → Int → World → Prop) (R : Int → World → Prop) : Prop :=
  Bm (decide (s < (4 : Int))) (
    sockm_Table_freeSlot.L2 t s false (0 : Int) w N1 R) (
    R (-1 : Int) w)
theorem sockm_Table_freeSlot.L1b_eq (t : Option Addr) (s : Int) (w : World)  (N1 : Option Addr → Int → World → Prop) (R : Int → World → Prop) (sL2 : Option Addr → Int → Bool → Int → World → Prop) :
    (
  Bm (decide (s < (4 : Int))) (
    sL2 t s false (0 : Int) w) (
    R (-1 : Int) w)) = kstep Try.prog 45 Try.f71.results.toList (Try.f71.body.getD .skip) (sockm_Table_freeSlot.RV R) (kvc Try.prog 45 Try.f71.results.toList (Try.f71.body.getD .skip) (sockm_Table_freeSlot.RV R) [([(0, [1, 0, 1, 0, 0, 1, 0, 0, 1, 0, 1, 0, 0]), (2, [1, 0, 1, 0, 0, 1, 0, 0, 1, 0, 1, 0, 0]), (1, [2]), (0, [1, 0, 1, 0, 0, 1, 0, 0, 1, 1]), (1, [1]), (0, [1, 0, 1, 0, 0, 1, 1]), (2, [1, 0, 1, 0, 0]), (1, [0]), (0, [1, 1])], fun σ w => dP (slotOf σ 0) fun t_ => dI .i64 (slotOf σ 3) fun s_ => dB (slotOf σ 4) fun used_ => dI .i64 (slotOf σ 5) fun i_ => sL2 t_ s_ used_ i_ w)] 2000) [(0, [1, 0, 1, 0, 0]), (2, [1, 0, 1, 0, 0]), (1, [0]), (0, [1, 1])] [(0, .pointer t), (3, .int .i64 s)] w := by kernel_rfl
theorem sockm_Table_freeSlot.L1b_sound {R : Int → World → Prop} {N1 : Option Addr → Int → World → Prop} (hN1 : ∀ t s w, N1 t s w → KW Try.prog 71 45 (sockm_Table_freeSlot.RV R) ([(0, [1, 0, 1, 0, 0]), (2, [1, 0, 1, 0, 0]), (1, [0]), (0, [1, 1])].map (toItem (Try.f71.body.getD .skip))) [(0, .pointer t), (3, .int .i64 s)] w) (t : Option Addr) (s : Int) (w : World) (h : sockm_Table_freeSlot.L1b t s w  N1 R) :
    KW Try.prog 71 45 (sockm_Table_freeSlot.RV R) ([(0, [1, 0, 1, 0, 0]), (2, [1, 0, 1, 0, 0]), (1, [0]), (0, [1, 1])].map (toItem (Try.f71.body.getD .skip))) [(0, .pointer t), (3, .int .i64 s)] w := by
  exact block_spec Try.func71 Try.mixed (stops_cons (fun σ w h => by
      obtain ⟨t_, e0, h⟩ := dP_elim h
      obtain ⟨s_, e1, h⟩ := dI_elim h
      obtain ⟨used_, e2, h⟩ := dB_elim h
      obtain ⟨i_, e3, h⟩ := dI_elim h
      exact (sockm_Table_freeSlot.L2_sound hN1 t_ s_ used_ i_ w h).weaken (Sub.cons (Sub.cons (Sub.cons (Sub.cons (Sub.nil _) e3) e2) e1) e0)) stops_nil) (Eq.mp (sockm_Table_freeSlot.L1b_eq t s w  N1 R (fun t_ s_ used_ i_ w => sockm_Table_freeSlot.L2 t_ s_ used_ i_ w N1 R)) h)
def sockm_Table_freeSlot.L1 (t : Option Addr) (s : Int) (w : World)  (R : Int → World → Prop) : Prop :=
  ∃ (I : Nat → Option Addr → Int → World → Prop) (m : Nat), I m t s w ∧ ∀ m t s w, I m t s w → sockm_Table_freeSlot.L1b t s w  (fun t' s' w' => ∃ m', m' < m ∧ I m' t' s' w') R
theorem sockm_Table_freeSlot.L1_sound {R : Int → World → Prop}  (t : Option Addr) (s : Int) (w : World) (h : sockm_Table_freeSlot.L1 t s w  R) :
    KW Try.prog 71 45 (sockm_Table_freeSlot.RV R) ([(0, [1, 0, 1, 0, 0]), (2, [1, 0, 1, 0, 0]), (1, [0]), (0, [1, 1])].map (toItem (Try.f71.body.getD .skip))) [(0, .pointer t), (3, .int .i64 s)] w := by
  obtain ⟨I, m, hBase, hr⟩ := h
  refine KW.loop (fun m σ w => ∃ (t : Option Addr) (s : Int), σ = [(0, .pointer t), (3, .int .i64 s)] ∧ I m t s w) ?_ m _ w ⟨t, s, rfl, hBase⟩
  rintro m ih σ w ⟨t, s, rfl, hI⟩
  exact sockm_Table_freeSlot.L1b_sound  (N1 := fun t' s' w' => ∃ m', m' < m ∧ I m' t' s' w') (fun t' s' w' hx => by obtain ⟨m', hlt, hI'⟩ := hx; exact ih m' hlt _ w' ⟨t', s', rfl, hI'⟩) t s w (hr m t s w hI)
def sockm_Table_freeSlot.B0 (t : Option Addr) (w : World)   (R : Int → World → Prop) : Prop :=
  sockm_Table_freeSlot.L1 t (0 : Int) w  R
theorem sockm_Table_freeSlot.B0_eq (t : Option Addr) (w : World)   (R : Int → World → Prop) (sL1 : Option Addr → Int → World → Prop) :
    (
  sL1 t (0 : Int) w) = kstep Try.prog 45 Try.f71.results.toList (Try.f71.body.getD .skip) (sockm_Table_freeSlot.RV R) (kvc Try.prog 45 Try.f71.results.toList (Try.f71.body.getD .skip) (sockm_Table_freeSlot.RV R) [([(0, [1, 0, 1, 0, 0]), (2, [1, 0, 1, 0, 0]), (1, [0]), (0, [1, 1])], fun σ w => dP (slotOf σ 0) fun t_ => dI .i64 (slotOf σ 3) fun s_ => sL1 t_ s_ w)] 2000) [(0, [])] [(0, .pointer t)] w := by kernel_rfl
theorem sockm_Table_freeSlot.B0_sound {R : Int → World → Prop}  (t : Option Addr) (w : World) (h : sockm_Table_freeSlot.B0 t w   R) :
    KW Try.prog 71 45 (sockm_Table_freeSlot.RV R) ([(0, [])].map (toItem (Try.f71.body.getD .skip))) [(0, .pointer t)] w := by
  exact block_spec Try.func71 Try.mixed (stops_cons (fun σ w h => by
      obtain ⟨t_, e0, h⟩ := dP_elim h
      obtain ⟨s_, e1, h⟩ := dI_elim h
      exact (sockm_Table_freeSlot.L1_sound  t_ s_ w h).weaken (Sub.cons (Sub.cons (Sub.nil _) e1) e0)) stops_nil) (Eq.mp (sockm_Table_freeSlot.B0_eq t w   R (fun t_ s_ w => sockm_Table_freeSlot.L1 t_ s_ w  R)) h)
theorem sockm_Table_freeSlot.sound (t : Option Addr) (w : World) (R : Int → World → Prop) (h : sockm_Table_freeSlot.B0 t w R) : sockm_Table_freeSlot.Call t w R := by
  have hc := calls_of_block (args := #[.pointer t]) Try.func71 (body := (Try.f71.body.getD .skip)) (by kernel_rfl) (by kernel_rfl) (args_slot _) (sockm_Table_freeSlot.B0_sound t w h)
  exact hc.mono fun e w' he => by
    obtain ⟨v, rfl, hv⟩ := he
    exact sockm_Table_freeSlot.RV_elim hv
def sockm_nextEph.B0 (p : Int) (w : World)   (R : Int → World → Prop) : Prop :=
  Bm (decide (p ≥ (15 : Int))) (
    R (8 : Int) w) (
    R (IntKind.i64.wrap (p + (1 : Int))) w)
theorem sockm_nextEph.B0_eq (p : Int) (w : World)   (R : Int → World → Prop)  :
    (
  Bm (decide (p ≥ (15 : Int))) (
    R (8 : Int) w) (
    R (IntKind.i64.wrap (p + (1 : Int))) w)) = kstep Try.prog 7 Try.f72.results.toList (Try.f72.body.getD .skip) (sockm_nextEph.RV R) (kvc Try.prog 7 Try.f72.results.toList (Try.f72.body.getD .skip) (sockm_nextEph.RV R) [] 2000) [(0, [])] [(0, .int .i64 p)] w := by kernel_rfl
theorem sockm_nextEph.B0_sound {R : Int → World → Prop}  (p : Int) (w : World) (h : sockm_nextEph.B0 p w   R) :
    KW Try.prog 72 7 (sockm_nextEph.RV R) ([(0, [])].map (toItem (Try.f72.body.getD .skip))) [(0, .int .i64 p)] w := by
  exact block_spec Try.func72 Try.mixed stops_nil (Eq.mp (sockm_nextEph.B0_eq p w   R ) h)
theorem sockm_nextEph.sound (p : Int) (w : World) (R : Int → World → Prop) (h : sockm_nextEph.B0 p w R) : sockm_nextEph.Call p w R := by
  have hc := calls_of_block (args := #[.int .i64 p]) Try.func72 (body := (Try.f72.body.getD .skip)) (by kernel_rfl) (by kernel_rfl) (args_slot _) (sockm_nextEph.B0_sound p w h)
  exact hc.mono fun e w' he => by
    obtain ⟨v, rfl, hv⟩ := he
    exact sockm_nextEph.RV_elim hv
def sock_Table_enqueue.B0 (t : Option Addr) (l sd : Int) (w : World)   (R : World → Prop) : Prop :=
  Pn t fun a =>
  (0 ≤ l ∧ l < ((6 : Nat) : Int)) ∧
  LdI .i64 ((Addr.add a (l.toNat * 15)).add 13) w.drew fun x13 =>
  Pn t fun a_1 =>
  (0 ≤ l ∧ l < ((6 : Nat) : Int)) ∧
  LdI .i64 ((Addr.add a_1 (l.toNat * 15)).add 14) w.drew fun x20 =>
  sock_wrap.Call (IntKind.i64.wrap (x13 + x20)) w.drew fun r22 w1 =>
  Pn t fun a_2 =>
  (0 ≤ l ∧ l < ((6 : Nat) : Int)) ∧
  (0 ≤ r22 ∧ r22 < ((2 : Nat) : Int)) ∧
  Sts [.int .i64 sd] (Addr.add ((Addr.add a_2 (l.toNat * 15)).add 11) (r22.toNat * 1)) 0 w1 fun w2 =>
  Pn t fun a_3 =>
  (0 ≤ l ∧ l < ((6 : Nat) : Int)) ∧
  LdI .i64 ((Addr.add a_3 (l.toNat * 15)).add 14) w2.drew fun x38 =>
  Pn t fun a_4 =>
  (0 ≤ l ∧ l < ((6 : Nat) : Int)) ∧
  Sts [.int .i64 (IntKind.i64.wrap (x38 + (1 : Int)))] ((Addr.add a_4 (l.toNat * 15)).add 14) 0 w2.drew fun w3 =>
  R  w3
theorem sock_Table_enqueue.B0_eq (t : Option Addr) (l sd : Int) (w : World)   (R : World → Prop)  :
    (
  Pn t fun a =>
  (0 ≤ l ∧ l < ((6 : Nat) : Int)) ∧
  LdI .i64 ((Addr.add a (l.toNat * 15)).add 13) w.drew fun x13 =>
  Pn t fun a_1 =>
  (0 ≤ l ∧ l < ((6 : Nat) : Int)) ∧
  LdI .i64 ((Addr.add a_1 (l.toNat * 15)).add 14) w.drew fun x20 =>
  sock_wrap.Call (IntKind.i64.wrap (x13 + x20)) w.drew fun r22 w1 =>
  Pn t fun a_2 =>
  (0 ≤ l ∧ l < ((6 : Nat) : Int)) ∧
  (0 ≤ r22 ∧ r22 < ((2 : Nat) : Int)) ∧
  Sts [.int .i64 sd] (Addr.add ((Addr.add a_2 (l.toNat * 15)).add 11) (r22.toNat * 1)) 0 w1 fun w2 =>
  Pn t fun a_3 =>
  (0 ≤ l ∧ l < ((6 : Nat) : Int)) ∧
  LdI .i64 ((Addr.add a_3 (l.toNat * 15)).add 14) w2.drew fun x38 =>
  Pn t fun a_4 =>
  (0 ≤ l ∧ l < ((6 : Nat) : Int)) ∧
  Sts [.int .i64 (IntKind.i64.wrap (x38 + (1 : Int)))] ((Addr.add a_4 (l.toNat * 15)).add 14) 0 w2.drew fun w3 =>
  R  w3) = kstep Try.prog 44 Try.f73.results.toList (Try.f73.body.getD .skip) (sock_Table_enqueue.RV R) (kvc Try.prog 44 Try.f73.results.toList (Try.f73.body.getD .skip) (sock_Table_enqueue.RV R) [] 2000) [(0, [])] [(0, .pointer t), (1, .int .i64 l), (2, .int .i64 sd)] w := by kernel_rfl
theorem sock_Table_enqueue.B0_sound {R : World → Prop}  (t : Option Addr) (l sd : Int) (w : World) (h : sock_Table_enqueue.B0 t l sd w   R) :
    KW Try.prog 73 44 (sock_Table_enqueue.RV R) ([(0, [])].map (toItem (Try.f73.body.getD .skip))) [(0, .pointer t), (1, .int .i64 l), (2, .int .i64 sd)] w := by
  exact block_spec Try.func73 Try.mixed stops_nil (Eq.mp (sock_Table_enqueue.B0_eq t l sd w   R ) h)
theorem sock_Table_enqueue.sound (t : Option Addr) (l sd : Int) (w : World) (R : World → Prop) (h : sock_Table_enqueue.B0 t l sd w R) : sock_Table_enqueue.Call t l sd w R := by
  have hc := calls_of_block (args := #[.pointer t, .int .i64 l, .int .i64 sd]) Try.func73 (body := (Try.f73.body.getD .skip)) (by kernel_rfl) (by kernel_rfl) (args_slot _) (sock_Table_enqueue.B0_sound t l sd w h)
  exact hc.mono fun e w' he => by
    obtain ⟨v, rfl, hv⟩ := he
    exact sock_Table_enqueue.RV_elim hv
def sock_Table_dequeue.B0 (t : Option Addr) (l : Int) (w : World)   (R : Int → World → Prop) : Prop :=
  Pn t fun a =>
  (0 ≤ l ∧ l < ((6 : Nat) : Int)) ∧
  LdI .i64 ((Addr.add a (l.toNat * 15)).add 13) w fun x13 =>
  Pn t fun a_1 =>
  (0 ≤ l ∧ l < ((6 : Nat) : Int)) ∧
  (0 ≤ x13 ∧ x13 < ((2 : Nat) : Int)) ∧
  LdI .i64 (Addr.add ((Addr.add a_1 (l.toNat * 15)).add 11) (x13.toNat * 1)) w fun x22 =>
  Pn t fun a_2 =>
  sock_wrap.Call (IntKind.i64.wrap (x13 + (1 : Int))) w.drew fun r27 w1 =>
  (0 ≤ l ∧ l < ((6 : Nat) : Int)) ∧
  Sts [.int .i64 r27] ((Addr.add a_2 (l.toNat * 15)).add 13) 0 w1 fun w2 =>
  Pn t fun a_3 =>
  (0 ≤ l ∧ l < ((6 : Nat) : Int)) ∧
  LdI .i64 ((Addr.add a_3 (l.toNat * 15)).add 14) w2.drew fun x38 =>
  Pn t fun a_4 =>
  (0 ≤ l ∧ l < ((6 : Nat) : Int)) ∧
  Sts [.int .i64 (IntKind.i64.wrap (x38 - (1 : Int)))] ((Addr.add a_4 (l.toNat * 15)).add 14) 0 w2.drew fun w3 =>
  R x22 w3
theorem sock_Table_dequeue.B0_eq (t : Option Addr) (l : Int) (w : World)   (R : Int → World → Prop)  :
    (
  Pn t fun a =>
  (0 ≤ l ∧ l < ((6 : Nat) : Int)) ∧
  LdI .i64 ((Addr.add a (l.toNat * 15)).add 13) w fun x13 =>
  Pn t fun a_1 =>
  (0 ≤ l ∧ l < ((6 : Nat) : Int)) ∧
  (0 ≤ x13 ∧ x13 < ((2 : Nat) : Int)) ∧
  LdI .i64 (Addr.add ((Addr.add a_1 (l.toNat * 15)).add 11) (x13.toNat * 1)) w fun x22 =>
  Pn t fun a_2 =>
  sock_wrap.Call (IntKind.i64.wrap (x13 + (1 : Int))) w.drew fun r27 w1 =>
  (0 ≤ l ∧ l < ((6 : Nat) : Int)) ∧
  Sts [.int .i64 r27] ((Addr.add a_2 (l.toNat * 15)).add 13) 0 w1 fun w2 =>
  Pn t fun a_3 =>
  (0 ≤ l ∧ l < ((6 : Nat) : Int)) ∧
  LdI .i64 ((Addr.add a_3 (l.toNat * 15)).add 14) w2.drew fun x38 =>
  Pn t fun a_4 =>
  (0 ≤ l ∧ l < ((6 : Nat) : Int)) ∧
  Sts [.int .i64 (IntKind.i64.wrap (x38 - (1 : Int)))] ((Addr.add a_4 (l.toNat * 15)).add 14) 0 w2.drew fun w3 =>
  R x22 w3) = kstep Try.prog 45 Try.f74.results.toList (Try.f74.body.getD .skip) (sock_Table_dequeue.RV R) (kvc Try.prog 45 Try.f74.results.toList (Try.f74.body.getD .skip) (sock_Table_dequeue.RV R) [] 2000) [(0, [])] [(0, .pointer t), (1, .int .i64 l)] w := by kernel_rfl
theorem sock_Table_dequeue.B0_sound {R : Int → World → Prop}  (t : Option Addr) (l : Int) (w : World) (h : sock_Table_dequeue.B0 t l w   R) :
    KW Try.prog 74 45 (sock_Table_dequeue.RV R) ([(0, [])].map (toItem (Try.f74.body.getD .skip))) [(0, .pointer t), (1, .int .i64 l)] w := by
  exact block_spec Try.func74 Try.mixed stops_nil (Eq.mp (sock_Table_dequeue.B0_eq t l w   R ) h)
theorem sock_Table_dequeue.sound (t : Option Addr) (l : Int) (w : World) (R : Int → World → Prop) (h : sock_Table_dequeue.B0 t l w R) : sock_Table_dequeue.Call t l w R := by
  have hc := calls_of_block (args := #[.pointer t, .int .i64 l]) Try.func74 (body := (Try.f74.body.getD .skip)) (by kernel_rfl) (by kernel_rfl) (args_slot _) (sock_Table_dequeue.B0_sound t l w h)
  exact hc.mono fun e w' he => by
    obtain ⟨v, rfl, hv⟩ := he
    exact sock_Table_dequeue.RV_elim hv
def sock_Table_unlink.B1 (t : Option Addr) (i j n : Int) (t58 : Bool) (w : World) (N1 : Option Addr → Int → Int → Int → World → Prop)  (R : World → Prop) : Prop :=
  Bm t58 (
    Pn t fun a =>
    (0 ≤ j ∧ j < ((6 : Nat) : Int)) ∧
    LdI .i64 ((Addr.add a (j.toNat * 15)).add 9) w fun x67 =>
    Bm (x67 == i) (
      Pn t fun a_1 =>
      (0 ≤ i ∧ i < ((6 : Nat) : Int)) ∧
      LdI .i64 ((Addr.add a_1 (i.toNat * 15)).add 9) w.drew fun x78 =>
      Pn t fun a_2 =>
      (0 ≤ j ∧ j < ((6 : Nat) : Int)) ∧
      Sts [.int .i64 x78] ((Addr.add a_2 (j.toNat * 15)).add 9) 0 w.drew fun w1 =>
      R  w1) (
      Pn t fun a_3 =>
      (0 ≤ j ∧ j < ((6 : Nat) : Int)) ∧
      LdI .i64 ((Addr.add a_3 (j.toNat * 15)).add 9) w fun x89 =>
      N1 t i x89 (IntKind.i64.wrap (n + (1 : Int))) w)) (
    R  w)
theorem sock_Table_unlink.B1_eq (t : Option Addr) (i j n : Int) (t58 : Bool) (w : World) (N1 : Option Addr → Int → Int → Int → World → Prop)  (R : World → Prop)  :
    (
  Bm t58 (
    Pn t fun a =>
    (0 ≤ j ∧ j < ((6 : Nat) : Int)) ∧
    LdI .i64 ((Addr.add a (j.toNat * 15)).add 9) w fun x67 =>
    Bm (x67 == i) (
      Pn t fun a_1 =>
      (0 ≤ i ∧ i < ((6 : Nat) : Int)) ∧
      LdI .i64 ((Addr.add a_1 (i.toNat * 15)).add 9) w.drew fun x78 =>
      Pn t fun a_2 =>
      (0 ≤ j ∧ j < ((6 : Nat) : Int)) ∧
      Sts [.int .i64 x78] ((Addr.add a_2 (j.toNat * 15)).add 9) 0 w.drew fun w1 =>
      R  w1) (
      Pn t fun a_3 =>
      (0 ≤ j ∧ j < ((6 : Nat) : Int)) ∧
      LdI .i64 ((Addr.add a_3 (j.toNat * 15)).add 9) w fun x89 =>
      N1 t i x89 (IntKind.i64.wrap (n + (1 : Int))) w)) (
    R  w)) = kstep Try.prog 90 Try.f75.results.toList (Try.f75.body.getD .skip) (sock_Table_unlink.RV R) (kvc Try.prog 90 Try.f75.results.toList (Try.f75.body.getD .skip) (sock_Table_unlink.RV R) [([(0, [1, 1, 1, 1, 0, 0]), (2, [1, 1, 1, 1, 0, 0]), (1, [0])], fun σ w => dP (slotOf σ 0) fun t_ => dI .i64 (slotOf σ 1) fun i_ => dI .i64 (slotOf σ 5) fun j_ => dI .i64 (slotOf σ 6) fun n_ => N1 t_ i_ j_ n_ w)] 2000) [(0, [1, 1, 1, 1, 0, 0, 0, 1]), (0, [1, 1, 1, 1, 0, 0, 1]), (2, [1, 1, 1, 1, 0, 0]), (1, [0])] [(0, .pointer t), (1, .int .i64 i), (5, .int .i64 j), (6, .int .i64 n), (58, .bool t58)] w := by kernel_rfl
theorem sock_Table_unlink.B1_sound {R : World → Prop} {N1 : Option Addr → Int → Int → Int → World → Prop} (hN1 : ∀ t i j n w, N1 t i j n w → KW Try.prog 75 90 (sock_Table_unlink.RV R) ([(0, [1, 1, 1, 1, 0, 0]), (2, [1, 1, 1, 1, 0, 0]), (1, [0])].map (toItem (Try.f75.body.getD .skip))) [(0, .pointer t), (1, .int .i64 i), (5, .int .i64 j), (6, .int .i64 n)] w) (t : Option Addr) (i j n : Int) (t58 : Bool) (w : World) (h : sock_Table_unlink.B1 t i j n t58 w N1  R) :
    KW Try.prog 75 90 (sock_Table_unlink.RV R) ([(0, [1, 1, 1, 1, 0, 0, 0, 1]), (0, [1, 1, 1, 1, 0, 0, 1]), (2, [1, 1, 1, 1, 0, 0]), (1, [0])].map (toItem (Try.f75.body.getD .skip))) [(0, .pointer t), (1, .int .i64 i), (5, .int .i64 j), (6, .int .i64 n), (58, .bool t58)] w := by
  exact block_spec Try.func75 Try.mixed (stops_cons (fun σ w h => by
      obtain ⟨t_, e0, h⟩ := dP_elim h
      obtain ⟨i_, e1, h⟩ := dI_elim h
      obtain ⟨j_, e2, h⟩ := dI_elim h
      obtain ⟨n_, e3, h⟩ := dI_elim h
      exact (hN1 t_ i_ j_ n_ w h).weaken (Sub.cons (Sub.cons (Sub.cons (Sub.cons (Sub.nil _) e3) e2) e1) e0)) stops_nil) (Eq.mp (sock_Table_unlink.B1_eq t i j n t58 w N1  R ) h)
def sock_Table_unlink.L1b (t : Option Addr) (i j n : Int) (w : World)  (N1 : Option Addr → Int → Int → Int → World → Prop) (R : World → Prop) : Prop :=
  Bm (j != (-1 : Int)) (
    sock_Table_unlink.B1 t i j n (decide (n < (6 : Int))) w N1 R) (
    sock_Table_unlink.B1 t i j n false w N1 R)
theorem sock_Table_unlink.L1b_eq (t : Option Addr) (i j n : Int) (w : World)  (N1 : Option Addr → Int → Int → Int → World → Prop) (R : World → Prop) (sB1 : Option Addr → Int → Int → Int → Bool → World → Prop) :
    (
  Bm (j != (-1 : Int)) (
    sB1 t i j n (decide (n < (6 : Int))) w) (
    sB1 t i j n false w)) = kstep Try.prog 90 Try.f75.results.toList (Try.f75.body.getD .skip) (sock_Table_unlink.RV R) (kvc Try.prog 90 Try.f75.results.toList (Try.f75.body.getD .skip) (sock_Table_unlink.RV R) [([(0, [1, 1, 1, 1, 0, 0, 0, 1]), (0, [1, 1, 1, 1, 0, 0, 1]), (2, [1, 1, 1, 1, 0, 0]), (1, [0])], fun σ w => dP (slotOf σ 0) fun t_ => dI .i64 (slotOf σ 1) fun i_ => dI .i64 (slotOf σ 5) fun j_ => dI .i64 (slotOf σ 6) fun n_ => dB (slotOf σ 58) fun t58_ => sB1 t_ i_ j_ n_ t58_ w)] 2000) [(0, [1, 1, 1, 1, 0, 0]), (2, [1, 1, 1, 1, 0, 0]), (1, [0])] [(0, .pointer t), (1, .int .i64 i), (5, .int .i64 j), (6, .int .i64 n)] w := by kernel_rfl
theorem sock_Table_unlink.L1b_sound {R : World → Prop} {N1 : Option Addr → Int → Int → Int → World → Prop} (hN1 : ∀ t i j n w, N1 t i j n w → KW Try.prog 75 90 (sock_Table_unlink.RV R) ([(0, [1, 1, 1, 1, 0, 0]), (2, [1, 1, 1, 1, 0, 0]), (1, [0])].map (toItem (Try.f75.body.getD .skip))) [(0, .pointer t), (1, .int .i64 i), (5, .int .i64 j), (6, .int .i64 n)] w) (t : Option Addr) (i j n : Int) (w : World) (h : sock_Table_unlink.L1b t i j n w  N1 R) :
    KW Try.prog 75 90 (sock_Table_unlink.RV R) ([(0, [1, 1, 1, 1, 0, 0]), (2, [1, 1, 1, 1, 0, 0]), (1, [0])].map (toItem (Try.f75.body.getD .skip))) [(0, .pointer t), (1, .int .i64 i), (5, .int .i64 j), (6, .int .i64 n)] w := by
  exact block_spec Try.func75 Try.mixed (stops_cons (fun σ w h => by
      obtain ⟨t_, e0, h⟩ := dP_elim h
      obtain ⟨i_, e1, h⟩ := dI_elim h
      obtain ⟨j_, e2, h⟩ := dI_elim h
      obtain ⟨n_, e3, h⟩ := dI_elim h
      obtain ⟨t58_, e4, h⟩ := dB_elim h
      exact (sock_Table_unlink.B1_sound hN1 t_ i_ j_ n_ t58_ w h).weaken (Sub.cons (Sub.cons (Sub.cons (Sub.cons (Sub.cons (Sub.nil _) e4) e3) e2) e1) e0)) stops_nil) (Eq.mp (sock_Table_unlink.L1b_eq t i j n w  N1 R (fun t_ i_ j_ n_ t58_ w => sock_Table_unlink.B1 t_ i_ j_ n_ t58_ w N1 R)) h)
def sock_Table_unlink.L1 (t : Option Addr) (i j n : Int) (w : World)  (R : World → Prop) : Prop :=
  ∃ (I : Nat → Option Addr → Int → Int → Int → World → Prop) (m : Nat), I m t i j n w ∧ ∀ m t i j n w, I m t i j n w → sock_Table_unlink.L1b t i j n w  (fun t' i' j' n' w' => ∃ m', m' < m ∧ I m' t' i' j' n' w') R
theorem sock_Table_unlink.L1_sound {R : World → Prop}  (t : Option Addr) (i j n : Int) (w : World) (h : sock_Table_unlink.L1 t i j n w  R) :
    KW Try.prog 75 90 (sock_Table_unlink.RV R) ([(0, [1, 1, 1, 1, 0, 0]), (2, [1, 1, 1, 1, 0, 0]), (1, [0])].map (toItem (Try.f75.body.getD .skip))) [(0, .pointer t), (1, .int .i64 i), (5, .int .i64 j), (6, .int .i64 n)] w := by
  obtain ⟨I, m, hBase, hr⟩ := h
  refine KW.loop (fun m σ w => ∃ (t : Option Addr) (i j n : Int), σ = [(0, .pointer t), (1, .int .i64 i), (5, .int .i64 j), (6, .int .i64 n)] ∧ I m t i j n w) ?_ m _ w ⟨t, i, j, n, rfl, hBase⟩
  rintro m ih σ w ⟨t, i, j, n, rfl, hI⟩
  exact sock_Table_unlink.L1b_sound  (N1 := fun t' i' j' n' w' => ∃ m', m' < m ∧ I m' t' i' j' n' w') (fun t' i' j' n' w' hx => by obtain ⟨m', hlt, hI'⟩ := hx; exact ih m' hlt _ w' ⟨t', i', j', n', rfl, hI'⟩) t i j n w (hr m t i j n w hI)
def sock_Table_unlink.B0 (t : Option Addr) (i : Int) (w : World)   (R : World → Prop) : Prop :=
  Pn t fun a =>
  (0 ≤ i ∧ i < ((6 : Nat) : Int)) ∧
  LdI .i64 (((Addr.add a (i.toNat * 15)).add 1).add 2) w.drew fun x14 =>
  Pn t fun a_1 =>
  (0 ≤ i ∧ i < ((6 : Nat) : Int)) ∧
  LdI .i64 (((Addr.add a_1 (i.toNat * 15)).add 1).add 3) w.drew fun x22 =>
  Pn t fun a_2 =>
  (0 ≤ i ∧ i < ((6 : Nat) : Int)) ∧
  LdI .i64 (((Addr.add a_2 (i.toNat * 15)).add 1).add 4) w.drew fun x30 =>
  sock_hash.Call x14 x22 x30 w.drew fun r31 w1 =>
  Pn t fun a_3 =>
  (0 ≤ r31 ∧ r31 < ((4 : Nat) : Int)) ∧
  LdI .i64 (Addr.add (a_3.add 91) (r31.toNat * 1)) w1 fun x37 =>
  Bm (x37 == i) (
    Pn t fun a_4 =>
    (0 ≤ i ∧ i < ((6 : Nat) : Int)) ∧
    LdI .i64 ((Addr.add a_4 (i.toNat * 15)).add 9) w1.drew fun x49 =>
    Pn t fun a_5 =>
    (0 ≤ r31 ∧ r31 < ((4 : Nat) : Int)) ∧
    Sts [.int .i64 x49] (Addr.add (a_5.add 91) (r31.toNat * 1)) 0 w1.drew fun w2 =>
    R  w2) (
    sock_Table_unlink.L1 t i x37 (0 : Int) w1  R)
theorem sock_Table_unlink.B0_eq (t : Option Addr) (i : Int) (w : World)   (R : World → Prop) (sL1 : Option Addr → Int → Int → Int → World → Prop) :
    (
  Pn t fun a =>
  (0 ≤ i ∧ i < ((6 : Nat) : Int)) ∧
  LdI .i64 (((Addr.add a (i.toNat * 15)).add 1).add 2) w.drew fun x14 =>
  Pn t fun a_1 =>
  (0 ≤ i ∧ i < ((6 : Nat) : Int)) ∧
  LdI .i64 (((Addr.add a_1 (i.toNat * 15)).add 1).add 3) w.drew fun x22 =>
  Pn t fun a_2 =>
  (0 ≤ i ∧ i < ((6 : Nat) : Int)) ∧
  LdI .i64 (((Addr.add a_2 (i.toNat * 15)).add 1).add 4) w.drew fun x30 =>
  sock_hash.Call x14 x22 x30 w.drew fun r31 w1 =>
  Pn t fun a_3 =>
  (0 ≤ r31 ∧ r31 < ((4 : Nat) : Int)) ∧
  LdI .i64 (Addr.add (a_3.add 91) (r31.toNat * 1)) w1 fun x37 =>
  Bm (x37 == i) (
    Pn t fun a_4 =>
    (0 ≤ i ∧ i < ((6 : Nat) : Int)) ∧
    LdI .i64 ((Addr.add a_4 (i.toNat * 15)).add 9) w1.drew fun x49 =>
    Pn t fun a_5 =>
    (0 ≤ r31 ∧ r31 < ((4 : Nat) : Int)) ∧
    Sts [.int .i64 x49] (Addr.add (a_5.add 91) (r31.toNat * 1)) 0 w1.drew fun w2 =>
    R  w2) (
    sL1 t i x37 (0 : Int) w1)) = kstep Try.prog 90 Try.f75.results.toList (Try.f75.body.getD .skip) (sock_Table_unlink.RV R) (kvc Try.prog 90 Try.f75.results.toList (Try.f75.body.getD .skip) (sock_Table_unlink.RV R) [([(0, [1, 1, 1, 1, 0, 0]), (2, [1, 1, 1, 1, 0, 0]), (1, [0])], fun σ w => dP (slotOf σ 0) fun t_ => dI .i64 (slotOf σ 1) fun i_ => dI .i64 (slotOf σ 5) fun j_ => dI .i64 (slotOf σ 6) fun n_ => sL1 t_ i_ j_ n_ w)] 2000) [(0, [])] [(0, .pointer t), (1, .int .i64 i)] w := by kernel_rfl
theorem sock_Table_unlink.B0_sound {R : World → Prop}  (t : Option Addr) (i : Int) (w : World) (h : sock_Table_unlink.B0 t i w   R) :
    KW Try.prog 75 90 (sock_Table_unlink.RV R) ([(0, [])].map (toItem (Try.f75.body.getD .skip))) [(0, .pointer t), (1, .int .i64 i)] w := by
  exact block_spec Try.func75 Try.mixed (stops_cons (fun σ w h => by
      obtain ⟨t_, e0, h⟩ := dP_elim h
      obtain ⟨i_, e1, h⟩ := dI_elim h
      obtain ⟨j_, e2, h⟩ := dI_elim h
      obtain ⟨n_, e3, h⟩ := dI_elim h
      exact (sock_Table_unlink.L1_sound  t_ i_ j_ n_ w h).weaken (Sub.cons (Sub.cons (Sub.cons (Sub.cons (Sub.nil _) e3) e2) e1) e0)) stops_nil) (Eq.mp (sock_Table_unlink.B0_eq t i w   R (fun t_ i_ j_ n_ w => sock_Table_unlink.L1 t_ i_ j_ n_ w  R)) h)
theorem sock_Table_unlink.sound (t : Option Addr) (i : Int) (w : World) (R : World → Prop) (h : sock_Table_unlink.B0 t i w R) : sock_Table_unlink.Call t i w R := by
  have hc := calls_of_block (args := #[.pointer t, .int .i64 i]) Try.func75 (body := (Try.f75.body.getD .skip)) (by kernel_rfl) (by kernel_rfl) (args_slot _) (sock_Table_unlink.B0_sound t i w h)
  exact hc.mono fun e w' he => by
    obtain ⟨v, rfl, hv⟩ := he
    exact sock_Table_unlink.RV_elim hv
end Go.Proofs.Qxb6500427a
