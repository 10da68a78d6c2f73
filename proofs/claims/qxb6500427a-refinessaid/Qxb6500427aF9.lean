import Derived.Test.Qxb6500427aSig
set_option maxRecDepth 100000
set_option linter.unusedVariables false
open Go.Vc
namespace Go.Proofs.Qxb6500427a
def sock_Table_orphan.B0 (t : Option Addr) (i : Int) (w : World)   (R : World → Prop) : Prop :=
  Pn t fun a =>
  (0 ≤ i ∧ i < ((6 : Nat) : Int)) ∧
  LdI .i64 (((Addr.add a (i.toNat * 15)).add 1).add 6) w fun x12 =>
  Bm (x12 == (0 : Int)) (
    R  w) (
    Pn t fun a_1 =>
    (0 ≤ i ∧ i < ((6 : Nat) : Int)) ∧
    LdI .i64 (((Addr.add a_1 (i.toNat * 15)).add 1).add 2) w fun x22 =>
    sock_Table_listenerRow.Call t x22 w fun r23 w1 =>
    Bm (r23 == (-1 : Int)) (
      R  w1) (
      Pn t fun a_2 =>
      (0 ≤ r23 ∧ r23 < ((6 : Nat) : Int)) ∧
      LdI .i64 ((Addr.add a_2 (r23.toNat * 15)).add 10) w1.drew fun x32 =>
      Pn t fun a_3 =>
      (0 ≤ r23 ∧ r23 < ((6 : Nat) : Int)) ∧
      Sts [.int .i64 (IntKind.i64.wrap (x32 - (1 : Int)))] ((Addr.add a_3 (r23.toNat * 15)).add 10) 0 w1.drew fun w2 =>
      Pn t fun a_4 =>
      (0 ≤ i ∧ i < ((6 : Nat) : Int)) ∧
      LdB (((Addr.add a_4 (i.toNat * 15)).add 1).add 7) w2 fun x45 =>
      Bm x45 (
        Pn t fun a_5 =>
        (0 ≤ i ∧ i < ((6 : Nat) : Int)) ∧
        LdI .i64 ((Addr.add a_5 (i.toNat * 15)).add 1) w2 fun x55 =>
        sock_Table_leave.Call t r23 x55 w2 fun w3 =>
        R  w3) (
        R  w2)))
theorem sock_Table_orphan.B0_eq (t : Option Addr) (i : Int) (w : World)   (R : World → Prop)  :
    (
  Pn t fun a =>
  (0 ≤ i ∧ i < ((6 : Nat) : Int)) ∧
  LdI .i64 (((Addr.add a (i.toNat * 15)).add 1).add 6) w fun x12 =>
  Bm (x12 == (0 : Int)) (
    R  w) (
    Pn t fun a_1 =>
    (0 ≤ i ∧ i < ((6 : Nat) : Int)) ∧
    LdI .i64 (((Addr.add a_1 (i.toNat * 15)).add 1).add 2) w fun x22 =>
    sock_Table_listenerRow.Call t x22 w fun r23 w1 =>
    Bm (r23 == (-1 : Int)) (
      R  w1) (
      Pn t fun a_2 =>
      (0 ≤ r23 ∧ r23 < ((6 : Nat) : Int)) ∧
      LdI .i64 ((Addr.add a_2 (r23.toNat * 15)).add 10) w1.drew fun x32 =>
      Pn t fun a_3 =>
      (0 ≤ r23 ∧ r23 < ((6 : Nat) : Int)) ∧
      Sts [.int .i64 (IntKind.i64.wrap (x32 - (1 : Int)))] ((Addr.add a_3 (r23.toNat * 15)).add 10) 0 w1.drew fun w2 =>
      Pn t fun a_4 =>
      (0 ≤ i ∧ i < ((6 : Nat) : Int)) ∧
      LdB (((Addr.add a_4 (i.toNat * 15)).add 1).add 7) w2 fun x45 =>
      Bm x45 (
        Pn t fun a_5 =>
        (0 ≤ i ∧ i < ((6 : Nat) : Int)) ∧
        LdI .i64 ((Addr.add a_5 (i.toNat * 15)).add 1) w2 fun x55 =>
        sock_Table_leave.Call t r23 x55 w2 fun w3 =>
        R  w3) (
        R  w2)))) = kstep Try.prog 57 Try.f76.results.toList (Try.f76.body.getD .skip) (sock_Table_orphan.RV R) (kvc Try.prog 57 Try.f76.results.toList (Try.f76.body.getD .skip) (sock_Table_orphan.RV R) [] 2000) [(0, [])] [(0, .pointer t), (1, .int .i64 i)] w := by kernel_rfl
theorem sock_Table_orphan.B0_sound {R : World → Prop}  (t : Option Addr) (i : Int) (w : World) (h : sock_Table_orphan.B0 t i w   R) :
    KW Try.prog 76 57 (sock_Table_orphan.RV R) ([(0, [])].map (toItem (Try.f76.body.getD .skip))) [(0, .pointer t), (1, .int .i64 i)] w := by
  exact block_spec Try.func76 Try.mixed stops_nil (Eq.mp (sock_Table_orphan.B0_eq t i w   R ) h)
theorem sock_Table_orphan.sound (t : Option Addr) (i : Int) (w : World) (R : World → Prop) (h : sock_Table_orphan.B0 t i w R) : sock_Table_orphan.Call t i w R := by
  have hc := calls_of_block (args := #[.pointer t, .int .i64 i]) Try.func76 (body := (Try.f76.body.getD .skip)) (by kernel_rfl) (by kernel_rfl) (args_slot _) (sock_Table_orphan.B0_sound t i w h)
  exact hc.mono fun e w' he => by
    obtain ⟨v, rfl, hv⟩ := he
    exact sock_Table_orphan.RV_elim hv
def sock_Table_give.B0 (t : Option Addr) (i : Int) (w : World)   (R : World → Prop) : Prop :=
  Pn t fun a =>
  LdI .i64 (a.add 90) w.drew fun x9 =>
  Pn t fun a_1 =>
  (0 ≤ i ∧ i < ((6 : Nat) : Int)) ∧
  Sts [.bool false, .int .i64 (0 : Int), .int .i64 (0 : Int), .int .i64 (0 : Int), .int .i64 (0 : Int), .int .i64 (0 : Int), .int .i64 (0 : Int), .int .i64 (0 : Int), .bool false, .int .i64 x9, .int .i64 (0 : Int), .int .i64 (0 : Int), .int .i64 (0 : Int), .int .i64 (0 : Int), .int .i64 (0 : Int)] (Addr.add a_1 (i.toNat * 15)) 0 w.drew fun w1 =>
  Pn t fun a_2 =>
  Sts [.int .i64 i] (a_2.add 90) 0 w1 fun w2 =>
  R  w2
theorem sock_Table_give.B0_eq (t : Option Addr) (i : Int) (w : World)   (R : World → Prop)  :
    (
  Pn t fun a =>
  LdI .i64 (a.add 90) w.drew fun x9 =>
  Pn t fun a_1 =>
  (0 ≤ i ∧ i < ((6 : Nat) : Int)) ∧
  Sts [.bool false, .int .i64 (0 : Int), .int .i64 (0 : Int), .int .i64 (0 : Int), .int .i64 (0 : Int), .int .i64 (0 : Int), .int .i64 (0 : Int), .int .i64 (0 : Int), .bool false, .int .i64 x9, .int .i64 (0 : Int), .int .i64 (0 : Int), .int .i64 (0 : Int), .int .i64 (0 : Int), .int .i64 (0 : Int)] (Addr.add a_1 (i.toNat * 15)) 0 w.drew fun w1 =>
  Pn t fun a_2 =>
  Sts [.int .i64 i] (a_2.add 90) 0 w1 fun w2 =>
  R  w2) = kstep Try.prog 18 Try.f77.results.toList (Try.f77.body.getD .skip) (sock_Table_give.RV R) (kvc Try.prog 18 Try.f77.results.toList (Try.f77.body.getD .skip) (sock_Table_give.RV R) [] 2000) [(0, [])] [(0, .pointer t), (1, .int .i64 i)] w := by kernel_rfl
theorem sock_Table_give.B0_sound {R : World → Prop}  (t : Option Addr) (i : Int) (w : World) (h : sock_Table_give.B0 t i w   R) :
    KW Try.prog 77 18 (sock_Table_give.RV R) ([(0, [])].map (toItem (Try.f77.body.getD .skip))) [(0, .pointer t), (1, .int .i64 i)] w := by
  exact block_spec Try.func77 Try.mixed stops_nil (Eq.mp (sock_Table_give.B0_eq t i w   R ) h)
theorem sock_Table_give.sound (t : Option Addr) (i : Int) (w : World) (R : World → Prop) (h : sock_Table_give.B0 t i w R) : sock_Table_give.Call t i w R := by
  have hc := calls_of_block (args := #[.pointer t, .int .i64 i]) Try.func77 (body := (Try.f77.body.getD .skip)) (by kernel_rfl) (by kernel_rfl) (args_slot _) (sock_Table_give.B0_sound t i w h)
  exact hc.mono fun e w' he => by
    obtain ⟨v, rfl, hv⟩ := he
    exact sock_Table_give.RV_elim hv
def sock_wrap.B0 (k : Int) (w : World)   (R : Int → World → Prop) : Prop :=
  Bm (decide (k ≥ (2 : Int))) (
    R (IntKind.i64.wrap (k - (2 : Int))) w) (
    R k w)
theorem sock_wrap.B0_eq (k : Int) (w : World)   (R : Int → World → Prop)  :
    (
  Bm (decide (k ≥ (2 : Int))) (
    R (IntKind.i64.wrap (k - (2 : Int))) w) (
    R k w)) = kstep Try.prog 8 Try.f78.results.toList (Try.f78.body.getD .skip) (sock_wrap.RV R) (kvc Try.prog 8 Try.f78.results.toList (Try.f78.body.getD .skip) (sock_wrap.RV R) [] 2000) [(0, [])] [(0, .int .i64 k)] w := by kernel_rfl
theorem sock_wrap.B0_sound {R : Int → World → Prop}  (k : Int) (w : World) (h : sock_wrap.B0 k w   R) :
    KW Try.prog 78 8 (sock_wrap.RV R) ([(0, [])].map (toItem (Try.f78.body.getD .skip))) [(0, .int .i64 k)] w := by
  exact block_spec Try.func78 Try.mixed stops_nil (Eq.mp (sock_wrap.B0_eq k w   R ) h)
theorem sock_wrap.sound (k : Int) (w : World) (R : Int → World → Prop) (h : sock_wrap.B0 k w R) : sock_wrap.Call k w R := by
  have hc := calls_of_block (args := #[.int .i64 k]) Try.func78 (body := (Try.f78.body.getD .skip)) (by kernel_rfl) (by kernel_rfl) (args_slot _) (sock_wrap.B0_sound k w h)
  exact hc.mono fun e w' he => by
    obtain ⟨v, rfl, hv⟩ := he
    exact sock_wrap.RV_elim hv
def sock_Table_link.B0 (t : Option Addr) (i : Int) (w : World)   (R : World → Prop) : Prop :=
  Pn t fun a =>
  (0 ≤ i ∧ i < ((6 : Nat) : Int)) ∧
  LdI .i64 (((Addr.add a (i.toNat * 15)).add 1).add 2) w.drew fun x12 =>
  Pn t fun a_1 =>
  (0 ≤ i ∧ i < ((6 : Nat) : Int)) ∧
  LdI .i64 (((Addr.add a_1 (i.toNat * 15)).add 1).add 3) w.drew fun x20 =>
  Pn t fun a_2 =>
  (0 ≤ i ∧ i < ((6 : Nat) : Int)) ∧
  LdI .i64 (((Addr.add a_2 (i.toNat * 15)).add 1).add 4) w.drew fun x28 =>
  sock_hash.Call x12 x20 x28 w.drew fun r29 w1 =>
  Pn t fun a_3 =>
  (0 ≤ r29 ∧ r29 < ((4 : Nat) : Int)) ∧
  LdI .i64 (Addr.add (a_3.add 91) (r29.toNat * 1)) w1.drew fun x37 =>
  Pn t fun a_4 =>
  (0 ≤ i ∧ i < ((6 : Nat) : Int)) ∧
  Sts [.int .i64 x37] ((Addr.add a_4 (i.toNat * 15)).add 9) 0 w1.drew fun w2 =>
  Pn t fun a_5 =>
  (0 ≤ r29 ∧ r29 < ((4 : Nat) : Int)) ∧
  Sts [.int .i64 i] (Addr.add (a_5.add 91) (r29.toNat * 1)) 0 w2 fun w3 =>
  R  w3
theorem sock_Table_link.B0_eq (t : Option Addr) (i : Int) (w : World)   (R : World → Prop)  :
    (
  Pn t fun a =>
  (0 ≤ i ∧ i < ((6 : Nat) : Int)) ∧
  LdI .i64 (((Addr.add a (i.toNat * 15)).add 1).add 2) w.drew fun x12 =>
  Pn t fun a_1 =>
  (0 ≤ i ∧ i < ((6 : Nat) : Int)) ∧
  LdI .i64 (((Addr.add a_1 (i.toNat * 15)).add 1).add 3) w.drew fun x20 =>
  Pn t fun a_2 =>
  (0 ≤ i ∧ i < ((6 : Nat) : Int)) ∧
  LdI .i64 (((Addr.add a_2 (i.toNat * 15)).add 1).add 4) w.drew fun x28 =>
  sock_hash.Call x12 x20 x28 w.drew fun r29 w1 =>
  Pn t fun a_3 =>
  (0 ≤ r29 ∧ r29 < ((4 : Nat) : Int)) ∧
  LdI .i64 (Addr.add (a_3.add 91) (r29.toNat * 1)) w1.drew fun x37 =>
  Pn t fun a_4 =>
  (0 ≤ i ∧ i < ((6 : Nat) : Int)) ∧
  Sts [.int .i64 x37] ((Addr.add a_4 (i.toNat * 15)).add 9) 0 w1.drew fun w2 =>
  Pn t fun a_5 =>
  (0 ≤ r29 ∧ r29 < ((4 : Nat) : Int)) ∧
  Sts [.int .i64 i] (Addr.add (a_5.add 91) (r29.toNat * 1)) 0 w2 fun w3 =>
  R  w3) = kstep Try.prog 48 Try.f79.results.toList (Try.f79.body.getD .skip) (sock_Table_link.RV R) (kvc Try.prog 48 Try.f79.results.toList (Try.f79.body.getD .skip) (sock_Table_link.RV R) [] 2000) [(0, [])] [(0, .pointer t), (1, .int .i64 i)] w := by kernel_rfl
theorem sock_Table_link.B0_sound {R : World → Prop}  (t : Option Addr) (i : Int) (w : World) (h : sock_Table_link.B0 t i w   R) :
    KW Try.prog 79 48 (sock_Table_link.RV R) ([(0, [])].map (toItem (Try.f79.body.getD .skip))) [(0, .pointer t), (1, .int .i64 i)] w := by
  exact block_spec Try.func79 Try.mixed stops_nil (Eq.mp (sock_Table_link.B0_eq t i w   R ) h)
theorem sock_Table_link.sound (t : Option Addr) (i : Int) (w : World) (R : World → Prop) (h : sock_Table_link.B0 t i w R) : sock_Table_link.Call t i w R := by
  have hc := calls_of_block (args := #[.pointer t, .int .i64 i]) Try.func79 (body := (Try.f79.body.getD .skip)) (by kernel_rfl) (by kernel_rfl) (args_slot _) (sock_Table_link.B0_sound t i w h)
  exact hc.mono fun e w' he => by
    obtain ⟨v, rfl, hv⟩ := he
    exact sock_Table_link.RV_elim hv
def sock_Table_leave.L2b (t : Option Addr) (l h0 n k : Int) (w : World)  (N2 : Option Addr → Int → Int → Int → Int → World → Prop) (R : World → Prop) : Prop :=
  Bm (decide ((IntKind.i64.wrap (k + (1 : Int))) < n)) (
    sock_wrap.Call (IntKind.i64.wrap (h0 + k)) w fun r58 w1 =>
    sock_wrap.Call (IntKind.i64.wrap ((IntKind.i64.wrap (h0 + k)) + (1 : Int))) w1 fun r63 w2 =>
    Pn t fun a =>
    (0 ≤ l ∧ l < ((6 : Nat) : Int)) ∧
    (0 ≤ r63 ∧ r63 < ((2 : Nat) : Int)) ∧
    LdI .i64 (Addr.add ((Addr.add a (l.toNat * 15)).add 11) (r63.toNat * 1)) w2.drew fun x75 =>
    Pn t fun a_1 =>
    (0 ≤ l ∧ l < ((6 : Nat) : Int)) ∧
    (0 ≤ r58 ∧ r58 < ((2 : Nat) : Int)) ∧
    Sts [.int .i64 x75] (Addr.add ((Addr.add a_1 (l.toNat * 15)).add 11) (r58.toNat * 1)) 0 w2.drew fun w3 =>
    N2 t l h0 n (IntKind.i64.wrap (k + (1 : Int))) w3) (
    Pn t fun a_2 =>
    (0 ≤ l ∧ l < ((6 : Nat) : Int)) ∧
    LdI .i64 ((Addr.add a_2 (l.toNat * 15)).add 14) w.drew fun x87 =>
    Pn t fun a_3 =>
    (0 ≤ l ∧ l < ((6 : Nat) : Int)) ∧
    Sts [.int .i64 (IntKind.i64.wrap (x87 - (1 : Int)))] ((Addr.add a_3 (l.toNat * 15)).add 14) 0 w.drew fun w4 =>
    R  w4)
theorem sock_Table_leave.L2b_eq (t : Option Addr) (l h0 n k : Int) (w : World)  (N2 : Option Addr → Int → Int → Int → Int → World → Prop) (R : World → Prop)  :
    (
  Bm (decide ((IntKind.i64.wrap (k + (1 : Int))) < n)) (
    sock_wrap.Call (IntKind.i64.wrap (h0 + k)) w fun r58 w1 =>
    sock_wrap.Call (IntKind.i64.wrap ((IntKind.i64.wrap (h0 + k)) + (1 : Int))) w1 fun r63 w2 =>
    Pn t fun a =>
    (0 ≤ l ∧ l < ((6 : Nat) : Int)) ∧
    (0 ≤ r63 ∧ r63 < ((2 : Nat) : Int)) ∧
    LdI .i64 (Addr.add ((Addr.add a (l.toNat * 15)).add 11) (r63.toNat * 1)) w2.drew fun x75 =>
    Pn t fun a_1 =>
    (0 ≤ l ∧ l < ((6 : Nat) : Int)) ∧
    (0 ≤ r58 ∧ r58 < ((2 : Nat) : Int)) ∧
    Sts [.int .i64 x75] (Addr.add ((Addr.add a_1 (l.toNat * 15)).add 11) (r58.toNat * 1)) 0 w2.drew fun w3 =>
    N2 t l h0 n (IntKind.i64.wrap (k + (1 : Int))) w3) (
    Pn t fun a_2 =>
    (0 ≤ l ∧ l < ((6 : Nat) : Int)) ∧
    LdI .i64 ((Addr.add a_2 (l.toNat * 15)).add 14) w.drew fun x87 =>
    Pn t fun a_3 =>
    (0 ≤ l ∧ l < ((6 : Nat) : Int)) ∧
    Sts [.int .i64 (IntKind.i64.wrap (x87 - (1 : Int)))] ((Addr.add a_3 (l.toNat * 15)).add 14) 0 w.drew fun w4 =>
    R  w4)) = kstep Try.prog 93 Try.f80.results.toList (Try.f80.body.getD .skip) (sock_Table_leave.RV R) (kvc Try.prog 93 Try.f80.results.toList (Try.f80.body.getD .skip) (sock_Table_leave.RV R) [([(0, [1, 1, 1, 1, 0, 0, 0]), (2, [1, 1, 1, 1, 0, 0, 0]), (1, [2]), (0, [1, 1, 1, 1, 1])], fun σ w => dP (slotOf σ 0) fun t_ => dI .i64 (slotOf σ 1) fun l_ => dI .i64 (slotOf σ 6) fun h0_ => dI .i64 (slotOf σ 7) fun n_ => dI .i64 (slotOf σ 8) fun k_ => N2 t_ l_ h0_ n_ k_ w)] 2000) [(0, [1, 1, 1, 1, 0, 0, 0]), (2, [1, 1, 1, 1, 0, 0, 0]), (1, [2]), (0, [1, 1, 1, 1, 1])] [(0, .pointer t), (1, .int .i64 l), (6, .int .i64 h0), (7, .int .i64 n), (8, .int .i64 k)] w := by kernel_rfl
theorem sock_Table_leave.L2b_sound {R : World → Prop} {N2 : Option Addr → Int → Int → Int → Int → World → Prop} (hN2 : ∀ t l h0 n k w, N2 t l h0 n k w → KW Try.prog 80 93 (sock_Table_leave.RV R) ([(0, [1, 1, 1, 1, 0, 0, 0]), (2, [1, 1, 1, 1, 0, 0, 0]), (1, [2]), (0, [1, 1, 1, 1, 1])].map (toItem (Try.f80.body.getD .skip))) [(0, .pointer t), (1, .int .i64 l), (6, .int .i64 h0), (7, .int .i64 n), (8, .int .i64 k)] w) (t : Option Addr) (l h0 n k : Int) (w : World) (h : sock_Table_leave.L2b t l h0 n k w  N2 R) :
    KW Try.prog 80 93 (sock_Table_leave.RV R) ([(0, [1, 1, 1, 1, 0, 0, 0]), (2, [1, 1, 1, 1, 0, 0, 0]), (1, [2]), (0, [1, 1, 1, 1, 1])].map (toItem (Try.f80.body.getD .skip))) [(0, .pointer t), (1, .int .i64 l), (6, .int .i64 h0), (7, .int .i64 n), (8, .int .i64 k)] w := by
  exact block_spec Try.func80 Try.mixed (stops_cons (fun σ w h => by
      obtain ⟨t_, e0, h⟩ := dP_elim h
      obtain ⟨l_, e1, h⟩ := dI_elim h
      obtain ⟨h0_, e2, h⟩ := dI_elim h
      obtain ⟨n_, e3, h⟩ := dI_elim h
      obtain ⟨k_, e4, h⟩ := dI_elim h
      exact (hN2 t_ l_ h0_ n_ k_ w h).weaken (Sub.cons (Sub.cons (Sub.cons (Sub.cons (Sub.cons (Sub.nil _) e4) e3) e2) e1) e0)) stops_nil) (Eq.mp (sock_Table_leave.L2b_eq t l h0 n k w  N2 R ) h)
def sock_Table_leave.L2 (t : Option Addr) (l h0 n k : Int) (w : World)  (R : World → Prop) : Prop :=
  ∃ (I : Nat → Option Addr → Int → Int → Int → Int → World → Prop) (m : Nat), I m t l h0 n k w ∧ ∀ m t l h0 n k w, I m t l h0 n k w → sock_Table_leave.L2b t l h0 n k w  (fun t' l' h0' n' k' w' => ∃ m', m' < m ∧ I m' t' l' h0' n' k' w') R
theorem sock_Table_leave.L2_sound {R : World → Prop}  (t : Option Addr) (l h0 n k : Int) (w : World) (h : sock_Table_leave.L2 t l h0 n k w  R) :
    KW Try.prog 80 93 (sock_Table_leave.RV R) ([(0, [1, 1, 1, 1, 0, 0, 0]), (2, [1, 1, 1, 1, 0, 0, 0]), (1, [2]), (0, [1, 1, 1, 1, 1])].map (toItem (Try.f80.body.getD .skip))) [(0, .pointer t), (1, .int .i64 l), (6, .int .i64 h0), (7, .int .i64 n), (8, .int .i64 k)] w := by
  obtain ⟨I, m, hBase, hr⟩ := h
  refine KW.loop (fun m σ w => ∃ (t : Option Addr) (l h0 n k : Int), σ = [(0, .pointer t), (1, .int .i64 l), (6, .int .i64 h0), (7, .int .i64 n), (8, .int .i64 k)] ∧ I m t l h0 n k w) ?_ m _ w ⟨t, l, h0, n, k, rfl, hBase⟩
  rintro m ih σ w ⟨t, l, h0, n, k, rfl, hI⟩
  exact sock_Table_leave.L2b_sound  (N2 := fun t' l' h0' n' k' w' => ∃ m', m' < m ∧ I m' t' l' h0' n' k' w') (fun t' l' h0' n' k' w' hx => by obtain ⟨m', hlt, hI'⟩ := hx; exact ih m' hlt _ w' ⟨t', l', h0', n', k', rfl, hI'⟩) t l h0 n k w (hr m t l h0 n k w hI)
def sock_Table_leave.B1 (t : Option Addr) (l sd h0 n k : Int) (t43 : Bool) (w : World) (N1 : Option Addr → Int → Int → Int → Int → Int → World → Prop)  (R : World → Prop) : Prop :=
  Bm t43 (
    N1 t l sd h0 n (IntKind.i64.wrap (k + (1 : Int))) w) (
    Bm (k == n) (
      R  w) (
      sock_Table_leave.L2 t l h0 n k w  R))
theorem sock_Table_leave.B1_eq (t : Option Addr) (l sd h0 n k : Int) (t43 : Bool) (w : World) (N1 : Option Addr → Int → Int → Int → Int → Int → World → Prop)  (R : World → Prop) (sL2 : Option Addr → Int → Int → Int → Int → World → Prop) :
    (
  Bm t43 (
    N1 t l sd h0 n (IntKind.i64.wrap (k + (1 : Int))) w) (
    Bm (k == n) (
      R  w) (
      sL2 t l h0 n k w))) = kstep Try.prog 93 Try.f80.results.toList (Try.f80.body.getD .skip) (sock_Table_leave.RV R) (kvc Try.prog 93 Try.f80.results.toList (Try.f80.body.getD .skip) (sock_Table_leave.RV R) [([(0, [1, 1, 0, 0, 0]), (2, [1, 1, 0, 0, 0]), (1, [0]), (0, [1, 1, 1])], fun σ w => dP (slotOf σ 0) fun t_ => dI .i64 (slotOf σ 1) fun l_ => dI .i64 (slotOf σ 2) fun sd_ => dI .i64 (slotOf σ 6) fun h0_ => dI .i64 (slotOf σ 7) fun n_ => dI .i64 (slotOf σ 8) fun k_ => N1 t_ l_ sd_ h0_ n_ k_ w),
    ([(0, [1, 1, 1, 1, 0, 0, 0]), (2, [1, 1, 1, 1, 0, 0, 0]), (1, [2]), (0, [1, 1, 1, 1, 1])], fun σ w => dP (slotOf σ 0) fun t_ => dI .i64 (slotOf σ 1) fun l_ => dI .i64 (slotOf σ 6) fun h0_ => dI .i64 (slotOf σ 7) fun n_ => dI .i64 (slotOf σ 8) fun k_ => sL2 t_ l_ h0_ n_ k_ w)] 2000) [(0, [1, 1, 0, 0, 0, 0, 1]), (0, [1, 1, 0, 0, 0, 1]), (2, [1, 1, 0, 0, 0]), (1, [0]), (0, [1, 1, 1])] [(0, .pointer t), (1, .int .i64 l), (2, .int .i64 sd), (6, .int .i64 h0), (7, .int .i64 n), (8, .int .i64 k), (43, .bool t43)] w := by kernel_rfl
theorem sock_Table_leave.B1_sound {R : World → Prop} {N1 : Option Addr → Int → Int → Int → Int → Int → World → Prop} (hN1 : ∀ t l sd h0 n k w, N1 t l sd h0 n k w → KW Try.prog 80 93 (sock_Table_leave.RV R) ([(0, [1, 1, 0, 0, 0]), (2, [1, 1, 0, 0, 0]), (1, [0]), (0, [1, 1, 1])].map (toItem (Try.f80.body.getD .skip))) [(0, .pointer t), (1, .int .i64 l), (2, .int .i64 sd), (6, .int .i64 h0), (7, .int .i64 n), (8, .int .i64 k)] w) (t : Option Addr) (l sd h0 n k : Int) (t43 : Bool) (w : World) (h : sock_Table_leave.B1 t l sd h0 n k t43 w N1  R) :
    KW Try.prog 80 93 (sock_Table_leave.RV R) ([(0, [1, 1, 0, 0, 0, 0, 1]), (0, [1, 1, 0, 0, 0, 1]), (2, [1, 1, 0, 0, 0]), (1, [0]), (0, [1, 1, 1])].map (toItem (Try.f80.body.getD .skip))) [(0, .pointer t), (1, .int .i64 l), (2, .int .i64 sd), (6, .int .i64 h0), (7, .int .i64 n), (8, .int .i64 k), (43, .bool t43)] w := by
  exact block_spec Try.func80 Try.mixed (stops_cons (fun σ w h => by
      obtain ⟨t_, e0, h⟩ := dP_elim h
      obtain ⟨l_, e1, h⟩ := dI_elim h
      obtain ⟨sd_, e2, h⟩ := dI_elim h
      obtain ⟨h0_, e3, h⟩ := dI_elim h
      obtain ⟨n_, e4, h⟩ := dI_elim h
      obtain ⟨k_, e5, h⟩ := dI_elim h
      exact (hN1 t_ l_ sd_ h0_ n_ k_ w h).weaken (Sub.cons (Sub.cons (Sub.cons (Sub.cons (Sub.cons (Sub.cons (Sub.nil _) e5) e4) e3) e2) e1) e0)) (stops_cons (fun σ w h => by
      obtain ⟨t_, e0, h⟩ := dP_elim h
      obtain ⟨l_, e1, h⟩ := dI_elim h
      obtain ⟨h0_, e2, h⟩ := dI_elim h
      obtain ⟨n_, e3, h⟩ := dI_elim h
      obtain ⟨k_, e4, h⟩ := dI_elim h
      exact (sock_Table_leave.L2_sound  t_ l_ h0_ n_ k_ w h).weaken (Sub.cons (Sub.cons (Sub.cons (Sub.cons (Sub.cons (Sub.nil _) e4) e3) e2) e1) e0)) stops_nil)) (Eq.mp (sock_Table_leave.B1_eq t l sd h0 n k t43 w N1  R (fun t_ l_ h0_ n_ k_ w => sock_Table_leave.L2 t_ l_ h0_ n_ k_ w  R)) h)
def sock_Table_leave.L1b (t : Option Addr) (l sd h0 n k : Int) (w : World)  (N1 : Option Addr → Int → Int → Int → Int → Int → World → Prop) (R : World → Prop) : Prop :=
  Bm (decide (k < n)) (
    Pn t fun a =>
    (0 ≤ l ∧ l < ((6 : Nat) : Int)) ∧
    sock_wrap.Call (IntKind.i64.wrap (h0 + k)) w.drew fun r34 w1 =>
    (0 ≤ r34 ∧ r34 < ((2 : Nat) : Int)) ∧
    LdI .i64 (Addr.add ((Addr.add a (l.toNat * 15)).add 11) (r34.toNat * 1)) w1 fun x40 =>
    sock_Table_leave.B1 t l sd h0 n k (x40 != sd) w1 N1 R) (
    sock_Table_leave.B1 t l sd h0 n k false w.drew N1 R)
theorem sock_Table_leave.L1b_eq (t : Option Addr) (l sd h0 n k : Int) (w : World)  (N1 : Option Addr → Int → Int → Int → Int → Int → World → Prop) (R : World → Prop) (sB1 : Option Addr → Int → Int → Int → Int → Int → Bool → World → Prop) :
    (
  Bm (decide (k < n)) (
    Pn t fun a =>
    (0 ≤ l ∧ l < ((6 : Nat) : Int)) ∧
    sock_wrap.Call (IntKind.i64.wrap (h0 + k)) w.drew fun r34 w1 =>
    (0 ≤ r34 ∧ r34 < ((2 : Nat) : Int)) ∧
    LdI .i64 (Addr.add ((Addr.add a (l.toNat * 15)).add 11) (r34.toNat * 1)) w1 fun x40 =>
    sB1 t l sd h0 n k (x40 != sd) w1) (
    sB1 t l sd h0 n k false w.drew)) = kstep Try.prog 93 Try.f80.results.toList (Try.f80.body.getD .skip) (sock_Table_leave.RV R) (kvc Try.prog 93 Try.f80.results.toList (Try.f80.body.getD .skip) (sock_Table_leave.RV R) [([(0, [1, 1, 0, 0, 0, 0, 1]), (0, [1, 1, 0, 0, 0, 1]), (2, [1, 1, 0, 0, 0]), (1, [0]), (0, [1, 1, 1])], fun σ w => dP (slotOf σ 0) fun t_ => dI .i64 (slotOf σ 1) fun l_ => dI .i64 (slotOf σ 2) fun sd_ => dI .i64 (slotOf σ 6) fun h0_ => dI .i64 (slotOf σ 7) fun n_ => dI .i64 (slotOf σ 8) fun k_ => dB (slotOf σ 43) fun t43_ => sB1 t_ l_ sd_ h0_ n_ k_ t43_ w)] 2000) [(0, [1, 1, 0, 0, 0]), (2, [1, 1, 0, 0, 0]), (1, [0]), (0, [1, 1, 1])] [(0, .pointer t), (1, .int .i64 l), (2, .int .i64 sd), (6, .int .i64 h0), (7, .int .i64 n), (8, .int .i64 k)] w := by kernel_rfl
theorem sock_Table_leave.L1b_sound {R : World → Prop} {N1 : Option Addr → Int → Int → Int → Int → Int → World → Prop} (hN1 : ∀ t l sd h0 n k w, N1 t l sd h0 n k w → KW Try.prog 80 93 (sock_Table_leave.RV R) ([(0, [1, 1, 0, 0, 0]), (2, [1, 1, 0, 0, 0]), (1, [0]), (0, [1, 1, 1])].map (toItem (Try.f80.body.getD .skip))) [(0, .pointer t), (1, .int .i64 l), (2, .int .i64 sd), (6, .int .i64 h0), (7, .int .i64 n), (8, .int .i64 k)] w) (t : Option Addr) (l sd h0 n k : Int) (w : World) (h : sock_Table_leave.L1b t l sd h0 n k w  N1 R) :
    KW Try.prog 80 93 (sock_Table_leave.RV R) ([(0, [1, 1, 0, 0, 0]), (2, [1, 1, 0, 0, 0]), (1, [0]), (0, [1, 1, 1])].map (toItem (Try.f80.body.getD .skip))) [(0, .pointer t), (1, .int .i64 l), (2, .int .i64 sd), (6, .int .i64 h0), (7, .int .i64 n), (8, .int .i64 k)] w := by
  exact block_spec Try.func80 Try.mixed (stops_cons (fun σ w h => by
      obtain ⟨t_, e0, h⟩ := dP_elim h
      obtain ⟨l_, e1, h⟩ := dI_elim h
      obtain ⟨sd_, e2, h⟩ := dI_elim h
      obtain ⟨h0_, e3, h⟩ := dI_elim h
      obtain ⟨n_, e4, h⟩ := dI_elim h
      obtain ⟨k_, e5, h⟩ := dI_elim h
      obtain ⟨t43_, e6, h⟩ := dB_elim h
      exact (sock_Table_leave.B1_sound hN1 t_ l_ sd_ h0_ n_ k_ t43_ w h).weaken (Sub.cons (Sub.cons (Sub.cons (Sub.cons (Sub.cons (Sub.cons (Sub.cons (Sub.nil _) e6) e5) e4) e3) e2) e1) e0)) stops_nil) (Eq.mp (sock_Table_leave.L1b_eq t l sd h0 n k w  N1 R (fun t_ l_ sd_ h0_ n_ k_ t43_ w => sock_Table_leave.B1 t_ l_ sd_ h0_ n_ k_ t43_ w N1 R)) h)
def sock_Table_leave.L1 (t : Option Addr) (l sd h0 n k : Int) (w : World)  (R : World → Prop) : Prop :=
  ∃ (I : Nat → Option Addr → Int → Int → Int → Int → Int → World → Prop) (m : Nat), I m t l sd h0 n k w ∧ ∀ m t l sd h0 n k w, I m t l sd h0 n k w → sock_Table_leave.L1b t l sd h0 n k w  (fun t' l' sd' h0' n' k' w' => ∃ m', m' < m ∧ I m' t' l' sd' h0' n' k' w') R
theorem sock_Table_leave.L1_sound {R : World → Prop}  (t : Option Addr) (l sd h0 n k : Int) (w : World) (h : sock_Table_leave.L1 t l sd h0 n k w  R) :
    KW Try.prog 80 93 (sock_Table_leave.RV R) ([(0, [1, 1, 0, 0, 0]), (2, [1, 1, 0, 0, 0]), (1, [0]), (0, [1, 1, 1])].map (toItem (Try.f80.body.getD .skip))) [(0, .pointer t), (1, .int .i64 l), (2, .int .i64 sd), (6, .int .i64 h0), (7, .int .i64 n), (8, .int .i64 k)] w := by
  obtain ⟨I, m, hBase, hr⟩ := h
  refine KW.loop (fun m σ w => ∃ (t : Option Addr) (l sd h0 n k : Int), σ = [(0, .pointer t), (1, .int .i64 l), (2, .int .i64 sd), (6, .int .i64 h0), (7, .int .i64 n), (8, .int .i64 k)] ∧ I m t l sd h0 n k w) ?_ m _ w ⟨t, l, sd, h0, n, k, rfl, hBase⟩
  rintro m ih σ w ⟨t, l, sd, h0, n, k, rfl, hI⟩
  exact sock_Table_leave.L1b_sound  (N1 := fun t' l' sd' h0' n' k' w' => ∃ m', m' < m ∧ I m' t' l' sd' h0' n' k' w') (fun t' l' sd' h0' n' k' w' hx => by obtain ⟨m', hlt, hI'⟩ := hx; exact ih m' hlt _ w' ⟨t', l', sd', h0', n', k', rfl, hI'⟩) t l sd h0 n k w (hr m t l sd h0 n k w hI)
def sock_Table_leave.B0 (t : Option Addr) (l sd : Int) (w : World)   (R : World → Prop) : Prop :=
  Pn t fun a =>
  (0 ≤ l ∧ l < ((6 : Nat) : Int)) ∧
  LdI .i64 ((Addr.add a (l.toNat * 15)).add 13) w.drew fun x17 =>
  Pn t fun a_1 =>
  (0 ≤ l ∧ l < ((6 : Nat) : Int)) ∧
  LdI .i64 ((Addr.add a_1 (l.toNat * 15)).add 14) w.drew fun x24 =>
  sock_Table_leave.L1 t l sd x17 x24 (0 : Int) w.drew  R
theorem sock_Table_leave.B0_eq (t : Option Addr) (l sd : Int) (w : World)   (R : World → Prop) (sL1 : Option Addr → Int → Int → Int → Int → Int → World → Prop) :
    (
  Pn t fun a =>
  (0 ≤ l ∧ l < ((6 : Nat) : Int)) ∧
  LdI .i64 ((Addr.add a (l.toNat * 15)).add 13) w.drew fun x17 =>
  Pn t fun a_1 =>
  (0 ≤ l ∧ l < ((6 : Nat) : Int)) ∧
  LdI .i64 ((Addr.add a_1 (l.toNat * 15)).add 14) w.drew fun x24 =>
  sL1 t l sd x17 x24 (0 : Int) w.drew) = kstep Try.prog 93 Try.f80.results.toList (Try.f80.body.getD .skip) (sock_Table_leave.RV R) (kvc Try.prog 93 Try.f80.results.toList (Try.f80.body.getD .skip) (sock_Table_leave.RV R) [([(0, [1, 1, 0, 0, 0]), (2, [1, 1, 0, 0, 0]), (1, [0]), (0, [1, 1, 1])], fun σ w => dP (slotOf σ 0) fun t_ => dI .i64 (slotOf σ 1) fun l_ => dI .i64 (slotOf σ 2) fun sd_ => dI .i64 (slotOf σ 6) fun h0_ => dI .i64 (slotOf σ 7) fun n_ => dI .i64 (slotOf σ 8) fun k_ => sL1 t_ l_ sd_ h0_ n_ k_ w)] 2000) [(0, [])] [(0, .pointer t), (1, .int .i64 l), (2, .int .i64 sd)] w := by kernel_rfl
theorem sock_Table_leave.B0_sound {R : World → Prop}  (t : Option Addr) (l sd : Int) (w : World) (h : sock_Table_leave.B0 t l sd w   R) :
    KW Try.prog 80 93 (sock_Table_leave.RV R) ([(0, [])].map (toItem (Try.f80.body.getD .skip))) [(0, .pointer t), (1, .int .i64 l), (2, .int .i64 sd)] w := by
  exact block_spec Try.func80 Try.mixed (stops_cons (fun σ w h => by
      obtain ⟨t_, e0, h⟩ := dP_elim h
      obtain ⟨l_, e1, h⟩ := dI_elim h
      obtain ⟨sd_, e2, h⟩ := dI_elim h
      obtain ⟨h0_, e3, h⟩ := dI_elim h
      obtain ⟨n_, e4, h⟩ := dI_elim h
      obtain ⟨k_, e5, h⟩ := dI_elim h
      exact (sock_Table_leave.L1_sound  t_ l_ sd_ h0_ n_ k_ w h).weaken (Sub.cons (Sub.cons (Sub.cons (Sub.cons (Sub.cons (Sub.cons (Sub.nil _) e5) e4) e3) e2) e1) e0)) stops_nil) (Eq.mp (sock_Table_leave.B0_eq t l sd w   R (fun t_ l_ sd_ h0_ n_ k_ w => sock_Table_leave.L1 t_ l_ sd_ h0_ n_ k_ w  R)) h)
theorem sock_Table_leave.sound (t : Option Addr) (l sd : Int) (w : World) (R : World → Prop) (h : sock_Table_leave.B0 t l sd w R) : sock_Table_leave.Call t l sd w R := by
  have hc := calls_of_block (args := #[.pointer t, .int .i64 l, .int .i64 sd]) Try.func80 (body := (Try.f80.body.getD .skip)) (by kernel_rfl) (by kernel_rfl) (args_slot _) (sock_Table_leave.B0_sound t l sd w h)
  exact hc.mono fun e w' he => by
    obtain ⟨v, rfl, hv⟩ := he
    exact sock_Table_leave.RV_elim hv
end Go.Proofs.Qxb6500427a
