import Derived.Test.Qxb6500424aGreatSig
set_option maxRecDepth 100000
set_option linter.unusedVariables false
open Go.Vc
namespace Go.Proofs.Qxb6500424aGreat
def sock_Table_unlink.B1 (t : Option Addr) (i j n : Int) (t58 : Bool) (w : World) (N1 : Option Addr → Int → Int → Int → World → Prop)  (R : World → Prop) : Prop :=
  Bm t58 (
    Pn t fun a =>
    (0 ≤ j ∧ j < ((6 : Nat) : Int)) ∧
    LdI .i64 ((Addr.add a (j.toNat * 15)).add 9) w fun x67 =>
    Bm (x67 == i) (
      Pn t fun a_1 =>
      (0 ≤ i ∧ i < ((6 : Nat) : Int)) ∧
      LdI .i64 ((Addr.add a_1 (i.toNat * 15)).add 9) w.drew fun x78 =>
      Pn t fun a_2 =>
      (0 ≤ j ∧ j < ((6 : Nat) : Int)) ∧
      Sts [.int .i64 x78] ((Addr.add a_2 (j.toNat * 15)).add 9) 0 w.drew fun w1 =>
      R  w1) (
      Pn t fun a_3 =>
      (0 ≤ j ∧ j < ((6 : Nat) : Int)) ∧
      LdI .i64 ((Addr.add a_3 (j.toNat * 15)).add 9) w fun x89 =>
      N1 t i x89 (IntKind.i64.wrap (n + (1 : Int))) w)) (
    R  w)
theorem sock_Table_unlink.B1_eq (t : Option Addr) (i j n : Int) (t58 : Bool) (w : World) (N1 : Option Addr → Int → Int → Int → World → Prop)  (R : World → Prop)  :
    (
  Bm t58 (
    Pn t fun a =>
    (0 ≤ j ∧ j < ((6 : Nat) : Int)) ∧
    LdI .i64 ((Addr.add a (j.toNat * 15)).add 9) w fun x67 =>
    Bm (x67 == i) (
      Pn t fun a_1 =>
      (0 ≤ i ∧ i < ((6 : Nat) : Int)) ∧
      LdI .i64 ((Addr.add a_1 (i.toNat * 15)).add 9) w.drew fun x78 =>
      Pn t fun a_2 =>
      (0 ≤ j ∧ j < ((6 : Nat) : Int)) ∧
      Sts [.int .i64 x78] ((Addr.add a_2 (j.toNat * 15)).add 9) 0 w.drew fun w1 =>
      R  w1) (
      Pn t fun a_3 =>
      (0 ≤ j ∧ j < ((6 : Nat) : Int)) ∧
      LdI .i64 ((Addr.add a_3 (j.toNat * 15)).add 9) w fun x89 =>
      N1 t i x89 (IntKind.i64.wrap (n + (1 : Int))) w)) (
    R  w)) = kstep Tryz.prog 90 Tryz.f169.results.toList (Tryz.f169.body.getD .skip) (sock_Table_unlink.RV R) (kvc Tryz.prog 90 Tryz.f169.results.toList (Tryz.f169.body.getD .skip) (sock_Table_unlink.RV R) [([(0, [1, 1, 1, 1, 0, 0]), (2, [1, 1, 1, 1, 0, 0]), (1, [0])], fun σ w => dP (slotOf σ 0) fun t_ => dI .i64 (slotOf σ 1) fun i_ => dI .i64 (slotOf σ 5) fun j_ => dI .i64 (slotOf σ 6) fun n_ => N1 t_ i_ j_ n_ w)] 2000) [(0, [1, 1, 1, 1, 0, 0, 0, 1]), (0, [1, 1, 1, 1, 0, 0, 1]), (2, [1, 1, 1, 1, 0, 0]), (1, [0])] [(0, .pointer t), (1, .int .i64 i), (5, .int .i64 j), (6, .int .i64 n), (58, .bool t58)] w := by kernel_rfl
theorem sock_Table_unlink.B1_sound {R : World → Prop} {N1 : Option Addr → Int → Int → Int → World → Prop} (hN1 : ∀ t i j n w, N1 t i j n w → KW Tryz.prog 169 90 (sock_Table_unlink.RV R) ([(0, [1, 1, 1, 1, 0, 0]), (2, [1, 1, 1, 1, 0, 0]), (1, [0])].map (toItem (Tryz.f169.body.getD .skip))) [(0, .pointer t), (1, .int .i64 i), (5, .int .i64 j), (6, .int .i64 n)] w) (t : Option Addr) (i j n : Int) (t58 : Bool) (w : World) (h : sock_Table_unlink.B1 t i j n t58 w N1  R) :
    KW Tryz.prog 169 90 (sock_Table_unlink.RV R) ([(0, [1, 1, 1, 1, 0, 0, 0, 1]), (0, [1, 1, 1, 1, 0, 0, 1]), (2, [1, 1, 1, 1, 0, 0]), (1, [0])].map (toItem (Tryz.f169.body.getD .skip))) [(0, .pointer t), (1, .int .i64 i), (5, .int .i64 j), (6, .int .i64 n), (58, .bool t58)] w := by
  exact block_spec Tryz.func169 Tryz.mixed (stops_cons (fun σ w h => by
      obtain ⟨t_, e0, h⟩ := dP_elim h
      obtain ⟨i_, e1, h⟩ := dI_elim h
      obtain ⟨j_, e2, h⟩ := dI_elim h
      obtain ⟨n_, e3, h⟩ := dI_elim h
      exact (hN1 t_ i_ j_ n_ w h).weaken (Sub.cons (Sub.cons (Sub.cons (Sub.cons (Sub.nil _) e3) e2) e1) e0)) stops_nil) (Eq.mp (sock_Table_unlink.B1_eq t i j n t58 w N1  R ) h)
def sock_Table_unlink.L1b (t : Option Addr) (i j n : Int) (w : World)  (N1 : Option Addr → Int → Int → Int → World → Prop) (R : World → Prop) : Prop :=
  Bm (j != (-1 : Int)) (
    sock_Table_unlink.B1 t i j n (decide (n < (6 : Int))) w N1 R) (
    sock_Table_unlink.B1 t i j n false w N1 R)
theorem sock_Table_unlink.L1b_eq (t : Option Addr) (i j n : Int) (w : World)  (N1 : Option Addr → Int → Int → Int → World → Prop) (R : World → Prop) (sB1 : Option Addr → Int → Int → Int → Bool → World → Prop) :
    (
  Bm (j != (-1 : Int)) (
    sB1 t i j n (decide (n < (6 : Int))) w) (
    sB1 t i j n false w)) = kstep Tryz.prog 90 Tryz.f169.results.toList (Tryz.f169.body.getD .skip) (sock_Table_unlink.RV R) (kvc Tryz.prog 90 Tryz.f169.results.toList (Tryz.f169.body.getD .skip) (sock_Table_unlink.RV R) [([(0, [1, 1, 1, 1, 0, 0, 0, 1]), (0, [1, 1, 1, 1, 0, 0, 1]), (2, [1, 1, 1, 1, 0, 0]), (1, [0])], fun σ w => dP (slotOf σ 0) fun t_ => dI .i64 (slotOf σ 1) fun i_ => dI .i64 (slotOf σ 5) fun j_ => dI .i64 (slotOf σ 6) fun n_ => dB (slotOf σ 58) fun t58_ => sB1 t_ i_ j_ n_ t58_ w)] 2000) [(0, [1, 1, 1, 1, 0, 0]), (2, [1, 1, 1, 1, 0, 0]), (1, [0])] [(0, .pointer t), (1, .int .i64 i), (5, .int .i64 j), (6, .int .i64 n)] w := by kernel_rfl
theorem sock_Table_unlink.L1b_sound {R : World → Prop} {N1 : Option Addr → Int → Int → Int → World → Prop} (hN1 : ∀ t i j n w, N1 t i j n w → KW Tryz.prog 169 90 (sock_Table_unlink.RV R) ([(0, [1, 1, 1, 1, 0, 0]), (2, [1, 1, 1, 1, 0, 0]), (1, [0])].map (toItem (Tryz.f169.body.getD .skip))) [(0, .pointer t), (1, .int .i64 i), (5, .int .i64 j), (6, .int .i64 n)] w) (t : Option Addr) (i j n : Int) (w : World) (h : sock_Table_unlink.L1b t i j n w  N1 R) :
    KW Tryz.prog 169 90 (sock_Table_unlink.RV R) ([(0, [1, 1, 1, 1, 0, 0]), (2, [1, 1, 1, 1, 0, 0]), (1, [0])].map (toItem (Tryz.f169.body.getD .skip))) [(0, .pointer t), (1, .int .i64 i), (5, .int .i64 j), (6, .int .i64 n)] w := by
  exact block_spec Tryz.func169 Tryz.mixed (stops_cons (fun σ w h => by
      obtain ⟨t_, e0, h⟩ := dP_elim h
      obtain ⟨i_, e1, h⟩ := dI_elim h
      obtain ⟨j_, e2, h⟩ := dI_elim h
      obtain ⟨n_, e3, h⟩ := dI_elim h
      obtain ⟨t58_, e4, h⟩ := dB_elim h
      exact (sock_Table_unlink.B1_sound hN1 t_ i_ j_ n_ t58_ w h).weaken (Sub.cons (Sub.cons (Sub.cons (Sub.cons (Sub.cons (Sub.nil _) e4) e3) e2) e1) e0)) stops_nil) (Eq.mp (sock_Table_unlink.L1b_eq t i j n w  N1 R (fun t_ i_ j_ n_ t58_ w => sock_Table_unlink.B1 t_ i_ j_ n_ t58_ w N1 R)) h)
def sock_Table_unlink.L1 (t : Option Addr) (i j n : Int) (w : World)  (R : World → Prop) : Prop :=
  ∃ (I : Nat → Option Addr → Int → Int → Int → World → Prop) (m : Nat), I m t i j n w ∧ ∀ m t i j n w, I m t i j n w → sock_Table_unlink.L1b t i j n w  (fun t' i' j' n' w' => ∃ m', m' < m ∧ I m' t' i' j' n' w') R
theorem sock_Table_unlink.L1_sound {R : World → Prop}  (t : Option Addr) (i j n : Int) (w : World) (h : sock_Table_unlink.L1 t i j n w  R) :
    KW Tryz.prog 169 90 (sock_Table_unlink.RV R) ([(0, [1, 1, 1, 1, 0, 0]), (2, [1, 1, 1, 1, 0, 0]), (1, [0])].map (toItem (Tryz.f169.body.getD .skip))) [(0, .pointer t), (1, .int .i64 i), (5, .int .i64 j), (6, .int .i64 n)] w := by
  obtain ⟨I, m, hBase, hr⟩ := h
  refine KW.loop (fun m σ w => ∃ (t : Option Addr) (i j n : Int), σ = [(0, .pointer t), (1, .int .i64 i), (5, .int .i64 j), (6, .int .i64 n)] ∧ I m t i j n w) ?_ m _ w ⟨t, i, j, n, rfl, hBase⟩
  rintro m ih σ w ⟨t, i, j, n, rfl, hI⟩
  exact sock_Table_unlink.L1b_sound  (N1 := fun t' i' j' n' w' => ∃ m', m' < m ∧ I m' t' i' j' n' w') (fun t' i' j' n' w' hx => by obtain ⟨m', hlt, hI'⟩ := hx; exact ih m' hlt _ w' ⟨t', i', j', n', rfl, hI'⟩) t i j n w (hr m t i j n w hI)
def sock_Table_unlink.B0 (t : Option Addr) (i : Int) (w : World)   (R : World → Prop) : Prop :=
  Pn t fun a =>
  (0 ≤ i ∧ i < ((6 : Nat) : Int)) ∧
  LdI .i64 (((Addr.add a (i.toNat * 15)).add 1).add 2) w.drew fun x14 =>
  Pn t fun a_1 =>
  (0 ≤ i ∧ i < ((6 : Nat) : Int)) ∧
  LdI .i64 (((Addr.add a_1 (i.toNat * 15)).add 1).add 3) w.drew fun x22 =>
  Pn t fun a_2 =>
  (0 ≤ i ∧ i < ((6 : Nat) : Int)) ∧
  LdI .i64 (((Addr.add a_2 (i.toNat * 15)).add 1).add 4) w.drew fun x30 =>
  sock_hash.Call x14 x22 x30 w.drew fun r31 w1 =>
  Pn t fun a_3 =>
  (0 ≤ r31 ∧ r31 < ((4 : Nat) : Int)) ∧
  LdI .i64 (Addr.add (a_3.add 91) (r31.toNat * 1)) w1 fun x37 =>
  Bm (x37 == i) (
    Pn t fun a_4 =>
    (0 ≤ i ∧ i < ((6 : Nat) : Int)) ∧
    LdI .i64 ((Addr.add a_4 (i.toNat * 15)).add 9) w1.drew fun x49 =>
    Pn t fun a_5 =>
    (0 ≤ r31 ∧ r31 < ((4 : Nat) : Int)) ∧
    Sts [.int .i64 x49] (Addr.add (a_5.add 91) (r31.toNat * 1)) 0 w1.drew fun w2 =>
    R  w2) (
    sock_Table_unlink.L1 t i x37 (0 : Int) w1  R)
theorem sock_Table_unlink.B0_eq (t : Option Addr) (i : Int) (w : World)   (R : World → Prop) (sL1 : Option Addr → Int → Int → Int → World → Prop) :
    (
  Pn t fun a =>
  (0 ≤ i ∧ i < ((6 : Nat) : Int)) ∧
  LdI .i64 (((Addr.add a (i.toNat * 15)).add 1).add 2) w.drew fun x14 =>
  Pn t fun a_1 =>
  (0 ≤ i ∧ i < ((6 : Nat) : Int)) ∧
  LdI .i64 (((Addr.add a_1 (i.toNat * 15)).add 1).add 3) w.drew fun x22 =>
  Pn t fun a_2 =>
  (0 ≤ i ∧ i < ((6 : Nat) : Int)) ∧
  LdI .i64 (((Addr.add a_2 (i.toNat * 15)).add 1).add 4) w.drew fun x30 =>
  sock_hash.Call x14 x22 x30 w.drew fun r31 w1 =>
  Pn t fun a_3 =>
  (0 ≤ r31 ∧ r31 < ((4 : Nat) : Int)) ∧
  LdI .i64 (Addr.add (a_3.add 91) (r31.toNat * 1)) w1 fun x37 =>
  Bm (x37 == i) (
    Pn t fun a_4 =>
    (0 ≤ i ∧ i < ((6 : Nat) : Int)) ∧
    LdI .i64 ((Addr.add a_4 (i.toNat * 15)).add 9) w1.drew fun x49 =>
    Pn t fun a_5 =>
    (0 ≤ r31 ∧ r31 < ((4 : Nat) : Int)) ∧
    Sts [.int .i64 x49] (Addr.add (a_5.add 91) (r31.toNat * 1)) 0 w1.drew fun w2 =>
    R  w2) (
    sL1 t i x37 (0 : Int) w1)) = kstep Tryz.prog 90 Tryz.f169.results.toList (Tryz.f169.body.getD .skip) (sock_Table_unlink.RV R) (kvc Tryz.prog 90 Tryz.f169.results.toList (Tryz.f169.body.getD .skip) (sock_Table_unlink.RV R) [([(0, [1, 1, 1, 1, 0, 0]), (2, [1, 1, 1, 1, 0, 0]), (1, [0])], fun σ w => dP (slotOf σ 0) fun t_ => dI .i64 (slotOf σ 1) fun i_ => dI .i64 (slotOf σ 5) fun j_ => dI .i64 (slotOf σ 6) fun n_ => sL1 t_ i_ j_ n_ w)] 2000) [(0, [])] [(0, .pointer t), (1, .int .i64 i)] w := by kernel_rfl
theorem sock_Table_unlink.B0_sound {R : World → Prop}  (t : Option Addr) (i : Int) (w : World) (h : sock_Table_unlink.B0 t i w   R) :
    KW Tryz.prog 169 90 (sock_Table_unlink.RV R) ([(0, [])].map (toItem (Tryz.f169.body.getD .skip))) [(0, .pointer t), (1, .int .i64 i)] w := by
  exact block_spec Tryz.func169 Tryz.mixed (stops_cons (fun σ w h => by
      obtain ⟨t_, e0, h⟩ := dP_elim h
      obtain ⟨i_, e1, h⟩ := dI_elim h
      obtain ⟨j_, e2, h⟩ := dI_elim h
      obtain ⟨n_, e3, h⟩ := dI_elim h
      exact (sock_Table_unlink.L1_sound  t_ i_ j_ n_ w h).weaken (Sub.cons (Sub.cons (Sub.cons (Sub.cons (Sub.nil _) e3) e2) e1) e0)) stops_nil) (Eq.mp (sock_Table_unlink.B0_eq t i w   R (fun t_ i_ j_ n_ w => sock_Table_unlink.L1 t_ i_ j_ n_ w  R)) h)
theorem sock_Table_unlink.sound (t : Option Addr) (i : Int) (w : World) (R : World → Prop) (h : sock_Table_unlink.B0 t i w R) : sock_Table_unlink.Call t i w R := by
  have hc := calls_of_block (args := #[.pointer t, .int .i64 i]) Tryz.func169 (body := (Tryz.f169.body.getD .skip)) (by kernel_rfl) (by kernel_rfl) (args_slot _) (sock_Table_unlink.B0_sound t i w h)
  exact hc.mono fun e w' he => by
    obtain ⟨v, rfl, hv⟩ := he
    exact sock_Table_unlink.RV_elim hv
def sock_bitOf.B0 (s : Int) (w : World)   (R : Int → World → Prop) : Prop :=
  0 ≤ (IntKind.u64.wrap s) ∧
  R (IntKind.u8.wrap ((1 : Int) * 2 ^ (min (IntKind.u64.wrap s).toNat IntKind.u8.bits))) w
theorem sock_bitOf.B0_eq (s : Int) (w : World)   (R : Int → World → Prop)  :
    (
  0 ≤ (IntKind.u64.wrap s) ∧
  R (IntKind.u8.wrap ((1 : Int) * 2 ^ (min (IntKind.u64.wrap s).toNat IntKind.u8.bits))) w) = kstep Tryz.prog 6 Tryz.f170.results.toList (Tryz.f170.body.getD .skip) (sock_bitOf.RV R) (kvc Tryz.prog 6 Tryz.f170.results.toList (Tryz.f170.body.getD .skip) (sock_bitOf.RV R) [] 2000) [(0, [])] [(0, .int .i64 s)] w := by kernel_rfl
theorem sock_bitOf.B0_sound {R : Int → World → Prop}  (s : Int) (w : World) (h : sock_bitOf.B0 s w   R) :
    KW Tryz.prog 170 6 (sock_bitOf.RV R) ([(0, [])].map (toItem (Tryz.f170.body.getD .skip))) [(0, .int .i64 s)] w := by
  exact block_spec Tryz.func170 Tryz.mixed stops_nil (Eq.mp (sock_bitOf.B0_eq s w   R ) h)
theorem sock_bitOf.sound (s : Int) (w : World) (R : Int → World → Prop) (h : sock_bitOf.B0 s w R) : sock_bitOf.Call s w R := by
  have hc := calls_of_block (args := #[.int .i64 s]) Tryz.func170 (body := (Tryz.f170.body.getD .skip)) (by kernel_rfl) (by kernel_rfl) (args_slot _) (sock_bitOf.B0_sound s w h)
  exact hc.mono fun e w' he => by
    obtain ⟨v, rfl, hv⟩ := he
    exact sock_bitOf.RV_elim hv
def sock_Table_orphan.B0 (t : Option Addr) (i : Int) (w : World)   (R : World → Prop) : Prop :=
  Pn t fun a =>
  (0 ≤ i ∧ i < ((6 : Nat) : Int)) ∧
  LdI .i64 (((Addr.add a (i.toNat * 15)).add 1).add 6) w fun x12 =>
  Bm (x12 == (0 : Int)) (
    R  w) (
    Pn t fun a_1 =>
    (0 ≤ i ∧ i < ((6 : Nat) : Int)) ∧
    LdI .i64 (((Addr.add a_1 (i.toNat * 15)).add 1).add 2) w fun x22 =>
    sock_Table_listenerRow.Call t x22 w fun r23 w1 =>
    Bm (r23 == (-1 : Int)) (
      R  w1) (
      Pn t fun a_2 =>
      (0 ≤ r23 ∧ r23 < ((6 : Nat) : Int)) ∧
      LdI .i64 ((Addr.add a_2 (r23.toNat * 15)).add 10) w1.drew fun x32 =>
      Pn t fun a_3 =>
      (0 ≤ r23 ∧ r23 < ((6 : Nat) : Int)) ∧
      Sts [.int .i64 (IntKind.i64.wrap (x32 - (1 : Int)))] ((Addr.add a_3 (r23.toNat * 15)).add 10) 0 w1.drew fun w2 =>
      Pn t fun a_4 =>
      (0 ≤ i ∧ i < ((6 : Nat) : Int)) ∧
      LdB (((Addr.add a_4 (i.toNat * 15)).add 1).add 7) w2 fun x45 =>
      Bm x45 (
        Pn t fun a_5 =>
        (0 ≤ i ∧ i < ((6 : Nat) : Int)) ∧
        LdI .i64 ((Addr.add a_5 (i.toNat * 15)).add 1) w2 fun x55 =>
        sock_Table_leave.Call t r23 x55 w2 fun w3 =>
        R  w3) (
        R  w2)))
theorem sock_Table_orphan.B0_eq (t : Option Addr) (i : Int) (w : World)   (R : World → Prop)  :
    (
  Pn t fun a =>
  (0 ≤ i ∧ i < ((6 : Nat) : Int)) ∧
  LdI .i64 (((Addr.add a (i.toNat * 15)).add 1).add 6) w fun x12 =>
  Bm (x12 == (0 : Int)) (
    R  w) (
    Pn t fun a_1 =>
    (0 ≤ i ∧ i < ((6 : Nat) : Int)) ∧
    LdI .i64 (((Addr.add a_1 (i.toNat * 15)).add 1).add 2) w fun x22 =>
    sock_Table_listenerRow.Call t x22 w fun r23 w1 =>
    Bm (r23 == (-1 : Int)) (
      R  w1) (
      Pn t fun a_2 =>
      (0 ≤ r23 ∧ r23 < ((6 : Nat) : Int)) ∧
      LdI .i64 ((Addr.add a_2 (r23.toNat * 15)).add 10) w1.drew fun x32 =>
      Pn t fun a_3 =>
      (0 ≤ r23 ∧ r23 < ((6 : Nat) : Int)) ∧
      Sts [.int .i64 (IntKind.i64.wrap (x32 - (1 : Int)))] ((Addr.add a_3 (r23.toNat * 15)).add 10) 0 w1.drew fun w2 =>
      Pn t fun a_4 =>
      (0 ≤ i ∧ i < ((6 : Nat) : Int)) ∧
      LdB (((Addr.add a_4 (i.toNat * 15)).add 1).add 7) w2 fun x45 =>
      Bm x45 (
        Pn t fun a_5 =>
        (0 ≤ i ∧ i < ((6 : Nat) : Int)) ∧
        LdI .i64 ((Addr.add a_5 (i.toNat * 15)).add 1) w2 fun x55 =>
        sock_Table_leave.Call t r23 x55 w2 fun w3 =>
        R  w3) (
        R  w2)))) = kstep Tryz.prog 57 Tryz.f171.results.toList (Tryz.f171.body.getD .skip) (sock_Table_orphan.RV R) (kvc Tryz.prog 57 Tryz.f171.results.toList (Tryz.f171.body.getD .skip) (sock_Table_orphan.RV R) [] 2000) [(0, [])] [(0, .pointer t), (1, .int .i64 i)] w := by kernel_rfl
theorem sock_Table_orphan.B0_sound {R : World → Prop}  (t : Option Addr) (i : Int) (w : World) (h : sock_Table_orphan.B0 t i w   R) :
    KW Tryz.prog 171 57 (sock_Table_orphan.RV R) ([(0, [])].map (toItem (Tryz.f171.body.getD .skip))) [(0, .pointer t), (1, .int .i64 i)] w := by
  exact block_spec Tryz.func171 Tryz.mixed stops_nil (Eq.mp (sock_Table_orphan.B0_eq t i w   R ) h)
theorem sock_Table_orphan.sound (t : Option Addr) (i : Int) (w : World) (R : World → Prop) (h : sock_Table_orphan.B0 t i w R) : sock_Table_orphan.Call t i w R := by
  have hc := calls_of_block (args := #[.pointer t, .int .i64 i]) Tryz.func171 (body := (Tryz.f171.body.getD .skip)) (by kernel_rfl) (by kernel_rfl) (args_slot _) (sock_Table_orphan.B0_sound t i w h)
  exact hc.mono fun e w' he => by
    obtain ⟨v, rfl, hv⟩ := he
    exact sock_Table_orphan.RV_elim hv
def sock_Table_give.B0 (t : Option Addr) (i : Int) (w : World)   (R : World → Prop) : Prop :=
  Pn t fun a =>
  LdI .i64 (a.add 90) w.drew fun x9 =>
  Pn t fun a_1 =>
  (0 ≤ i ∧ i < ((6 : Nat) : Int)) ∧
  Sts [.bool false, .int .i64 (0 : Int), .int .i64 (0 : Int), .int .i64 (0 : Int), .int .i64 (0 : Int), .int .i64 (0 : Int), .int .i64 (0 : Int), .int .i64 (0 : Int), .bool false, .int .i64 x9, .int .i64 (0 : Int), .int .i64 (0 : Int), .int .i64 (0 : Int), .int .i64 (0 : Int), .int .i64 (0 : Int)] (Addr.add a_1 (i.toNat * 15)) 0 w.drew fun w1 =>
  Pn t fun a_2 =>
  Sts [.int .i64 i] (a_2.add 90) 0 w1 fun w2 =>
  R  w2
theorem sock_Table_give.B0_eq (t : Option Addr) (i : Int) (w : World)   (R : World → Prop)  :
    (
  Pn t fun a =>
  LdI .i64 (a.add 90) w.drew fun x9 =>
  Pn t fun a_1 =>
  (0 ≤ i ∧ i < ((6 : Nat) : Int)) ∧
  Sts [.bool false, .int .i64 (0 : Int), .int .i64 (0 : Int), .int .i64 (0 : Int), .int .i64 (0 : Int), .int .i64 (0 : Int), .int .i64 (0 : Int), .int .i64 (0 : Int), .bool false, .int .i64 x9, .int .i64 (0 : Int), .int .i64 (0 : Int), .int .i64 (0 : Int), .int .i64 (0 : Int), .int .i64 (0 : Int)] (Addr.add a_1 (i.toNat * 15)) 0 w.drew fun w1 =>
  Pn t fun a_2 =>
  Sts [.int .i64 i] (a_2.add 90) 0 w1 fun w2 =>
  R  w2) = kstep Tryz.prog 18 Tryz.f172.results.toList (Tryz.f172.body.getD .skip) (sock_Table_give.RV R) (kvc Tryz.prog 18 Tryz.f172.results.toList (Tryz.f172.body.getD .skip) (sock_Table_give.RV R) [] 2000) [(0, [])] [(0, .pointer t), (1, .int .i64 i)] w := by kernel_rfl
theorem sock_Table_give.B0_sound {R : World → Prop}  (t : Option Addr) (i : Int) (w : World) (h : sock_Table_give.B0 t i w   R) :
    KW Tryz.prog 172 18 (sock_Table_give.RV R) ([(0, [])].map (toItem (Tryz.f172.body.getD .skip))) [(0, .pointer t), (1, .int .i64 i)] w := by
  exact block_spec Tryz.func172 Tryz.mixed stops_nil (Eq.mp (sock_Table_give.B0_eq t i w   R ) h)
theorem sock_Table_give.sound (t : Option Addr) (i : Int) (w : World) (R : World → Prop) (h : sock_Table_give.B0 t i w R) : sock_Table_give.Call t i w R := by
  have hc := calls_of_block (args := #[.pointer t, .int .i64 i]) Tryz.func172 (body := (Tryz.f172.body.getD .skip)) (by kernel_rfl) (by kernel_rfl) (args_slot _) (sock_Table_give.B0_sound t i w h)
  exact hc.mono fun e w' he => by
    obtain ⟨v, rfl, hv⟩ := he
    exact sock_Table_give.RV_elim hv
def sock_Table_take.B0 (t : Option Addr) (w : World)   (R : Int → World → Prop) : Prop :=
  Pn t fun a =>
  LdI .i64 (a.add 90) w fun x7 =>
  Bm (x7 != (-1 : Int)) (
    Pn t fun a_1 =>
    (0 ≤ x7 ∧ x7 < ((6 : Nat) : Int)) ∧
    LdI .i64 ((Addr.add a_1 (x7.toNat * 15)).add 9) w fun x17 =>
    Pn t fun a_2 =>
    Sts [.int .i64 x17] (a_2.add 90) 0 w fun w1 =>
    Pn t fun a_3 =>
    (0 ≤ x7 ∧ x7 < ((6 : Nat) : Int)) ∧
    Sts [.bool true, .int .i64 (0 : Int), .int .i64 (0 : Int), .int .i64 (0 : Int), .int .i64 (0 : Int), .int .i64 (0 : Int), .int .i64 (0 : Int), .int .i64 (0 : Int), .bool false, .int .i64 (-1 : Int), .int .i64 (0 : Int), .int .i64 (0 : Int), .int .i64 (0 : Int), .int .i64 (0 : Int), .int .i64 (0 : Int)] (Addr.add a_3 (x7.toNat * 15)) 0 w1 fun w2 =>
    R x7 w2) (
    R x7 w)
theorem sock_Table_take.B0_eq (t : Option Addr) (w : World)   (R : Int → World → Prop)  :
    (
  Pn t fun a =>
  LdI .i64 (a.add 90) w fun x7 =>
  Bm (x7 != (-1 : Int)) (
    Pn t fun a_1 =>
    (0 ≤ x7 ∧ x7 < ((6 : Nat) : Int)) ∧
    LdI .i64 ((Addr.add a_1 (x7.toNat * 15)).add 9) w fun x17 =>
    Pn t fun a_2 =>
    Sts [.int .i64 x17] (a_2.add 90) 0 w fun w1 =>
    Pn t fun a_3 =>
    (0 ≤ x7 ∧ x7 < ((6 : Nat) : Int)) ∧
    Sts [.bool true, .int .i64 (0 : Int), .int .i64 (0 : Int), .int .i64 (0 : Int), .int .i64 (0 : Int), .int .i64 (0 : Int), .int .i64 (0 : Int), .int .i64 (0 : Int), .bool false, .int .i64 (-1 : Int), .int .i64 (0 : Int), .int .i64 (0 : Int), .int .i64 (0 : Int), .int .i64 (0 : Int), .int .i64 (0 : Int)] (Addr.add a_3 (x7.toNat * 15)) 0 w1 fun w2 =>
    R x7 w2) (
    R x7 w)) = kstep Tryz.prog 27 Tryz.f173.results.toList (Tryz.f173.body.getD .skip) (sock_Table_take.RV R) (kvc Tryz.prog 27 Tryz.f173.results.toList (Tryz.f173.body.getD .skip) (sock_Table_take.RV R) [] 2000) [(0, [])] [(0, .pointer t)] w := by kernel_rfl
theorem sock_Table_take.B0_sound {R : Int → World → Prop}  (t : Option Addr) (w : World) (h : sock_Table_take.B0 t w   R) :
    KW Tryz.prog 173 27 (sock_Table_take.RV R) ([(0, [])].map (toItem (Tryz.f173.body.getD .skip))) [(0, .pointer t)] w := by
  exact block_spec Tryz.func173 Tryz.mixed stops_nil (Eq.mp (sock_Table_take.B0_eq t w   R ) h)
theorem sock_Table_take.sound (t : Option Addr) (w : World) (R : Int → World → Prop) (h : sock_Table_take.B0 t w R) : sock_Table_take.Call t w R := by
  have hc := calls_of_block (args := #[.pointer t]) Tryz.func173 (body := (Tryz.f173.body.getD .skip)) (by kernel_rfl) (by kernel_rfl) (args_slot _) (sock_Table_take.B0_sound t w h)
  exact hc.mono fun e w' he => by
    obtain ⟨v, rfl, hv⟩ := he
    exact sock_Table_take.RV_elim hv
def sock_Table_lowBlock.L1b (t : Option Addr) (s : Int) (w : World)  (N1 : Option Addr → Int → World → Prop) (R : Int → World → Prop) : Prop :=
  Bm (decide (s < (4 : Int))) (
    Pn t fun a =>
    LdI .u8 (a.add 103) w.drew fun x11 =>
    sock_bitOf.Call s w.drew fun r13 w1 =>
    w1.cell? (a.add 103) = some (.int .u8 x11) ∧
    Bm ((IntKind.u8.wrap (BitVec.ofInt IntKind.u8.bits x11 &&& BitVec.ofInt IntKind.u8.bits r13).toNat) == (0 : Int)) (
      R s w1) (
      N1 t (IntKind.i64.wrap (s + (1 : Int))) w1)) (
    R (-1 : Int) w)
theorem sock_Table_lowBlock.L1b_eq (t : Option Addr) (s : Int) (w : World)  (N1 : Option Addr → Int → World → Prop) (R : Int → World → Prop)  :
    (
  Bm (decide (s < (4 : Int))) (
    Pn t fun a =>
    LdI .u8 (a.add 103) w.drew fun x11 =>
    sock_bitOf.Call s w.drew fun r13 w1 =>
    w1.cell? (a.add 103) = some (.int .u8 x11) ∧
    Bm ((IntKind.u8.wrap (BitVec.ofInt IntKind.u8.bits x11 &&& BitVec.ofInt IntKind.u8.bits r13).toNat) == (0 : Int)) (
      R s w1) (
      N1 t (IntKind.i64.wrap (s + (1 : Int))) w1)) (
    R (-1 : Int) w)) = kstep Tryz.prog 17 Tryz.f174.results.toList (Tryz.f174.body.getD .skip) (sock_Table_lowBlock.RV R) (kvc Tryz.prog 17 Tryz.f174.results.toList (Tryz.f174.body.getD .skip) (sock_Table_lowBlock.RV R) [([(0, [1, 0, 1, 0, 0]), (2, [1, 0, 1, 0, 0]), (1, [0]), (0, [1, 1])], fun σ w => dP (slotOf σ 0) fun t_ => dI .i64 (slotOf σ 3) fun s_ => N1 t_ s_ w)] 2000) [(0, [1, 0, 1, 0, 0]), (2, [1, 0, 1, 0, 0]), (1, [0]), (0, [1, 1])] [(0, .pointer t), (3, .int .i64 s)] w := by kernel_rfl
theorem sock_Table_lowBlock.L1b_sound {R : Int → World → Prop} {N1 : Option Addr → Int → World → Prop} (hN1 : ∀ t s w, N1 t s w → KW Tryz.prog 174 17 (sock_Table_lowBlock.RV R) ([(0, [1, 0, 1, 0, 0]), (2, [1, 0, 1, 0, 0]), (1, [0]), (0, [1, 1])].map (toItem (Tryz.f174.body.getD .skip))) [(0, .pointer t), (3, .int .i64 s)] w) (t : Option Addr) (s : Int) (w : World) (h : sock_Table_lowBlock.L1b t s w  N1 R) :
    KW Tryz.prog 174 17 (sock_Table_lowBlock.RV R) ([(0, [1, 0, 1, 0, 0]), (2, [1, 0, 1, 0, 0]), (1, [0]), (0, [1, 1])].map (toItem (Tryz.f174.body.getD .skip))) [(0, .pointer t), (3, .int .i64 s)] w := by
  exact block_spec Tryz.func174 Tryz.mixed (stops_cons (fun σ w h => by
      obtain ⟨t_, e0, h⟩ := dP_elim h
      obtain ⟨s_, e1, h⟩ := dI_elim h
      exact (hN1 t_ s_ w h).weaken (Sub.cons (Sub.cons (Sub.nil _) e1) e0)) stops_nil) (Eq.mp (sock_Table_lowBlock.L1b_eq t s w  N1 R ) h)
def sock_Table_lowBlock.L1 (t : Option Addr) (s : Int) (w : World)  (R : Int → World → Prop) : Prop :=
  ∃ (I : Nat → Option Addr → Int → World → Prop) (m : Nat), I m t s w ∧ ∀ m t s w, I m t s w → sock_Table_lowBlock.L1b t s w  (fun t' s' w' => ∃ m', m' < m ∧ I m' t' s' w') R
theorem sock_Table_lowBlock.L1_sound {R : Int → World → Prop}  (t : Option Addr) (s : Int) (w : World) (h : sock_Table_lowBlock.L1 t s w  R) :
    KW Tryz.prog 174 17 (sock_Table_lowBlock.RV R) ([(0, [1, 0, 1, 0, 0]), (2, [1, 0, 1, 0, 0]), (1, [0]), (0, [1, 1])].map (toItem (Tryz.f174.body.getD .skip))) [(0, .pointer t), (3, .int .i64 s)] w := by
  obtain ⟨I, m, hBase, hr⟩ := h
  refine KW.loop (fun m σ w => ∃ (t : Option Addr) (s : Int), σ = [(0, .pointer t), (3, .int .i64 s)] ∧ I m t s w) ?_ m _ w ⟨t, s, rfl, hBase⟩
  rintro m ih σ w ⟨t, s, rfl, hI⟩
  exact sock_Table_lowBlock.L1b_sound  (N1 := fun t' s' w' => ∃ m', m' < m ∧ I m' t' s' w') (fun t' s' w' hx => by obtain ⟨m', hlt, hI'⟩ := hx; exact ih m' hlt _ w' ⟨t', s', rfl, hI'⟩) t s w (hr m t s w hI)
def sock_Table_lowBlock.B0 (t : Option Addr) (w : World)   (R : Int → World → Prop) : Prop :=
  sock_Table_lowBlock.L1 t (0 : Int) w  R
theorem sock_Table_lowBlock.B0_eq (t : Option Addr) (w : World)   (R : Int → World → Prop) (sL1 : Option Addr → Int → World → Prop) :
    (
  sL1 t (0 : Int) w) = kstep Tryz.prog 17 Tryz.f174.results.toList (Tryz.f174.body.getD .skip) (sock_Table_lowBlock.RV R) (kvc Tryz.prog 17 Tryz.f174.results.toList (Tryz.f174.body.getD .skip) (sock_Table_lowBlock.RV R) [([(0, [1, 0, 1, 0, 0]), (2, [1, 0, 1, 0, 0]), (1, [0]), (0, [1, 1])], fun σ w => dP (slotOf σ 0) fun t_ => dI .i64 (slotOf σ 3) fun s_ => sL1 t_ s_ w)] 2000) [(0, [])] [(0, .pointer t)] w := by kernel_rfl
theorem sock_Table_lowBlock.B0_sound {R : Int → World → Prop}  (t : Option Addr) (w : World) (h : sock_Table_lowBlock.B0 t w   R) :
    KW Tryz.prog 174 17 (sock_Table_lowBlock.RV R) ([(0, [])].map (toItem (Tryz.f174.body.getD .skip))) [(0, .pointer t)] w := by
  exact block_spec Tryz.func174 Tryz.mixed (stops_cons (fun σ w h => by
      obtain ⟨t_, e0, h⟩ := dP_elim h
      obtain ⟨s_, e1, h⟩ := dI_elim h
      exact (sock_Table_lowBlock.L1_sound  t_ s_ w h).weaken (Sub.cons (Sub.cons (Sub.nil _) e1) e0)) stops_nil) (Eq.mp (sock_Table_lowBlock.B0_eq t w   R (fun t_ s_ w => sock_Table_lowBlock.L1 t_ s_ w  R)) h)
theorem sock_Table_lowBlock.sound (t : Option Addr) (w : World) (R : Int → World → Prop) (h : sock_Table_lowBlock.B0 t w R) : sock_Table_lowBlock.Call t w R := by
  have hc := calls_of_block (args := #[.pointer t]) Tryz.func174 (body := (Tryz.f174.body.getD .skip)) (by kernel_rfl) (by kernel_rfl) (args_slot _) (sock_Table_lowBlock.B0_sound t w h)
  exact hc.mono fun e w' he => by
    obtain ⟨v, rfl, hv⟩ := he
    exact sock_Table_lowBlock.RV_elim hv
def sock_nextEph.B0 (p : Int) (w : World)   (R : Int → World → Prop) : Prop :=
  Bm (decide (p ≥ (15 : Int))) (
    R (8 : Int) w) (
    R (IntKind.i64.wrap (p + (1 : Int))) w)
theorem sock_nextEph.B0_eq (p : Int) (w : World)   (R : Int → World → Prop)  :
    (
  Bm (decide (p ≥ (15 : Int))) (
    R (8 : Int) w) (
    R (IntKind.i64.wrap (p + (1 : Int))) w)) = kstep Tryz.prog 7 Tryz.f175.results.toList (Tryz.f175.body.getD .skip) (sock_nextEph.RV R) (kvc Tryz.prog 7 Tryz.f175.results.toList (Tryz.f175.body.getD .skip) (sock_nextEph.RV R) [] 2000) [(0, [])] [(0, .int .i64 p)] w := by kernel_rfl
theorem sock_nextEph.B0_sound {R : Int → World → Prop}  (p : Int) (w : World) (h : sock_nextEph.B0 p w   R) :
    KW Tryz.prog 175 7 (sock_nextEph.RV R) ([(0, [])].map (toItem (Tryz.f175.body.getD .skip))) [(0, .int .i64 p)] w := by
  exact block_spec Tryz.func175 Tryz.mixed stops_nil (Eq.mp (sock_nextEph.B0_eq p w   R ) h)
theorem sock_nextEph.sound (p : Int) (w : World) (R : Int → World → Prop) (h : sock_nextEph.B0 p w R) : sock_nextEph.Call p w R := by
  have hc := calls_of_block (args := #[.int .i64 p]) Tryz.func175 (body := (Tryz.f175.body.getD .skip)) (by kernel_rfl) (by kernel_rfl) (args_slot _) (sock_nextEph.B0_sound p w h)
  exact hc.mono fun e w' he => by
    obtain ⟨v, rfl, hv⟩ := he
    exact sock_nextEph.RV_elim hv
def sock_Table_conn.B0 (t : Option Addr) (lport rhost rport slot parent : Int) (w : World)   (R : Int → World → Prop) : Prop :=
  sock_Table_take.Call t w fun r16 w1 =>
  Bm (r16 == (-1 : Int)) (
    R (0 : Int) w1) (
    Pn t fun a =>
    LdI .i64 (a.add 105) w1 fun x22 =>
    Pn t fun a_1 =>
    LdI .i64 (a_1.add 105) w1 fun x26 =>
    Pn t fun a_2 =>
    Sts [.int .i64 (IntKind.i64.wrap (x26 + (1 : Int)))] (a_2.add 105) 0 w1 fun w2 =>
    Pn t fun a_3 =>
    (0 ≤ r16 ∧ r16 < ((6 : Nat) : Int)) ∧
    Sts [.int .i64 x22, .int .i64 (2 : Int), .int .i64 lport, .int .i64 rhost, .int .i64 rport, .int .i64 slot, .int .i64 parent, .bool false] ((Addr.add a_3 (r16.toNat * 15)).add 1) 0 w2 fun w3 =>
    Pn t fun a_4 =>
    LdI .u8 (a_4.add 103) w3.drew fun x46 =>
    sock_bitOf.Call slot w3.drew fun r48 w4 =>
    w4.cell? (a_4.add 103) = some (.int .u8 x46) ∧
    Pn t fun a_5 =>
    Sts [.int .u8 (IntKind.u8.wrap (BitVec.ofInt IntKind.u8.bits x46 ||| BitVec.ofInt IntKind.u8.bits r48).toNat)] (a_5.add 103) 0 w4 fun w5 =>
    sock_Table_link.Call t r16 w5 fun w6 =>
    R x22 w6)
theorem sock_Table_conn.B0_eq (t : Option Addr) (lport rhost rport slot parent : Int) (w : World)   (R : Int → World → Prop)  :
    (
  sock_Table_take.Call t w fun r16 w1 =>
  Bm (r16 == (-1 : Int)) (
    R (0 : Int) w1) (
    Pn t fun a =>
    LdI .i64 (a.add 105) w1 fun x22 =>
    Pn t fun a_1 =>
    LdI .i64 (a_1.add 105) w1 fun x26 =>
    Pn t fun a_2 =>
    Sts [.int .i64 (IntKind.i64.wrap (x26 + (1 : Int)))] (a_2.add 105) 0 w1 fun w2 =>
    Pn t fun a_3 =>
    (0 ≤ r16 ∧ r16 < ((6 : Nat) : Int)) ∧
    Sts [.int .i64 x22, .int .i64 (2 : Int), .int .i64 lport, .int .i64 rhost, .int .i64 rport, .int .i64 slot, .int .i64 parent, .bool false] ((Addr.add a_3 (r16.toNat * 15)).add 1) 0 w2 fun w3 =>
    Pn t fun a_4 =>
    LdI .u8 (a_4.add 103) w3.drew fun x46 =>
    sock_bitOf.Call slot w3.drew fun r48 w4 =>
    w4.cell? (a_4.add 103) = some (.int .u8 x46) ∧
    Pn t fun a_5 =>
    Sts [.int .u8 (IntKind.u8.wrap (BitVec.ofInt IntKind.u8.bits x46 ||| BitVec.ofInt IntKind.u8.bits r48).toNat)] (a_5.add 103) 0 w4 fun w5 =>
    sock_Table_link.Call t r16 w5 fun w6 =>
    R x22 w6)) = kstep Tryz.prog 56 Tryz.f176.results.toList (Tryz.f176.body.getD .skip) (sock_Table_conn.RV R) (kvc Tryz.prog 56 Tryz.f176.results.toList (Tryz.f176.body.getD .skip) (sock_Table_conn.RV R) [] 2000) [(0, [])] [(0, .pointer t), (1, .int .i64 lport), (2, .int .i64 rhost), (3, .int .i64 rport), (4, .int .i64 slot), (5, .int .i64 parent)] w := by kernel_rfl
theorem sock_Table_conn.B0_sound {R : Int → World → Prop}  (t : Option Addr) (lport rhost rport slot parent : Int) (w : World) (h : sock_Table_conn.B0 t lport rhost rport slot parent w   R) :
    KW Tryz.prog 176 56 (sock_Table_conn.RV R) ([(0, [])].map (toItem (Tryz.f176.body.getD .skip))) [(0, .pointer t), (1, .int .i64 lport), (2, .int .i64 rhost), (3, .int .i64 rport), (4, .int .i64 slot), (5, .int .i64 parent)] w := by
  exact block_spec Tryz.func176 Tryz.mixed stops_nil (Eq.mp (sock_Table_conn.B0_eq t lport rhost rport slot parent w   R ) h)
theorem sock_Table_conn.sound (t : Option Addr) (lport rhost rport slot parent : Int) (w : World) (R : Int → World → Prop) (h : sock_Table_conn.B0 t lport rhost rport slot parent w R) : sock_Table_conn.Call t lport rhost rport slot parent w R := by
  have hc := calls_of_block (args := #[.pointer t, .int .i64 lport, .int .i64 rhost, .int .i64 rport, .int .i64 slot, .int .i64 parent]) Tryz.func176 (body := (Tryz.f176.body.getD .skip)) (by kernel_rfl) (by kernel_rfl) (args_slot _) (sock_Table_conn.B0_sound t lport rhost rport slot parent w h)
  exact hc.mono fun e w' he => by
    obtain ⟨v, rfl, hv⟩ := he
    exact sock_Table_conn.RV_elim hv
def conn_Conn_begin.B0 (c : Option Addr) (st iss : Int) (w : World)   (R : World → Prop) : Prop :=
  conn_Conn_wipe.Call c w fun w1 =>
  Pn c fun a =>
  Sts [.int .i64 st] (a.add 2) 0 w1 fun w2 =>
  api_SeqAdd.Call iss (0 : Int) w2 fun r14 w3 =>
  Pn c fun a_1 =>
  Sts [.int .i64 r14] (a_1.add 8) 0 w3 fun w4 =>
  Pn c fun a_2 =>
  LdP a_2 w4.drew fun x20 =>
  Pn c fun a_3 =>
  LdI .i64 (a_3.add 8) w4.drew fun x24 =>
  seg_SendBuf_Reset.Call x20 x24 w4.drew fun w5 =>
  Pn c fun a_4 =>
  Sts [.int .i64 (11 : Int)] (a_4.add 12) 0 w5 fun w6 =>
  Pn c fun a_5 =>
  Sts [.int .i64 (2 : Int)] (a_5.add 10) 0 w6 fun w7 =>
  R  w7
theorem conn_Conn_begin.B0_eq (c : Option Addr) (st iss : Int) (w : World)   (R : World → Prop)  :
    (
  conn_Conn_wipe.Call c w fun w1 =>
  Pn c fun a =>
  Sts [.int .i64 st] (a.add 2) 0 w1 fun w2 =>
  api_SeqAdd.Call iss (0 : Int) w2 fun r14 w3 =>
  Pn c fun a_1 =>
  Sts [.int .i64 r14] (a_1.add 8) 0 w3 fun w4 =>
  Pn c fun a_2 =>
  LdP a_2 w4.drew fun x20 =>
  Pn c fun a_3 =>
  LdI .i64 (a_3.add 8) w4.drew fun x24 =>
  seg_SendBuf_Reset.Call x20 x24 w4.drew fun w5 =>
  Pn c fun a_4 =>
  Sts [.int .i64 (11 : Int)] (a_4.add 12) 0 w5 fun w6 =>
  Pn c fun a_5 =>
  Sts [.int .i64 (2 : Int)] (a_5.add 10) 0 w6 fun w7 =>
  R  w7) = kstep Tryz.prog 32 Tryz.f177.results.toList (Tryz.f177.body.getD .skip) (conn_Conn_begin.RV R) (kvc Tryz.prog 32 Tryz.f177.results.toList (Tryz.f177.body.getD .skip) (conn_Conn_begin.RV R) [] 2000) [(0, [])] [(0, .pointer c), (1, .int .i64 st), (2, .int .i64 iss)] w := by kernel_rfl
theorem conn_Conn_begin.B0_sound {R : World → Prop}  (c : Option Addr) (st iss : Int) (w : World) (h : conn_Conn_begin.B0 c st iss w   R) :
    KW Tryz.prog 177 32 (conn_Conn_begin.RV R) ([(0, [])].map (toItem (Tryz.f177.body.getD .skip))) [(0, .pointer c), (1, .int .i64 st), (2, .int .i64 iss)] w := by
  exact block_spec Tryz.func177 Tryz.mixed stops_nil (Eq.mp (conn_Conn_begin.B0_eq c st iss w   R ) h)
theorem conn_Conn_begin.sound (c : Option Addr) (st iss : Int) (w : World) (R : World → Prop) (h : conn_Conn_begin.B0 c st iss w R) : conn_Conn_begin.Call c st iss w R := by
  have hc := calls_of_block (args := #[.pointer c, .int .i64 st, .int .i64 iss]) Tryz.func177 (body := (Tryz.f177.body.getD .skip)) (by kernel_rfl) (by kernel_rfl) (args_slot _) (conn_Conn_begin.B0_sound c st iss w h)
  exact hc.mono fun e w' he => by
    obtain ⟨v, rfl, hv⟩ := he
    exact conn_Conn_begin.RV_elim hv
def conn_one.B0 (s_0 s_1 s_2 s_3 s_4 s_5 : Int) (s_6_b : Option Addr) (s_6_l s_6_c : Nat) (w : World)   (R : Option Addr → Nat → Nat → World → Prop) : Prop :=
  New (.cells #[.int .i64 s_0, .int .i64 s_1, .int .i64 s_2, .int .i64 s_3, .int .i64 s_4, .int .i64 s_5, .slice s_6_b s_6_l s_6_c] 177) w fun s_ w1 =>
  LdI .i64 ⟨s_, 0, none⟩ w1 fun x3_0 =>
  LdI .i64 ⟨s_, 1, none⟩ w1 fun x3_1 =>
  LdI .i64 ⟨s_, 2, none⟩ w1 fun x3_2 =>
  LdI .i64 ⟨s_, 3, none⟩ w1 fun x3_3 =>
  LdI .i64 ⟨s_, 4, none⟩ w1 fun x3_4 =>
  LdI .i64 ⟨s_, 5, none⟩ w1 fun x3_5 =>
  LdL ⟨s_, 6, none⟩ w1 fun x3_6_b x3_6_l x3_6_c =>
  New (.cells #[.int .i64 x3_0, .int .i64 x3_1, .int .i64 x3_2, .int .i64 x3_3, .int .i64 x3_4, .int .i64 x3_5, .slice x3_6_b x3_6_l x3_6_c] 177) w1 fun b4 w2 =>
  R (some ⟨b4, 0, none⟩) 1 1 w2
theorem conn_one.B0_eq (s_0 s_1 s_2 s_3 s_4 s_5 : Int) (s_6_b : Option Addr) (s_6_l s_6_c : Nat) (w : World)   (R : Option Addr → Nat → Nat → World → Prop)  :
    (
  New (.cells #[.int .i64 s_0, .int .i64 s_1, .int .i64 s_2, .int .i64 s_3, .int .i64 s_4, .int .i64 s_5, .slice s_6_b s_6_l s_6_c] 177) w fun s_ w1 =>
  LdI .i64 ⟨s_, 0, none⟩ w1 fun x3_0 =>
  LdI .i64 ⟨s_, 1, none⟩ w1 fun x3_1 =>
  LdI .i64 ⟨s_, 2, none⟩ w1 fun x3_2 =>
  LdI .i64 ⟨s_, 3, none⟩ w1 fun x3_3 =>
  LdI .i64 ⟨s_, 4, none⟩ w1 fun x3_4 =>
  LdI .i64 ⟨s_, 5, none⟩ w1 fun x3_5 =>
  LdL ⟨s_, 6, none⟩ w1 fun x3_6_b x3_6_l x3_6_c =>
  New (.cells #[.int .i64 x3_0, .int .i64 x3_1, .int .i64 x3_2, .int .i64 x3_3, .int .i64 x3_4, .int .i64 x3_5, .slice x3_6_b x3_6_l x3_6_c] 177) w1 fun b4 w2 =>
  R (some ⟨b4, 0, none⟩) 1 1 w2) = kstep Tryz.prog 5 Tryz.f178.results.toList (Tryz.f178.body.getD .skip) (conn_one.RV R) (kvc Tryz.prog 5 Tryz.f178.results.toList (Tryz.f178.body.getD .skip) (conn_one.RV R) [] 2000) [(0, [])] [(0, .agg #[.int .i64 s_0, .int .i64 s_1, .int .i64 s_2, .int .i64 s_3, .int .i64 s_4, .int .i64 s_5, .slice s_6_b s_6_l s_6_c])] w := by kernel_rfl
theorem conn_one.B0_sound {R : Option Addr → Nat → Nat → World → Prop}  (s_0 s_1 s_2 s_3 s_4 s_5 : Int) (s_6_b : Option Addr) (s_6_l s_6_c : Nat) (w : World) (h : conn_one.B0 s_0 s_1 s_2 s_3 s_4 s_5 s_6_b s_6_l s_6_c w   R) :
    KW Tryz.prog 178 5 (conn_one.RV R) ([(0, [])].map (toItem (Tryz.f178.body.getD .skip))) [(0, .agg #[.int .i64 s_0, .int .i64 s_1, .int .i64 s_2, .int .i64 s_3, .int .i64 s_4, .int .i64 s_5, .slice s_6_b s_6_l s_6_c])] w := by
  exact block_spec Tryz.func178 Tryz.mixed stops_nil (Eq.mp (conn_one.B0_eq s_0 s_1 s_2 s_3 s_4 s_5 s_6_b s_6_l s_6_c w   R ) h)
theorem conn_one.sound (s_0 s_1 s_2 s_3 s_4 s_5 : Int) (s_6_b : Option Addr) (s_6_l s_6_c : Nat) (w : World) (R : Option Addr → Nat → Nat → World → Prop) (h : conn_one.B0 s_0 s_1 s_2 s_3 s_4 s_5 s_6_b s_6_l s_6_c w R) : conn_one.Call s_0 s_1 s_2 s_3 s_4 s_5 s_6_b s_6_l s_6_c w R := by
  have hc := calls_of_block (args := #[.agg #[.int .i64 s_0, .int .i64 s_1, .int .i64 s_2, .int .i64 s_3, .int .i64 s_4, .int .i64 s_5, .slice s_6_b s_6_l s_6_c]]) Tryz.func178 (body := (Tryz.f178.body.getD .skip)) (by kernel_rfl) (by kernel_rfl) (args_slot _) (conn_one.B0_sound s_0 s_1 s_2 s_3 s_4 s_5 s_6_b s_6_l s_6_c w h)
  exact hc.mono fun e w' he => by
    obtain ⟨v, rfl, hv⟩ := he
    exact conn_one.RV_elim hv
def sock_Table_dequeue.B0 (t : Option Addr) (l : Int) (w : World)   (R : Int → World → Prop) : Prop :=
  Pn t fun a =>
  (0 ≤ l ∧ l < ((6 : Nat) : Int)) ∧
  LdI .i64 ((Addr.add a (l.toNat * 15)).add 13) w fun x13 =>
  Pn t fun a_1 =>
  (0 ≤ l ∧ l < ((6 : Nat) : Int)) ∧
  (0 ≤ x13 ∧ x13 < ((2 : Nat) : Int)) ∧
  LdI .i64 (Addr.add ((Addr.add a_1 (l.toNat * 15)).add 11) (x13.toNat * 1)) w fun x22 =>
  Pn t fun a_2 =>
  sock_wrap.Call (IntKind.i64.wrap (x13 + (1 : Int))) w.drew fun r27 w1 =>
  (0 ≤ l ∧ l < ((6 : Nat) : Int)) ∧
  Sts [.int .i64 r27] ((Addr.add a_2 (l.toNat * 15)).add 13) 0 w1 fun w2 =>
  Pn t fun a_3 =>
  (0 ≤ l ∧ l < ((6 : Nat) : Int)) ∧
  LdI .i64 ((Addr.add a_3 (l.toNat * 15)).add 14) w2.drew fun x38 =>
  Pn t fun a_4 =>
  (0 ≤ l ∧ l < ((6 : Nat) : Int)) ∧
  Sts [.int .i64 (IntKind.i64.wrap (x38 - (1 : Int)))] ((Addr.add a_4 (l.toNat * 15)).add 14) 0 w2.drew fun w3 =>
  R x22 w3
theorem sock_Table_dequeue.B0_eq (t : Option Addr) (l : Int) (w : World)   (R : Int → World → Prop)  :
    (
  Pn t fun a =>
  (0 ≤ l ∧ l < ((6 : Nat) : Int)) ∧
  LdI .i64 ((Addr.add a (l.toNat * 15)).add 13) w fun x13 =>
  Pn t fun a_1 =>
  (0 ≤ l ∧ l < ((6 : Nat) : Int)) ∧
  (0 ≤ x13 ∧ x13 < ((2 : Nat) : Int)) ∧
  LdI .i64 (Addr.add ((Addr.add a_1 (l.toNat * 15)).add 11) (x13.toNat * 1)) w fun x22 =>
  Pn t fun a_2 =>
  sock_wrap.Call (IntKind.i64.wrap (x13 + (1 : Int))) w.drew fun r27 w1 =>
  (0 ≤ l ∧ l < ((6 : Nat) : Int)) ∧
  Sts [.int .i64 r27] ((Addr.add a_2 (l.toNat * 15)).add 13) 0 w1 fun w2 =>
  Pn t fun a_3 =>
  (0 ≤ l ∧ l < ((6 : Nat) : Int)) ∧
  LdI .i64 ((Addr.add a_3 (l.toNat * 15)).add 14) w2.drew fun x38 =>
  Pn t fun a_4 =>
  (0 ≤ l ∧ l < ((6 : Nat) : Int)) ∧
  Sts [.int .i64 (IntKind.i64.wrap (x38 - (1 : Int)))] ((Addr.add a_4 (l.toNat * 15)).add 14) 0 w2.drew fun w3 =>
  R x22 w3) = kstep Tryz.prog 45 Tryz.f179.results.toList (Tryz.f179.body.getD .skip) (sock_Table_dequeue.RV R) (kvc Tryz.prog 45 Tryz.f179.results.toList (Tryz.f179.body.getD .skip) (sock_Table_dequeue.RV R) [] 2000) [(0, [])] [(0, .pointer t), (1, .int .i64 l)] w := by kernel_rfl
theorem sock_Table_dequeue.B0_sound {R : Int → World → Prop}  (t : Option Addr) (l : Int) (w : World) (h : sock_Table_dequeue.B0 t l w   R) :
    KW Tryz.prog 179 45 (sock_Table_dequeue.RV R) ([(0, [])].map (toItem (Tryz.f179.body.getD .skip))) [(0, .pointer t), (1, .int .i64 l)] w := by
  exact block_spec Tryz.func179 Tryz.mixed stops_nil (Eq.mp (sock_Table_dequeue.B0_eq t l w   R ) h)
theorem sock_Table_dequeue.sound (t : Option Addr) (l : Int) (w : World) (R : Int → World → Prop) (h : sock_Table_dequeue.B0 t l w R) : sock_Table_dequeue.Call t l w R := by
  have hc := calls_of_block (args := #[.pointer t, .int .i64 l]) Tryz.func179 (body := (Tryz.f179.body.getD .skip)) (by kernel_rfl) (by kernel_rfl) (args_slot _) (sock_Table_dequeue.B0_sound t l w h)
  exact hc.mono fun e w' he => by
    obtain ⟨v, rfl, hv⟩ := he
    exact sock_Table_dequeue.RV_elim hv
def conn_Conn_ended.B0 (c : Option Addr) (w : World)   (R : Int → World → Prop) : Prop :=
  Pn c fun a =>
  LdI .i64 (a.add 3) w fun x6 =>
  Bm (x6 != (0 : Int)) (
    Pn c fun a_1 =>
    LdI .i64 (a_1.add 3) w fun x11 =>
    R x11 w) (
    R (15 : Int) w)
theorem conn_Conn_ended.B0_eq (c : Option Addr) (w : World)   (R : Int → World → Prop)  :
    (
  Pn c fun a =>
  LdI .i64 (a.add 3) w fun x6 =>
  Bm (x6 != (0 : Int)) (
    Pn c fun a_1 =>
    LdI .i64 (a_1.add 3) w fun x11 =>
    R x11 w) (
    R (15 : Int) w)) = kstep Tryz.prog 12 Tryz.f180.results.toList (Tryz.f180.body.getD .skip) (conn_Conn_ended.RV R) (kvc Tryz.prog 12 Tryz.f180.results.toList (Tryz.f180.body.getD .skip) (conn_Conn_ended.RV R) [] 2000) [(0, [])] [(0, .pointer c)] w := by kernel_rfl
theorem conn_Conn_ended.B0_sound {R : Int → World → Prop}  (c : Option Addr) (w : World) (h : conn_Conn_ended.B0 c w   R) :
    KW Tryz.prog 180 12 (conn_Conn_ended.RV R) ([(0, [])].map (toItem (Tryz.f180.body.getD .skip))) [(0, .pointer c)] w := by
  exact block_spec Tryz.func180 Tryz.mixed stops_nil (Eq.mp (conn_Conn_ended.B0_eq c w   R ) h)
theorem conn_Conn_ended.sound (c : Option Addr) (w : World) (R : Int → World → Prop) (h : conn_Conn_ended.B0 c w R) : conn_Conn_ended.Call c w R := by
  have hc := calls_of_block (args := #[.pointer c]) Tryz.func180 (body := (Tryz.f180.body.getD .skip)) (by kernel_rfl) (by kernel_rfl) (args_slot _) (conn_Conn_ended.B0_sound c w h)
  exact hc.mono fun e w' he => by
    obtain ⟨v, rfl, hv⟩ := he
    exact conn_Conn_ended.RV_elim hv
def seg_SendBuf_Put.B1 (b p_b : Option Addr) (p_l p_c : Nat) (n at0 first : Int) (w : World)   (R : Int → World → Prop) : Prop :=
  Pn b fun a =>
  (0 ≤ (IntKind.i64.wrap (at0 + first)) ∧ (IntKind.i64.wrap (at0 + first)) ≤ ((16 : Nat) : Int)) ∧
  (0 ≤ at0 ∧ at0 ≤ (IntKind.i64.wrap (at0 + first))) ∧
  (0 ≤ first ∧ first ≤ ((p_c : Nat) : Int)) ∧
  Copy 1 (some (slBaseA a at0 ((16 : Nat) : Int) 1)) ((IntKind.i64.wrap (at0 + first)).toNat - at0.toNat) (slBase p_b ((0 : Nat) : Int) ((p_c : Nat) : Int) 1) (first.toNat - ((0 : Nat) : Int).toNat) w.drew fun n43 w1 =>
  Pn b fun a_1 =>
  (0 ≤ (IntKind.i64.wrap (n - first)) ∧ (IntKind.i64.wrap (n - first)) ≤ ((16 : Nat) : Int)) ∧
  (0 ≤ n ∧ n ≤ ((p_c : Nat) : Int)) ∧
  (0 ≤ first ∧ first ≤ n) ∧
  Copy 1 (some (slBaseA a_1 ((0 : Nat) : Int) ((16 : Nat) : Int) 1)) ((IntKind.i64.wrap (n - first)).toNat - ((0 : Nat) : Int).toNat) (slBase p_b first ((p_c : Nat) : Int) 1) (n.toNat - first.toNat) w1.drew fun n55 w2 =>
  Pn b fun a_2 =>
  LdI .i64 (a_2.add 17) w2 fun x59 =>
  Pn b fun a_3 =>
  Sts [.int .i64 (IntKind.i64.wrap (x59 + n))] (a_3.add 17) 0 w2 fun w3 =>
  R n w3
theorem seg_SendBuf_Put.B1_eq (b p_b : Option Addr) (p_l p_c : Nat) (n at0 first : Int) (w : World)   (R : Int → World → Prop)  :
    (
  Pn b fun a =>
  (0 ≤ (IntKind.i64.wrap (at0 + first)) ∧ (IntKind.i64.wrap (at0 + first)) ≤ ((16 : Nat) : Int)) ∧
  (0 ≤ at0 ∧ at0 ≤ (IntKind.i64.wrap (at0 + first))) ∧
  (0 ≤ first ∧ first ≤ ((p_c : Nat) : Int)) ∧
  Copy 1 (some (slBaseA a at0 ((16 : Nat) : Int) 1)) ((IntKind.i64.wrap (at0 + first)).toNat - at0.toNat) (slBase p_b ((0 : Nat) : Int) ((p_c : Nat) : Int) 1) (first.toNat - ((0 : Nat) : Int).toNat) w.drew fun n43 w1 =>
  Pn b fun a_1 =>
  (0 ≤ (IntKind.i64.wrap (n - first)) ∧ (IntKind.i64.wrap (n - first)) ≤ ((16 : Nat) : Int)) ∧
  (0 ≤ n ∧ n ≤ ((p_c : Nat) : Int)) ∧
  (0 ≤ first ∧ first ≤ n) ∧
  Copy 1 (some (slBaseA a_1 ((0 : Nat) : Int) ((16 : Nat) : Int) 1)) ((IntKind.i64.wrap (n - first)).toNat - ((0 : Nat) : Int).toNat) (slBase p_b first ((p_c : Nat) : Int) 1) (n.toNat - first.toNat) w1.drew fun n55 w2 =>
  Pn b fun a_2 =>
  LdI .i64 (a_2.add 17) w2 fun x59 =>
  Pn b fun a_3 =>
  Sts [.int .i64 (IntKind.i64.wrap (x59 + n))] (a_3.add 17) 0 w2 fun w3 =>
  R n w3) = kstep Tryz.prog 65 Tryz.f181.results.toList (Tryz.f181.body.getD .skip) (seg_SendBuf_Put.RV R) (kvc Tryz.prog 65 Tryz.f181.results.toList (Tryz.f181.body.getD .skip) (seg_SendBuf_Put.RV R) [] 2000) [(0, [1, 1, 1, 1, 1])] [(0, .pointer b), (1, .slice p_b p_l p_c), (5, .int .i64 n), (6, .int .i64 at0), (7, .int .i64 first)] w := by kernel_rfl
theorem seg_SendBuf_Put.B1_sound {R : Int → World → Prop}  (b p_b : Option Addr) (p_l p_c : Nat) (n at0 first : Int) (w : World) (h : seg_SendBuf_Put.B1 b p_b p_l p_c n at0 first w   R) :
    KW Tryz.prog 181 65 (seg_SendBuf_Put.RV R) ([(0, [1, 1, 1, 1, 1])].map (toItem (Tryz.f181.body.getD .skip))) [(0, .pointer b), (1, .slice p_b p_l p_c), (5, .int .i64 n), (6, .int .i64 at0), (7, .int .i64 first)] w := by
  exact block_spec Tryz.func181 Tryz.mixed stops_nil (Eq.mp (seg_SendBuf_Put.B1_eq b p_b p_l p_c n at0 first w   R ) h)
def seg_SendBuf_Put.B0 (b p_b : Option Addr) (p_l p_c : Nat) (w : World)   (R : Int → World → Prop) : Prop :=
  Pn b fun a =>
  LdI .i64 (a.add 17) w fun x13 =>
  seg_least.Call ((p_l : Nat) : Int) (IntKind.i64.wrap ((16 : Int) - x13)) w fun r15 w1 =>
  Pn b fun a_1 =>
  LdI .i64 (a_1.add 16) w1.drew fun x19 =>
  Pn b fun a_2 =>
  LdI .i64 (a_2.add 17) w1.drew fun x23 =>
  (16 : Int) ≠ 0 ∧
  Bm (decide ((IntKind.i64.wrap ((16 : Int) - ((IntKind.i64.wrap (x19 + x23)).tmod (16 : Int)))) > r15)) (
    seg_SendBuf_Put.B1 b p_b p_l p_c r15 ((IntKind.i64.wrap (x19 + x23)).tmod (16 : Int)) r15 w1.drew  R) (
    seg_SendBuf_Put.B1 b p_b p_l p_c r15 ((IntKind.i64.wrap (x19 + x23)).tmod (16 : Int)) (IntKind.i64.wrap ((16 : Int) - ((IntKind.i64.wrap (x19 + x23)).tmod (16 : Int)))) w1.drew  R)
theorem seg_SendBuf_Put.B0_eq (b p_b : Option Addr) (p_l p_c : Nat) (w : World)   (R : Int → World → Prop) (sB1 : Option Addr → Option Addr → Nat → Nat → Int → Int → Int → World → Prop) :
    (
  Pn b fun a =>
  LdI .i64 (a.add 17) w fun x13 =>
  seg_least.Call ((p_l : Nat) : Int) (IntKind.i64.wrap ((16 : Int) - x13)) w fun r15 w1 =>
  Pn b fun a_1 =>
  LdI .i64 (a_1.add 16) w1.drew fun x19 =>
  Pn b fun a_2 =>
  LdI .i64 (a_2.add 17) w1.drew fun x23 =>
  (16 : Int) ≠ 0 ∧
  Bm (decide ((IntKind.i64.wrap ((16 : Int) - ((IntKind.i64.wrap (x19 + x23)).tmod (16 : Int)))) > r15)) (
    sB1 b p_b p_l p_c r15 ((IntKind.i64.wrap (x19 + x23)).tmod (16 : Int)) r15 w1.drew) (
    sB1 b p_b p_l p_c r15 ((IntKind.i64.wrap (x19 + x23)).tmod (16 : Int)) (IntKind.i64.wrap ((16 : Int) - ((IntKind.i64.wrap (x19 + x23)).tmod (16 : Int)))) w1.drew)) = kstep Tryz.prog 65 Tryz.f181.results.toList (Tryz.f181.body.getD .skip) (seg_SendBuf_Put.RV R) (kvc Tryz.prog 65 Tryz.f181.results.toList (Tryz.f181.body.getD .skip) (seg_SendBuf_Put.RV R) [([(0, [1, 1, 1, 1, 1])], fun σ w => dP (slotOf σ 0) fun b_ => dL (slotOf σ 1) fun p_b_ p_l_ p_c_ => dI .i64 (slotOf σ 5) fun n_ => dI .i64 (slotOf σ 6) fun at0_ => dI .i64 (slotOf σ 7) fun first_ => sB1 b_ p_b_ p_l_ p_c_ n_ at0_ first_ w)] 2000) [(0, [])] [(0, .pointer b), (1, .slice p_b p_l p_c)] w := by kernel_rfl
theorem seg_SendBuf_Put.B0_sound {R : Int → World → Prop}  (b p_b : Option Addr) (p_l p_c : Nat) (w : World) (h : seg_SendBuf_Put.B0 b p_b p_l p_c w   R) :
    KW Tryz.prog 181 65 (seg_SendBuf_Put.RV R) ([(0, [])].map (toItem (Tryz.f181.body.getD .skip))) [(0, .pointer b), (1, .slice p_b p_l p_c)] w := by
  exact block_spec Tryz.func181 Tryz.mixed (stops_cons (fun σ w h => by
      obtain ⟨b_, e0, h⟩ := dP_elim h
      obtain ⟨p_b_, p_l_, p_c_, e1, h⟩ := dL_elim h
      obtain ⟨n_, e2, h⟩ := dI_elim h
      obtain ⟨at0_, e3, h⟩ := dI_elim h
      obtain ⟨first_, e4, h⟩ := dI_elim h
      exact (seg_SendBuf_Put.B1_sound  b_ p_b_ p_l_ p_c_ n_ at0_ first_ w h).weaken (Sub.cons (Sub.cons (Sub.cons (Sub.cons (Sub.cons (Sub.nil _) e4) e3) e2) e1) e0)) stops_nil) (Eq.mp (seg_SendBuf_Put.B0_eq b p_b p_l p_c w   R (fun b_ p_b_ p_l_ p_c_ n_ at0_ first_ w => seg_SendBuf_Put.B1 b_ p_b_ p_l_ p_c_ n_ at0_ first_ w  R)) h)
theorem seg_SendBuf_Put.sound (b p_b : Option Addr) (p_l p_c : Nat) (w : World) (R : Int → World → Prop) (h : seg_SendBuf_Put.B0 b p_b p_l p_c w R) : seg_SendBuf_Put.Call b p_b p_l p_c w R := by
  have hc := calls_of_block (args := #[.pointer b, .slice p_b p_l p_c]) Tryz.func181 (body := (Tryz.f181.body.getD .skip)) (by kernel_rfl) (by kernel_rfl) (args_slot _) (seg_SendBuf_Put.B0_sound b p_b p_l p_c w h)
  exact hc.mono fun e w' he => by
    obtain ⟨v, rfl, hv⟩ := he
    exact seg_SendBuf_Put.RV_elim hv
def seg_RecvBuf_Read.B0 (b : Option Addr) (max : Int) (w : World)   (R : Option Addr → Nat → Nat → World → Prop) : Prop :=
  Pn b fun a =>
  LdI .i64 (a.add 17) w fun x11 =>
  seg_least.Call max x11 w fun r12 w1 =>
  seg_RecvBuf_first.Call b r12 w1 fun r15_b r15_l r15_c w2 =>
  Pn b fun a_1 =>
  LdI .i64 (a_1.add 17) w2 fun x19 =>
  Pn b fun a_2 =>
  Sts [.int .i64 (IntKind.i64.wrap (x19 - r12))] (a_2.add 17) 0 w2 fun w3 =>
  R r15_b r15_l r15_c w3
theorem seg_RecvBuf_Read.B0_eq (b : Option Addr) (max : Int) (w : World)   (R : Option Addr → Nat → Nat → World → Prop)  :
    (
  Pn b fun a =>
  LdI .i64 (a.add 17) w fun x11 =>
  seg_least.Call max x11 w fun r12 w1 =>
  seg_RecvBuf_first.Call b r12 w1 fun r15_b r15_l r15_c w2 =>
  Pn b fun a_1 =>
  LdI .i64 (a_1.add 17) w2 fun x19 =>
  Pn b fun a_2 =>
  Sts [.int .i64 (IntKind.i64.wrap (x19 - r12))] (a_2.add 17) 0 w2 fun w3 =>
  R r15_b r15_l r15_c w3) = kstep Tryz.prog 25 Tryz.f182.results.toList (Tryz.f182.body.getD .skip) (seg_RecvBuf_Read.RV R) (kvc Tryz.prog 25 Tryz.f182.results.toList (Tryz.f182.body.getD .skip) (seg_RecvBuf_Read.RV R) [] 2000) [(0, [])] [(0, .pointer b), (1, .int .i64 max)] w := by kernel_rfl
theorem seg_RecvBuf_Read.B0_sound {R : Option Addr → Nat → Nat → World → Prop}  (b : Option Addr) (max : Int) (w : World) (h : seg_RecvBuf_Read.B0 b max w   R) :
    KW Tryz.prog 182 25 (seg_RecvBuf_Read.RV R) ([(0, [])].map (toItem (Tryz.f182.body.getD .skip))) [(0, .pointer b), (1, .int .i64 max)] w := by
  exact block_spec Tryz.func182 Tryz.mixed stops_nil (Eq.mp (seg_RecvBuf_Read.B0_eq b max w   R ) h)
theorem seg_RecvBuf_Read.sound (b : Option Addr) (max : Int) (w : World) (R : Option Addr → Nat → Nat → World → Prop) (h : seg_RecvBuf_Read.B0 b max w R) : seg_RecvBuf_Read.Call b max w R := by
  have hc := calls_of_block (args := #[.pointer b, .int .i64 max]) Tryz.func182 (body := (Tryz.f182.body.getD .skip)) (by kernel_rfl) (by kernel_rfl) (args_slot _) (seg_RecvBuf_Read.B0_sound b max w h)
  exact hc.mono fun e w' he => by
    obtain ⟨v, rfl, hv⟩ := he
    exact seg_RecvBuf_Read.RV_elim hv
def conn_Conn_ack.B0 (c : Option Addr) (w : World)   (R : Int → Int → Int → Int → Int → Int → Option Addr → Nat → Nat → World → Prop) : Prop :=
  New (.cells #[.int .i64 (0 : Int), .int .i64 (0 : Int), .int .i64 (0 : Int), .int .i64 (0 : Int), .int .i64 (0 : Int), .int .i64 (0 : Int), .slice none 0 0] 177) w fun b2 w1 =>
  conn_Conn_sndNxt.Call c w1 fun r5 w2 =>
  conn_Conn_mk.Call c (2 : Int) r5 none 0 0 w2 fun r8_0 r8_1 r8_2 r8_3 r8_4 r8_5 r8_6_b r8_6_l r8_6_c w3 =>
  Sts [.int .i64 r8_0, .int .i64 r8_1, .int .i64 r8_2, .int .i64 r8_3, .int .i64 r8_4, .int .i64 r8_5, .slice r8_6_b r8_6_l r8_6_c] ⟨b2, 0, none⟩ 0 w3 fun w4 =>
  LdI .i64 ⟨b2, 0, none⟩ w4 fun r_0 =>
  LdI .i64 ⟨b2, 1, none⟩ w4 fun r_1 =>
  LdI .i64 ⟨b2, 2, none⟩ w4 fun r_2 =>
  LdI .i64 ⟨b2, 3, none⟩ w4 fun r_3 =>
  LdI .i64 ⟨b2, 4, none⟩ w4 fun r_4 =>
  LdI .i64 ⟨b2, 5, none⟩ w4 fun r_5 =>
  LdL ⟨b2, 6, none⟩ w4 fun r_6_b r_6_l r_6_c =>
  R r_0 r_1 r_2 r_3 r_4 r_5 r_6_b r_6_l r_6_c w4
theorem conn_Conn_ack.B0_eq (c : Option Addr) (w : World)   (R : Int → Int → Int → Int → Int → Int → Option Addr → Nat → Nat → World → Prop)  :
    (
  New (.cells #[.int .i64 (0 : Int), .int .i64 (0 : Int), .int .i64 (0 : Int), .int .i64 (0 : Int), .int .i64 (0 : Int), .int .i64 (0 : Int), .slice none 0 0] 177) w fun b2 w1 =>
  conn_Conn_sndNxt.Call c w1 fun r5 w2 =>
  conn_Conn_mk.Call c (2 : Int) r5 none 0 0 w2 fun r8_0 r8_1 r8_2 r8_3 r8_4 r8_5 r8_6_b r8_6_l r8_6_c w3 =>
  Sts [.int .i64 r8_0, .int .i64 r8_1, .int .i64 r8_2, .int .i64 r8_3, .int .i64 r8_4, .int .i64 r8_5, .slice r8_6_b r8_6_l r8_6_c] ⟨b2, 0, none⟩ 0 w3 fun w4 =>
  LdI .i64 ⟨b2, 0, none⟩ w4 fun r_0 =>
  LdI .i64 ⟨b2, 1, none⟩ w4 fun r_1 =>
  LdI .i64 ⟨b2, 2, none⟩ w4 fun r_2 =>
  LdI .i64 ⟨b2, 3, none⟩ w4 fun r_3 =>
  LdI .i64 ⟨b2, 4, none⟩ w4 fun r_4 =>
  LdI .i64 ⟨b2, 5, none⟩ w4 fun r_5 =>
  LdL ⟨b2, 6, none⟩ w4 fun r_6_b r_6_l r_6_c =>
  R r_0 r_1 r_2 r_3 r_4 r_5 r_6_b r_6_l r_6_c w4) = kstep Tryz.prog 9 Tryz.f183.results.toList (Tryz.f183.body.getD .skip) (conn_Conn_ack.RV R) (kvc Tryz.prog 9 Tryz.f183.results.toList (Tryz.f183.body.getD .skip) (conn_Conn_ack.RV R) [] 2000) [(0, [])] [(0, .pointer c)] w := by kernel_rfl
theorem conn_Conn_ack.B0_sound {R : Int → Int → Int → Int → Int → Int → Option Addr → Nat → Nat → World → Prop}  (c : Option Addr) (w : World) (h : conn_Conn_ack.B0 c w   R) :
    KW Tryz.prog 183 9 (conn_Conn_ack.RV R) ([(0, [])].map (toItem (Tryz.f183.body.getD .skip))) [(0, .pointer c)] w := by
  exact block_spec Tryz.func183 Tryz.mixed stops_nil (Eq.mp (conn_Conn_ack.B0_eq c w   R ) h)
theorem conn_Conn_ack.sound (c : Option Addr) (w : World) (R : Int → Int → Int → Int → Int → Int → Option Addr → Nat → Nat → World → Prop) (h : conn_Conn_ack.B0 c w R) : conn_Conn_ack.Call c w R := by
  have hc := calls_of_block (args := #[.pointer c]) Tryz.func183 (body := (Tryz.f183.body.getD .skip)) (by kernel_rfl) (by kernel_rfl) (args_slot _) (conn_Conn_ack.B0_sound c w h)
  exact hc.mono fun e w' he => by
    obtain ⟨v, rfl, hv⟩ := he
    exact conn_Conn_ack.RV_elim hv
def conn_rst.B0 (seq : Int) (w : World)   (R : Int → Int → Int → Int → Int → Int → Option Addr → Nat → Nat → World → Prop) : Prop :=
  New (.cells #[.int .i64 (0 : Int), .int .i64 (0 : Int), .int .i64 (0 : Int), .int .i64 (0 : Int), .int .i64 (0 : Int), .int .i64 (0 : Int), .slice none 0 0] 177) w fun b2 w1 =>
  api_SeqAdd.Call seq (0 : Int) w1 fun r5 w2 =>
  New (.cells #[] 5) w2 fun b7 w3 =>
  Sts [.int .i64 (0 : Int), .int .i64 (0 : Int), .int .i64 r5, .int .i64 (0 : Int), .int .i64 (8 : Int), .int .i64 (0 : Int), .slice (some ⟨b7, 0, none⟩) 0 0] ⟨b2, 0, none⟩ 0 w3 fun w4 =>
  LdI .i64 ⟨b2, 0, none⟩ w4 fun r_0 =>
  LdI .i64 ⟨b2, 1, none⟩ w4 fun r_1 =>
  LdI .i64 ⟨b2, 2, none⟩ w4 fun r_2 =>
  LdI .i64 ⟨b2, 3, none⟩ w4 fun r_3 =>
  LdI .i64 ⟨b2, 4, none⟩ w4 fun r_4 =>
  LdI .i64 ⟨b2, 5, none⟩ w4 fun r_5 =>
  LdL ⟨b2, 6, none⟩ w4 fun r_6_b r_6_l r_6_c =>
  R r_0 r_1 r_2 r_3 r_4 r_5 r_6_b r_6_l r_6_c w4
theorem conn_rst.B0_eq (seq : Int) (w : World)   (R : Int → Int → Int → Int → Int → Int → Option Addr → Nat → Nat → World → Prop)  :
    (
  New (.cells #[.int .i64 (0 : Int), .int .i64 (0 : Int), .int .i64 (0 : Int), .int .i64 (0 : Int), .int .i64 (0 : Int), .int .i64 (0 : Int), .slice none 0 0] 177) w fun b2 w1 =>
  api_SeqAdd.Call seq (0 : Int) w1 fun r5 w2 =>
  New (.cells #[] 5) w2 fun b7 w3 =>
  Sts [.int .i64 (0 : Int), .int .i64 (0 : Int), .int .i64 r5, .int .i64 (0 : Int), .int .i64 (8 : Int), .int .i64 (0 : Int), .slice (some ⟨b7, 0, none⟩) 0 0] ⟨b2, 0, none⟩ 0 w3 fun w4 =>
  LdI .i64 ⟨b2, 0, none⟩ w4 fun r_0 =>
  LdI .i64 ⟨b2, 1, none⟩ w4 fun r_1 =>
  LdI .i64 ⟨b2, 2, none⟩ w4 fun r_2 =>
  LdI .i64 ⟨b2, 3, none⟩ w4 fun r_3 =>
  LdI .i64 ⟨b2, 4, none⟩ w4 fun r_4 =>
  LdI .i64 ⟨b2, 5, none⟩ w4 fun r_5 =>
  LdL ⟨b2, 6, none⟩ w4 fun r_6_b r_6_l r_6_c =>
  R r_0 r_1 r_2 r_3 r_4 r_5 r_6_b r_6_l r_6_c w4) = kstep Tryz.prog 9 Tryz.f184.results.toList (Tryz.f184.body.getD .skip) (conn_rst.RV R) (kvc Tryz.prog 9 Tryz.f184.results.toList (Tryz.f184.body.getD .skip) (conn_rst.RV R) [] 2000) [(0, [])] [(0, .int .i64 seq)] w := by kernel_rfl
theorem conn_rst.B0_sound {R : Int → Int → Int → Int → Int → Int → Option Addr → Nat → Nat → World → Prop}  (seq : Int) (w : World) (h : conn_rst.B0 seq w   R) :
    KW Tryz.prog 184 9 (conn_rst.RV R) ([(0, [])].map (toItem (Tryz.f184.body.getD .skip))) [(0, .int .i64 seq)] w := by
  exact block_spec Tryz.func184 Tryz.mixed stops_nil (Eq.mp (conn_rst.B0_eq seq w   R ) h)
theorem conn_rst.sound (seq : Int) (w : World) (R : Int → Int → Int → Int → Int → Int → Option Addr → Nat → Nat → World → Prop) (h : conn_rst.B0 seq w R) : conn_rst.Call seq w R := by
  have hc := calls_of_block (args := #[.int .i64 seq]) Tryz.func184 (body := (Tryz.f184.body.getD .skip)) (by kernel_rfl) (by kernel_rfl) (args_slot _) (conn_rst.B0_sound seq w h)
  exact hc.mono fun e w' he => by
    obtain ⟨v, rfl, hv⟩ := he
    exact conn_rst.RV_elim hv
def conn_Conn_sent.B0 (c : Option Addr) (w : World)   (R : Int → World → Prop) : Prop :=
  Pn c fun a =>
  LdP a w fun x8 =>
  seg_SendBuf_Len.Call x8 w fun r9 w1 =>
  Pn c fun a_1 =>
  LdP a_1 w1 fun x13 =>
  seg_SendBuf_Unsent.Call x13 w1 fun r14 w2 =>
  R (IntKind.i64.wrap (r9 - r14)) w2
theorem conn_Conn_sent.B0_eq (c : Option Addr) (w : World)   (R : Int → World → Prop)  :
    (
  Pn c fun a =>
  LdP a w fun x8 =>
  seg_SendBuf_Len.Call x8 w fun r9 w1 =>
  Pn c fun a_1 =>
  LdP a_1 w1 fun x13 =>
  seg_SendBuf_Unsent.Call x13 w1 fun r14 w2 =>
  R (IntKind.i64.wrap (r9 - r14)) w2) = kstep Tryz.prog 18 Tryz.f185.results.toList (Tryz.f185.body.getD .skip) (conn_Conn_sent.RV R) (kvc Tryz.prog 18 Tryz.f185.results.toList (Tryz.f185.body.getD .skip) (conn_Conn_sent.RV R) [] 2000) [(0, [])] [(0, .pointer c)] w := by kernel_rfl
theorem conn_Conn_sent.B0_sound {R : Int → World → Prop}  (c : Option Addr) (w : World) (h : conn_Conn_sent.B0 c w   R) :
    KW Tryz.prog 185 18 (conn_Conn_sent.RV R) ([(0, [])].map (toItem (Tryz.f185.body.getD .skip))) [(0, .pointer c)] w := by
  exact block_spec Tryz.func185 Tryz.mixed stops_nil (Eq.mp (conn_Conn_sent.B0_eq c w   R ) h)
theorem conn_Conn_sent.sound (c : Option Addr) (w : World) (R : Int → World → Prop) (h : conn_Conn_sent.B0 c w R) : conn_Conn_sent.Call c w R := by
  have hc := calls_of_block (args := #[.pointer c]) Tryz.func185 (body := (Tryz.f185.body.getD .skip)) (by kernel_rfl) (by kernel_rfl) (args_slot _) (conn_Conn_sent.B0_sound c w h)
  exact hc.mono fun e w' he => by
    obtain ⟨v, rfl, hv⟩ := he
    exact conn_Conn_sent.RV_elim hv
def frame_Sum_AddAll.L1b (u p_b : Option Addr) (p_l p_c : Nat) (i : Int) (w : World)  (N1 : Option Addr → Option Addr → Nat → Nat → Int → World → Prop) (R : World → Prop) : Prop :=
  Bm (decide (i < ((p_l : Nat) : Int))) (
    Pn p_b fun a =>
    (0 ≤ i ∧ i < ((p_l : Nat) : Int)) ∧
    LdI .u8 (Addr.add a (i.toNat * 1)) w fun x15 =>
    frame_Sum_Add.Call u x15 w fun w1 =>
    N1 u p_b p_l p_c (IntKind.i64.wrap (i + (1 : Int))) w1) (
    R  w)
theorem frame_Sum_AddAll.L1b_eq (u p_b : Option Addr) (p_l p_c : Nat) (i : Int) (w : World)  (N1 : Option Addr → Option Addr → Nat → Nat → Int → World → Prop) (R : World → Prop)  :
    (
  Bm (decide (i < ((p_l : Nat) : Int))) (
    Pn p_b fun a =>
    (0 ≤ i ∧ i < ((p_l : Nat) : Int)) ∧
    LdI .u8 (Addr.add a (i.toNat * 1)) w fun x15 =>
    frame_Sum_Add.Call u x15 w fun w1 =>
    N1 u p_b p_l p_c (IntKind.i64.wrap (i + (1 : Int))) w1) (
    R  w)) = kstep Tryz.prog 17 Tryz.f186.results.toList (Tryz.f186.body.getD .skip) (frame_Sum_AddAll.RV R) (kvc Tryz.prog 17 Tryz.f186.results.toList (Tryz.f186.body.getD .skip) (frame_Sum_AddAll.RV R) [([(0, [1, 0, 0]), (2, [1, 0, 0]), (1, [0])], fun σ w => dP (slotOf σ 0) fun u_ => dL (slotOf σ 1) fun p_b_ p_l_ p_c_ => dI .i64 (slotOf σ 4) fun i_ => N1 u_ p_b_ p_l_ p_c_ i_ w)] 2000) [(0, [1, 0, 0]), (2, [1, 0, 0]), (1, [0])] [(0, .pointer u), (1, .slice p_b p_l p_c), (4, .int .i64 i)] w := by kernel_rfl
theorem frame_Sum_AddAll.L1b_sound {R : World → Prop} {N1 : Option Addr → Option Addr → Nat → Nat → Int → World → Prop} (hN1 : ∀ u p_b p_l p_c i w, N1 u p_b p_l p_c i w → KW Tryz.prog 186 17 (frame_Sum_AddAll.RV R) ([(0, [1, 0, 0]), (2, [1, 0, 0]), (1, [0])].map (toItem (Tryz.f186.body.getD .skip))) [(0, .pointer u), (1, .slice p_b p_l p_c), (4, .int .i64 i)] w) (u p_b : Option Addr) (p_l p_c : Nat) (i : Int) (w : World) (h : frame_Sum_AddAll.L1b u p_b p_l p_c i w  N1 R) :
    KW Tryz.prog 186 17 (frame_Sum_AddAll.RV R) ([(0, [1, 0, 0]), (2, [1, 0, 0]), (1, [0])].map (toItem (Tryz.f186.body.getD .skip))) [(0, .pointer u), (1, .slice p_b p_l p_c), (4, .int .i64 i)] w := by
  exact block_spec Tryz.func186 Tryz.mixed (stops_cons (fun σ w h => by
      obtain ⟨u_, e0, h⟩ := dP_elim h
      obtain ⟨p_b_, p_l_, p_c_, e1, h⟩ := dL_elim h
      obtain ⟨i_, e2, h⟩ := dI_elim h
      exact (hN1 u_ p_b_ p_l_ p_c_ i_ w h).weaken (Sub.cons (Sub.cons (Sub.cons (Sub.nil _) e2) e1) e0)) stops_nil) (Eq.mp (frame_Sum_AddAll.L1b_eq u p_b p_l p_c i w  N1 R ) h)
def frame_Sum_AddAll.L1 (u p_b : Option Addr) (p_l p_c : Nat) (i : Int) (w : World)  (R : World → Prop) : Prop :=
  ∃ (I : Nat → Option Addr → Option Addr → Nat → Nat → Int → World → Prop) (m : Nat), I m u p_b p_l p_c i w ∧ ∀ m u p_b p_l p_c i w, I m u p_b p_l p_c i w → frame_Sum_AddAll.L1b u p_b p_l p_c i w  (fun u' p_b' p_l' p_c' i' w' => ∃ m', m' < m ∧ I m' u' p_b' p_l' p_c' i' w') R
theorem frame_Sum_AddAll.L1_sound {R : World → Prop}  (u p_b : Option Addr) (p_l p_c : Nat) (i : Int) (w : World) (h : frame_Sum_AddAll.L1 u p_b p_l p_c i w  R) :
    KW Tryz.prog 186 17 (frame_Sum_AddAll.RV R) ([(0, [1, 0, 0]), (2, [1, 0, 0]), (1, [0])].map (toItem (Tryz.f186.body.getD .skip))) [(0, .pointer u), (1, .slice p_b p_l p_c), (4, .int .i64 i)] w := by
  obtain ⟨I, m, hBase, hr⟩ := h
  refine KW.loop (fun m σ w => ∃ (u p_b : Option Addr) (p_l p_c : Nat) (i : Int), σ = [(0, .pointer u), (1, .slice p_b p_l p_c), (4, .int .i64 i)] ∧ I m u p_b p_l p_c i w) ?_ m _ w ⟨u, p_b, p_l, p_c, i, rfl, hBase⟩
  rintro m ih σ w ⟨u, p_b, p_l, p_c, i, rfl, hI⟩
  exact frame_Sum_AddAll.L1b_sound  (N1 := fun u' p_b' p_l' p_c' i' w' => ∃ m', m' < m ∧ I m' u' p_b' p_l' p_c' i' w') (fun u' p_b' p_l' p_c' i' w' hx => by obtain ⟨m', hlt, hI'⟩ := hx; exact ih m' hlt _ w' ⟨u', p_b', p_l', p_c', i', rfl, hI'⟩) u p_b p_l p_c i w (hr m u p_b p_l p_c i w hI)
def frame_Sum_AddAll.B0 (u p_b : Option Addr) (p_l p_c : Nat) (w : World)   (R : World → Prop) : Prop :=
  frame_Sum_AddAll.L1 u p_b p_l p_c (0 : Int) w  R
theorem frame_Sum_AddAll.B0_eq (u p_b : Option Addr) (p_l p_c : Nat) (w : World)   (R : World → Prop) (sL1 : Option Addr → Option Addr → Nat → Nat → Int → World → Prop) :
    (
  sL1 u p_b p_l p_c (0 : Int) w) = kstep Tryz.prog 17 Tryz.f186.results.toList (Tryz.f186.body.getD .skip) (frame_Sum_AddAll.RV R) (kvc Tryz.prog 17 Tryz.f186.results.toList (Tryz.f186.body.getD .skip) (frame_Sum_AddAll.RV R) [([(0, [1, 0, 0]), (2, [1, 0, 0]), (1, [0])], fun σ w => dP (slotOf σ 0) fun u_ => dL (slotOf σ 1) fun p_b_ p_l_ p_c_ => dI .i64 (slotOf σ 4) fun i_ => sL1 u_ p_b_ p_l_ p_c_ i_ w)] 2000) [(0, [])] [(0, .pointer u), (1, .slice p_b p_l p_c)] w := by kernel_rfl
theorem frame_Sum_AddAll.B0_sound {R : World → Prop}  (u p_b : Option Addr) (p_l p_c : Nat) (w : World) (h : frame_Sum_AddAll.B0 u p_b p_l p_c w   R) :
    KW Tryz.prog 186 17 (frame_Sum_AddAll.RV R) ([(0, [])].map (toItem (Tryz.f186.body.getD .skip))) [(0, .pointer u), (1, .slice p_b p_l p_c)] w := by
  exact block_spec Tryz.func186 Tryz.mixed (stops_cons (fun σ w h => by
      obtain ⟨u_, e0, h⟩ := dP_elim h
      obtain ⟨p_b_, p_l_, p_c_, e1, h⟩ := dL_elim h
      obtain ⟨i_, e2, h⟩ := dI_elim h
      exact (frame_Sum_AddAll.L1_sound  u_ p_b_ p_l_ p_c_ i_ w h).weaken (Sub.cons (Sub.cons (Sub.cons (Sub.nil _) e2) e1) e0)) stops_nil) (Eq.mp (frame_Sum_AddAll.B0_eq u p_b p_l p_c w   R (fun u_ p_b_ p_l_ p_c_ i_ w => frame_Sum_AddAll.L1 u_ p_b_ p_l_ p_c_ i_ w  R)) h)
theorem frame_Sum_AddAll.sound (u p_b : Option Addr) (p_l p_c : Nat) (w : World) (R : World → Prop) (h : frame_Sum_AddAll.B0 u p_b p_l p_c w R) : frame_Sum_AddAll.Call u p_b p_l p_c w R := by
  have hc := calls_of_block (args := #[.pointer u, .slice p_b p_l p_c]) Tryz.func186 (body := (Tryz.f186.body.getD .skip)) (by kernel_rfl) (by kernel_rfl) (args_slot _) (frame_Sum_AddAll.B0_sound u p_b p_l p_c w h)
  exact hc.mono fun e w' he => by
    obtain ⟨v, rfl, hv⟩ := he
    exact frame_Sum_AddAll.RV_elim hv
end Go.Proofs.Qxb6500424aGreat
