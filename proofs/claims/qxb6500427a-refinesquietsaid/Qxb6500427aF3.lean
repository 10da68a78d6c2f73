import Derived.Test.Qxb6500427aSig
set_option maxRecDepth 100000
set_option linter.unusedVariables false
open Go.Vc
namespace Go.Proofs.Qxb6500427a
def sock_Table_freeFine.B2 (t : Option Addr) (seen : Nat) (j n : Int) (t30 : Bool) (w : World) (N1 : Option Addr → Nat → Int → Int → World → Prop)  (R : Bool → World → Prop) : Prop :=
  Bm t30 (
    R false w) (
    (0 ≤ j ∧ j < ((6 : Nat) : Int)) ∧
    Sts [.bool true] (Addr.add ⟨seen, 0, none⟩ (j.toNat * 1)) 0 w fun w1 =>
    Pn t fun a =>
    (0 ≤ j ∧ j < ((6 : Nat) : Int)) ∧
    LdI .i64 ((Addr.add a (j.toNat * 15)).add 9) w1 fun x39 =>
    N1 t seen x39 (IntKind.i64.wrap (n + (1 : Int))) w1)
theorem sock_Table_freeFine.B2_eq (t : Option Addr) (seen : Nat) (j n : Int) (t30 : Bool) (w : World) (N1 : Option Addr → Nat → Int → Int → World → Prop)  (R : Bool → World → Prop)  :
    (
  Bm t30 (
    R false w) (
    (0 ≤ j ∧ j < ((6 : Nat) : Int)) ∧
    Sts [.bool true] (Addr.add ⟨seen, 0, none⟩ (j.toNat * 1)) 0 w fun w1 =>
    Pn t fun a =>
    (0 ≤ j ∧ j < ((6 : Nat) : Int)) ∧
    LdI .i64 ((Addr.add a (j.toNat * 15)).add 9) w1 fun x39 =>
    N1 t seen x39 (IntKind.i64.wrap (n + (1 : Int))) w1)) = kstep Try.prog 57 Try.f38.results.toList (Try.f38.body.getD .skip) (sock_Table_freeFine.RV R) (kvc Try.prog 57 Try.f38.results.toList (Try.f38.body.getD .skip) (sock_Table_freeFine.RV R) [([(0, [1, 1, 1, 0, 1, 0, 0]), (2, [1, 1, 1, 0, 1, 0, 0]), (1, [0]), (0, [1, 1, 1, 1])], fun σ w => dP (slotOf σ 0) fun t_ => dK (slotOf σ 3) fun seen_ => dI .i64 (slotOf σ 4) fun j_ => dI .i64 (slotOf σ 5) fun n_ => N1 t_ seen_ j_ n_ w)] 2000) [(0, [1, 1, 1, 0, 1, 0, 0, 1, 0, 0, 0, 1]), (0, [1, 1, 1, 0, 1, 0, 0, 1, 0, 0, 1]), (1, [1]), (0, [1, 1, 1, 0, 1, 0, 0, 1, 1]), (2, [1, 1, 1, 0, 1, 0, 0]), (1, [0]), (0, [1, 1, 1, 1])] [(0, .pointer t), (3, .pointer (some ⟨seen, 0, none⟩)), (4, .int .i64 j), (5, .int .i64 n), (30, .bool t30)] w := by kernel_rfl
theorem sock_Table_freeFine.B2_sound {R : Bool → World → Prop} {N1 : Option Addr → Nat → Int → Int → World → Prop} (hN1 : ∀ t seen j n w, N1 t seen j n w → KW Try.prog 38 57 (sock_Table_freeFine.RV R) ([(0, [1, 1, 1, 0, 1, 0, 0]), (2, [1, 1, 1, 0, 1, 0, 0]), (1, [0]), (0, [1, 1, 1, 1])].map (toItem (Try.f38.body.getD .skip))) [(0, .pointer t), (3, .pointer (some ⟨seen, 0, none⟩)), (4, .int .i64 j), (5, .int .i64 n)] w) (t : Option Addr) (seen : Nat) (j n : Int) (t30 : Bool) (w : World) (h : sock_Table_freeFine.B2 t seen j n t30 w N1  R) :
    KW Try.prog 38 57 (sock_Table_freeFine.RV R) ([(0, [1, 1, 1, 0, 1, 0, 0, 1, 0, 0, 0, 1]), (0, [1, 1, 1, 0, 1, 0, 0, 1, 0, 0, 1]), (1, [1]), (0, [1, 1, 1, 0, 1, 0, 0, 1, 1]), (2, [1, 1, 1, 0, 1, 0, 0]), (1, [0]), (0, [1, 1, 1, 1])].map (toItem (Try.f38.body.getD .skip))) [(0, .pointer t), (3, .pointer (some ⟨seen, 0, none⟩)), (4, .int .i64 j), (5, .int .i64 n), (30, .bool t30)] w := by
  exact block_spec Try.func38 Try.mixed (stops_cons (fun σ w h => by
      obtain ⟨t_, e0, h⟩ := dP_elim h
      obtain ⟨seen_, e1, h⟩ := dK_elim h
      obtain ⟨j_, e2, h⟩ := dI_elim h
      obtain ⟨n_, e3, h⟩ := dI_elim h
      exact (hN1 t_ seen_ j_ n_ w h).weaken (Sub.cons (Sub.cons (Sub.cons (Sub.cons (Sub.nil _) e3) e2) e1) e0)) stops_nil) (Eq.mp (sock_Table_freeFine.B2_eq t seen j n t30 w N1  R ) h)
def sock_Table_freeFine.L2b (t : Option Addr) (seen : Nat) (i : Int) (w : World)  (N2 : Option Addr → Nat → Int → World → Prop) (R : Bool → World → Prop) : Prop :=
  Bm (decide (i < (6 : Int))) (
    Pn t fun a =>
    (0 ≤ i ∧ i < ((6 : Nat) : Int)) ∧
    LdB (Addr.add a (i.toNat * 15)) w.drew fun x52 =>
    (0 ≤ i ∧ i < ((6 : Nat) : Int)) ∧
    LdB (Addr.add ⟨seen, 0, none⟩ (i.toNat * 1)) w.drew fun x55 =>
    Bm (x52 == x55) (
      R false w.drew) (
      N2 t seen (IntKind.i64.wrap (i + (1 : Int))) w.drew)) (
    R true w)
theorem sock_Table_freeFine.L2b_eq (t : Option Addr) (seen : Nat) (i : Int) (w : World)  (N2 : Option Addr → Nat → Int → World → Prop) (R : Bool → World → Prop)  :
    (
  Bm (decide (i < (6 : Int))) (
    Pn t fun a =>
    (0 ≤ i ∧ i < ((6 : Nat) : Int)) ∧
    LdB (Addr.add a (i.toNat * 15)) w.drew fun x52 =>
    (0 ≤ i ∧ i < ((6 : Nat) : Int)) ∧
    LdB (Addr.add ⟨seen, 0, none⟩ (i.toNat * 1)) w.drew fun x55 =>
    Bm (x52 == x55) (
      R false w.drew) (
      N2 t seen (IntKind.i64.wrap (i + (1 : Int))) w.drew)) (
    R true w)) = kstep Try.prog 57 Try.f38.results.toList (Try.f38.body.getD .skip) (sock_Table_freeFine.RV R) (kvc Try.prog 57 Try.f38.results.toList (Try.f38.body.getD .skip) (sock_Table_freeFine.RV R) [([(0, [1, 1, 1, 1, 1, 0, 1, 0, 0]), (2, [1, 1, 1, 1, 1, 0, 1, 0, 0]), (1, [2]), (0, [1, 1, 1, 1, 1, 1])], fun σ w => dP (slotOf σ 0) fun t_ => dK (slotOf σ 3) fun seen_ => dI .i64 (slotOf σ 6) fun i_ => N2 t_ seen_ i_ w)] 2000) [(0, [1, 1, 1, 1, 1, 0, 1, 0, 0]), (2, [1, 1, 1, 1, 1, 0, 1, 0, 0]), (1, [2]), (0, [1, 1, 1, 1, 1, 1])] [(0, .pointer t), (3, .pointer (some ⟨seen, 0, none⟩)), (6, .int .i64 i)] w := by kernel_rfl
theorem sock_Table_freeFine.L2b_sound {R : Bool → World → Prop} {N2 : Option Addr → Nat → Int → World → Prop} (hN2 : ∀ t seen i w, N2 t seen i w → KW Try.prog 38 57 (sock_Table_freeFine.RV R) ([(0, [1, 1, 1, 1, 1, 0, 1, 0, 0]), (2, [1, 1, 1, 1, 1, 0, 1, 0, 0]), (1, [2]), (0, [1, 1, 1, 1, 1, 1])].map (toItem (Try.f38.body.getD .skip))) [(0, .pointer t), (3, .pointer (some ⟨seen, 0, none⟩)), (6, .int .i64 i)] w) (t : Option Addr) (seen : Nat) (i : Int) (w : World) (h : sock_Table_freeFine.L2b t seen i w  N2 R) :
    KW Try.prog 38 57 (sock_Table_freeFine.RV R) ([(0, [1, 1, 1, 1, 1, 0, 1, 0, 0]), (2, [1, 1, 1, 1, 1, 0, 1, 0, 0]), (1, [2]), (0, [1, 1, 1, 1, 1, 1])].map (toItem (Try.f38.body.getD .skip))) [(0, .pointer t), (3, .pointer (some ⟨seen, 0, none⟩)), (6, .int .i64 i)] w := by
  exact block_spec Try.func38 Try.mixed (stops_cons (fun σ w h => by
      obtain ⟨t_, e0, h⟩ := dP_elim h
      obtain ⟨seen_, e1, h⟩ := dK_elim h
      obtain ⟨i_, e2, h⟩ := dI_elim h
      exact (hN2 t_ seen_ i_ w h).weaken (Sub.cons (Sub.cons (Sub.cons (Sub.nil _) e2) e1) e0)) stops_nil) (Eq.mp (sock_Table_freeFine.L2b_eq t seen i w  N2 R ) h)
def sock_Table_freeFine.L2 (t : Option Addr) (seen : Nat) (i : Int) (w : World)  (R : Bool → World → Prop) : Prop :=
  ∃ (I : Nat → Option Addr → Nat → Int → World → Prop) (m : Nat), I m t seen i w ∧ ∀ m t seen i w, I m t seen i w → sock_Table_freeFine.L2b t seen i w  (fun t' seen' i' w' => ∃ m', m' < m ∧ I m' t' seen' i' w') R
theorem sock_Table_freeFine.L2_sound {R : Bool → World → Prop}  (t : Option Addr) (seen : Nat) (i : Int) (w : World) (h : sock_Table_freeFine.L2 t seen i w  R) :
    KW Try.prog 38 57 (sock_Table_freeFine.RV R) ([(0, [1, 1, 1, 1, 1, 0, 1, 0, 0]), (2, [1, 1, 1, 1, 1, 0, 1, 0, 0]), (1, [2]), (0, [1, 1, 1, 1, 1, 1])].map (toItem (Try.f38.body.getD .skip))) [(0, .pointer t), (3, .pointer (some ⟨seen, 0, none⟩)), (6, .int .i64 i)] w := by
  obtain ⟨I, m, hBase, hr⟩ := h
  refine KW.loop (fun m σ w => ∃ (t : Option Addr) (seen : Nat) (i : Int), σ = [(0, .pointer t), (3, .pointer (some ⟨seen, 0, none⟩)), (6, .int .i64 i)] ∧ I m t seen i w) ?_ m _ w ⟨t, seen, i, rfl, hBase⟩
  rintro m ih σ w ⟨t, seen, i, rfl, hI⟩
  exact sock_Table_freeFine.L2b_sound  (N2 := fun t' seen' i' w' => ∃ m', m' < m ∧ I m' t' seen' i' w') (fun t' seen' i' w' hx => by obtain ⟨m', hlt, hI'⟩ := hx; exact ih m' hlt _ w' ⟨t', seen', i', rfl, hI'⟩) t seen i w (hr m t seen i w hI)
def sock_Table_freeFine.B1 (t : Option Addr) (seen : Nat) (j n : Int) (t16 : Bool) (w : World) (N1 : Option Addr → Nat → Int → Int → World → Prop)  (R : Bool → World → Prop) : Prop :=
  Bm t16 (
    Pn t fun a =>
    (0 ≤ j ∧ j < ((6 : Nat) : Int)) ∧
    LdB (Addr.add a (j.toNat * 15)) w fun x25 =>
    Bm x25 (
      sock_Table_freeFine.B2 t seen j n true w N1 R) (
      (0 ≤ j ∧ j < ((6 : Nat) : Int)) ∧
      LdB (Addr.add ⟨seen, 0, none⟩ (j.toNat * 1)) w fun x29 =>
      sock_Table_freeFine.B2 t seen j n x29 w N1 R)) (
    Bm (j != (-1 : Int)) (
      R false w) (
      sock_Table_freeFine.L2 t seen (0 : Int) w  R))
theorem sock_Table_freeFine.B1_eq (t : Option Addr) (seen : Nat) (j n : Int) (t16 : Bool) (w : World) (N1 : Option Addr → Nat → Int → Int → World → Prop)  (R : Bool → World → Prop) (sB2 : Option Addr → Nat → Int → Int → Bool → World → Prop) (sL2 : Option Addr → Nat → Int → World → Prop) :
    (
  Bm t16 (
    Pn t fun a =>
    (0 ≤ j ∧ j < ((6 : Nat) : Int)) ∧
    LdB (Addr.add a (j.toNat * 15)) w fun x25 =>
    Bm x25 (
      sB2 t seen j n true w) (
      (0 ≤ j ∧ j < ((6 : Nat) : Int)) ∧
      LdB (Addr.add ⟨seen, 0, none⟩ (j.toNat * 1)) w fun x29 =>
      sB2 t seen j n x29 w)) (
    Bm (j != (-1 : Int)) (
      R false w) (
      sL2 t seen (0 : Int) w))) = kstep Try.prog 57 Try.f38.results.toList (Try.f38.body.getD .skip) (sock_Table_freeFine.RV R) (kvc Try.prog 57 Try.f38.results.toList (Try.f38.body.getD .skip) (sock_Table_freeFine.RV R) [([(0, [1, 1, 1, 0, 1, 0, 0, 1, 0, 0, 0, 1]), (0, [1, 1, 1, 0, 1, 0, 0, 1, 0, 0, 1]), (1, [1]), (0, [1, 1, 1, 0, 1, 0, 0, 1, 1]), (2, [1, 1, 1, 0, 1, 0, 0]), (1, [0]), (0, [1, 1, 1, 1])], fun σ w => dP (slotOf σ 0) fun t_ => dK (slotOf σ 3) fun seen_ => dI .i64 (slotOf σ 4) fun j_ => dI .i64 (slotOf σ 5) fun n_ => dB (slotOf σ 30) fun t30_ => sB2 t_ seen_ j_ n_ t30_ w),
    ([(0, [1, 1, 1, 1, 1, 0, 1, 0, 0]), (2, [1, 1, 1, 1, 1, 0, 1, 0, 0]), (1, [2]), (0, [1, 1, 1, 1, 1, 1])], fun σ w => dP (slotOf σ 0) fun t_ => dK (slotOf σ 3) fun seen_ => dI .i64 (slotOf σ 6) fun i_ => sL2 t_ seen_ i_ w)] 2000) [(0, [1, 1, 1, 0, 1, 0, 0, 0, 1]), (0, [1, 1, 1, 0, 1, 0, 0, 1]), (2, [1, 1, 1, 0, 1, 0, 0]), (1, [0]), (0, [1, 1, 1, 1])] [(0, .pointer t), (3, .pointer (some ⟨seen, 0, none⟩)), (4, .int .i64 j), (5, .int .i64 n), (16, .bool t16)] w := by kernel_rfl
theorem sock_Table_freeFine.B1_sound {R : Bool → World → Prop} {N1 : Option Addr → Nat → Int → Int → World → Prop} (hN1 : ∀ t seen j n w, N1 t seen j n w → KW Try.prog 38 57 (sock_Table_freeFine.RV R) ([(0, [1, 1, 1, 0, 1, 0, 0]), (2, [1, 1, 1, 0, 1, 0, 0]), (1, [0]), (0, [1, 1, 1, 1])].map (toItem (Try.f38.body.getD .skip))) [(0, .pointer t), (3, .pointer (some ⟨seen, 0, none⟩)), (4, .int .i64 j), (5, .int .i64 n)] w) (t : Option Addr) (seen : Nat) (j n : Int) (t16 : Bool) (w : World) (h : sock_Table_freeFine.B1 t seen j n t16 w N1  R) :
    KW Try.prog 38 57 (sock_Table_freeFine.RV R) ([(0, [1, 1, 1, 0, 1, 0, 0, 0, 1]), (0, [1, 1, 1, 0, 1, 0, 0, 1]), (2, [1, 1, 1, 0, 1, 0, 0]), (1, [0]), (0, [1, 1, 1, 1])].map (toItem (Try.f38.body.getD .skip))) [(0, .pointer t), (3, .pointer (some ⟨seen, 0, none⟩)), (4, .int .i64 j), (5, .int .i64 n), (16, .bool t16)] w := by
  exact block_spec Try.func38 Try.mixed (stops_cons (fun σ w h => by
      obtain ⟨t_, e0, h⟩ := dP_elim h
      obtain ⟨seen_, e1, h⟩ := dK_elim h
      obtain ⟨j_, e2, h⟩ := dI_elim h
      obtain ⟨n_, e3, h⟩ := dI_elim h
      obtain ⟨t30_, e4, h⟩ := dB_elim h
      exact (sock_Table_freeFine.B2_sound hN1 t_ seen_ j_ n_ t30_ w h).weaken (Sub.cons (Sub.cons (Sub.cons (Sub.cons (Sub.cons (Sub.nil _) e4) e3) e2) e1) e0)) (stops_cons (fun σ w h => by
      obtain ⟨t_, e0, h⟩ := dP_elim h
      obtain ⟨seen_, e1, h⟩ := dK_elim h
      obtain ⟨i_, e2, h⟩ := dI_elim h
      exact (sock_Table_freeFine.L2_sound  t_ seen_ i_ w h).weaken (Sub.cons (Sub.cons (Sub.cons (Sub.nil _) e2) e1) e0)) stops_nil)) (Eq.mp (sock_Table_freeFine.B1_eq t seen j n t16 w N1  R (fun t_ seen_ j_ n_ t30_ w => sock_Table_freeFine.B2 t_ seen_ j_ n_ t30_ w N1 R) (fun t_ seen_ i_ w => sock_Table_freeFine.L2 t_ seen_ i_ w  R)) h)
def sock_Table_freeFine.L1b (t : Option Addr) (seen : Nat) (j n : Int) (w : World)  (N1 : Option Addr → Nat → Int → Int → World → Prop) (R : Bool → World → Prop) : Prop :=
  Bm (j != (-1 : Int)) (
    sock_Table_freeFine.B1 t seen j n (decide (n < (6 : Int))) w N1 R) (
    sock_Table_freeFine.B1 t seen j n false w N1 R)
theorem sock_Table_freeFine.L1b_eq (t : Option Addr) (seen : Nat) (j n : Int) (w : World)  (N1 : Option Addr → Nat → Int → Int → World → Prop) (R : Bool → World → Prop) (sB1 : Option Addr → Nat → Int → Int → Bool → World → Prop) :
    (
  Bm (j != (-1 : Int)) (
    sB1 t seen j n (decide (n < (6 : Int))) w) (
    sB1 t seen j n false w)) = kstep Try.prog 57 Try.f38.results.toList (Try.f38.body.getD .skip) (sock_Table_freeFine.RV R) (kvc Try.prog 57 Try.f38.results.toList (Try.f38.body.getD .skip) (sock_Table_freeFine.RV R) [([(0, [1, 1, 1, 0, 1, 0, 0, 0, 1]), (0, [1, 1, 1, 0, 1, 0, 0, 1]), (2, [1, 1, 1, 0, 1, 0, 0]), (1, [0]), (0, [1, 1, 1, 1])], fun σ w => dP (slotOf σ 0) fun t_ => dK (slotOf σ 3) fun seen_ => dI .i64 (slotOf σ 4) fun j_ => dI .i64 (slotOf σ 5) fun n_ => dB (slotOf σ 16) fun t16_ => sB1 t_ seen_ j_ n_ t16_ w)] 2000) [(0, [1, 1, 1, 0, 1, 0, 0]), (2, [1, 1, 1, 0, 1, 0, 0]), (1, [0]), (0, [1, 1, 1, 1])] [(0, .pointer t), (3, .pointer (some ⟨seen, 0, none⟩)), (4, .int .i64 j), (5, .int .i64 n)] w := by kernel_rfl
theorem sock_Table_freeFine.L1b_sound {R : Bool → World → Prop} {N1 : Option Addr → Nat → Int → Int → World → Prop} (hN1 : ∀ t seen j n w, N1 t seen j n w → KW Try.prog 38 57 (sock_Table_freeFine.RV R) ([(0, [1, 1, 1, 0, 1, 0, 0]), (2, [1, 1, 1, 0, 1, 0, 0]), (1, [0]), (0, [1, 1, 1, 1])].map (toItem (Try.f38.body.getD .skip))) [(0, .pointer t), (3, .pointer (some ⟨seen, 0, none⟩)), (4, .int .i64 j), (5, .int .i64 n)] w) (t : Option Addr) (seen : Nat) (j n : Int) (w : World) (h : sock_Table_freeFine.L1b t seen j n w  N1 R) :
    KW Try.prog 38 57 (sock_Table_freeFine.RV R) ([(0, [1, 1, 1, 0, 1, 0, 0]), (2, [1, 1, 1, 0, 1, 0, 0]), (1, [0]), (0, [1, 1, 1, 1])].map (toItem (Try.f38.body.getD .skip))) [(0, .pointer t), (3, .pointer (some ⟨seen, 0, none⟩)), (4, .int .i64 j), (5, .int .i64 n)] w := by
  exact block_spec Try.func38 Try.mixed (stops_cons (fun σ w h => by
      obtain ⟨t_, e0, h⟩ := dP_elim h
      obtain ⟨seen_, e1, h⟩ := dK_elim h
      obtain ⟨j_, e2, h⟩ := dI_elim h
      obtain ⟨n_, e3, h⟩ := dI_elim h
      obtain ⟨t16_, e4, h⟩ := dB_elim h
      exact (sock_Table_freeFine.B1_sound hN1 t_ seen_ j_ n_ t16_ w h).weaken (Sub.cons (Sub.cons (Sub.cons (Sub.cons (Sub.cons (Sub.nil _) e4) e3) e2) e1) e0)) stops_nil) (Eq.mp (sock_Table_freeFine.L1b_eq t seen j n w  N1 R (fun t_ seen_ j_ n_ t16_ w => sock_Table_freeFine.B1 t_ seen_ j_ n_ t16_ w N1 R)) h)
def sock_Table_freeFine.L1 (t : Option Addr) (seen : Nat) (j n : Int) (w : World)  (R : Bool → World → Prop) : Prop :=
  ∃ (I : Nat → Option Addr → Nat → Int → Int → World → Prop) (m : Nat), I m t seen j n w ∧ ∀ m t seen j n w, I m t seen j n w → sock_Table_freeFine.L1b t seen j n w  (fun t' seen' j' n' w' => ∃ m', m' < m ∧ I m' t' seen' j' n' w') R
theorem sock_Table_freeFine.L1_sound {R : Bool → World → Prop}  (t : Option Addr) (seen : Nat) (j n : Int) (w : World) (h : sock_Table_freeFine.L1 t seen j n w  R) :
    KW Try.prog 38 57 (sock_Table_freeFine.RV R) ([(0, [1, 1, 1, 0, 1, 0, 0]), (2, [1, 1, 1, 0, 1, 0, 0]), (1, [0]), (0, [1, 1, 1, 1])].map (toItem (Try.f38.body.getD .skip))) [(0, .pointer t), (3, .pointer (some ⟨seen, 0, none⟩)), (4, .int .i64 j), (5, .int .i64 n)] w := by
  obtain ⟨I, m, hBase, hr⟩ := h
  refine KW.loop (fun m σ w => ∃ (t : Option Addr) (seen : Nat) (j n : Int), σ = [(0, .pointer t), (3, .pointer (some ⟨seen, 0, none⟩)), (4, .int .i64 j), (5, .int .i64 n)] ∧ I m t seen j n w) ?_ m _ w ⟨t, seen, j, n, rfl, hBase⟩
  rintro m ih σ w ⟨t, seen, j, n, rfl, hI⟩
  exact sock_Table_freeFine.L1b_sound  (N1 := fun t' seen' j' n' w' => ∃ m', m' < m ∧ I m' t' seen' j' n' w') (fun t' seen' j' n' w' hx => by obtain ⟨m', hlt, hI'⟩ := hx; exact ih m' hlt _ w' ⟨t', seen', j', n', rfl, hI'⟩) t seen j n w (hr m t seen j n w hI)
def sock_Table_freeFine.B0 (t : Option Addr) (w : World)   (R : Bool → World → Prop) : Prop :=
  New (.cells #[.bool false, .bool false, .bool false, .bool false, .bool false, .bool false] 77) w fun seen_ w1 =>
  Pn t fun a =>
  LdI .i64 (a.add 90) w1 fun x10 =>
  sock_Table_freeFine.L1 t seen_ x10 (0 : Int) w1  R
theorem sock_Table_freeFine.B0_eq (t : Option Addr) (w : World)   (R : Bool → World → Prop) (sL1 : Option Addr → Nat → Int → Int → World → Prop) :
    (
  New (.cells #[.bool false, .bool false, .bool false, .bool false, .bool false, .bool false] 77) w fun seen_ w1 =>
  Pn t fun a =>
  LdI .i64 (a.add 90) w1 fun x10 =>
  sL1 t seen_ x10 (0 : Int) w1) = kstep Try.prog 57 Try.f38.results.toList (Try.f38.body.getD .skip) (sock_Table_freeFine.RV R) (kvc Try.prog 57 Try.f38.results.toList (Try.f38.body.getD .skip) (sock_Table_freeFine.RV R) [([(0, [1, 1, 1, 0, 1, 0, 0]), (2, [1, 1, 1, 0, 1, 0, 0]), (1, [0]), (0, [1, 1, 1, 1])], fun σ w => dP (slotOf σ 0) fun t_ => dK (slotOf σ 3) fun seen_ => dI .i64 (slotOf σ 4) fun j_ => dI .i64 (slotOf σ 5) fun n_ => sL1 t_ seen_ j_ n_ w)] 2000) [(0, [])] [(0, .pointer t)] w := by kernel_rfl
theorem sock_Table_freeFine.B0_sound {R : Bool → World → Prop}  (t : Option Addr) (w : World) (h : sock_Table_freeFine.B0 t w   R) :
    KW Try.prog 38 57 (sock_Table_freeFine.RV R) ([(0, [])].map (toItem (Try.f38.body.getD .skip))) [(0, .pointer t)] w := by
  exact block_spec Try.func38 Try.mixed (stops_cons (fun σ w h => by
      obtain ⟨t_, e0, h⟩ := dP_elim h
      obtain ⟨seen_, e1, h⟩ := dK_elim h
      obtain ⟨j_, e2, h⟩ := dI_elim h
      obtain ⟨n_, e3, h⟩ := dI_elim h
      exact (sock_Table_freeFine.L1_sound  t_ seen_ j_ n_ w h).weaken (Sub.cons (Sub.cons (Sub.cons (Sub.cons (Sub.nil _) e3) e2) e1) e0)) stops_nil) (Eq.mp (sock_Table_freeFine.B0_eq t w   R (fun t_ seen_ j_ n_ w => sock_Table_freeFine.L1 t_ seen_ j_ n_ w  R)) h)
theorem sock_Table_freeFine.sound (t : Option Addr) (w : World) (R : Bool → World → Prop) (h : sock_Table_freeFine.B0 t w R) : sock_Table_freeFine.Call t w R := by
  have hc := calls_of_block (args := #[.pointer t]) Try.func38 (body := (Try.f38.body.getD .skip)) (by kernel_rfl) (by kernel_rfl) (args_slot _) (sock_Table_freeFine.B0_sound t w h)
  exact hc.mono fun e w' he => by
    obtain ⟨v, rfl, hv⟩ := he
    exact sock_Table_freeFine.RV_elim hv
def sock_Table_chainsFine.B3 (t : Option Addr) (seen : Nat) (blocks b j n : Int) (e : Nat) (t63 : Bool) (w : World) (N1 : Option Addr → Nat → Int → Int → World → Prop) (N2 : Option Addr → Nat → Int → Int → Int → Int → World → Prop)  (R : Bool → World → Prop) : Prop :=
  Bm t63 (
    R false w) (
    LdI .i64 ⟨e, 2, none⟩ w fun x65 =>
    LdI .i64 ⟨e, 3, none⟩ w fun x67 =>
    LdI .i64 ⟨e, 4, none⟩ w fun x69 =>
    sock_hash.Call x65 x67 x69 w fun r70 w1 =>
    Bm (r70 != b) (
      R false w1) (
      LdI .i64 ⟨e, 5, none⟩ w1 fun x74 =>
      sock_bitOf.Call x74 w1 fun r75 w2 =>
      Bm ((IntKind.u8.wrap (BitVec.ofInt IntKind.u8.bits blocks &&& BitVec.ofInt IntKind.u8.bits r75).toNat) != (0 : Int)) (
        R false w2) (
        (0 ≤ j ∧ j < ((6 : Nat) : Int)) ∧
        Sts [.bool true] (Addr.add ⟨seen, 0, none⟩ (j.toNat * 1)) 0 w2 fun w3 =>
        Pn t fun a =>
        (0 ≤ j ∧ j < ((6 : Nat) : Int)) ∧
        LdI .i64 ((Addr.add a (j.toNat * 15)).add 9) w3 fun x91 =>
        N2 t seen (IntKind.u8.wrap (BitVec.ofInt IntKind.u8.bits blocks ||| BitVec.ofInt IntKind.u8.bits r75).toNat) b x91 (IntKind.i64.wrap (n + (1 : Int))) w3)))
theorem sock_Table_chainsFine.B3_eq (t : Option Addr) (seen : Nat) (blocks b j n : Int) (e : Nat) (t63 : Bool) (w : World) (N1 : Option Addr → Nat → Int → Int → World → Prop) (N2 : Option Addr → Nat → Int → Int → Int → Int → World → Prop)  (R : Bool → World → Prop)  :
    (
  Bm t63 (
    R false w) (
    LdI .i64 ⟨e, 2, none⟩ w fun x65 =>
    LdI .i64 ⟨e, 3, none⟩ w fun x67 =>
    LdI .i64 ⟨e, 4, none⟩ w fun x69 =>
    sock_hash.Call x65 x67 x69 w fun r70 w1 =>
    Bm (r70 != b) (
      R false w1) (
      LdI .i64 ⟨e, 5, none⟩ w1 fun x74 =>
      sock_bitOf.Call x74 w1 fun r75 w2 =>
      Bm ((IntKind.u8.wrap (BitVec.ofInt IntKind.u8.bits blocks &&& BitVec.ofInt IntKind.u8.bits r75).toNat) != (0 : Int)) (
        R false w2) (
        (0 ≤ j ∧ j < ((6 : Nat) : Int)) ∧
        Sts [.bool true] (Addr.add ⟨seen, 0, none⟩ (j.toNat * 1)) 0 w2 fun w3 =>
        Pn t fun a =>
        (0 ≤ j ∧ j < ((6 : Nat) : Int)) ∧
        LdI .i64 ((Addr.add a (j.toNat * 15)).add 9) w3 fun x91 =>
        N2 t seen (IntKind.u8.wrap (BitVec.ofInt IntKind.u8.bits blocks ||| BitVec.ofInt IntKind.u8.bits r75).toNat) b x91 (IntKind.i64.wrap (n + (1 : Int))) w3)))) = kstep Try.prog 126 Try.f39.results.toList (Try.f39.body.getD .skip) (sock_Table_chainsFine.RV R) (kvc Try.prog 126 Try.f39.results.toList (Try.f39.body.getD .skip) (sock_Table_chainsFine.RV R) [([(0, [1, 1, 1, 0, 1, 0, 0, 1, 0, 0, 1, 0, 1, 0, 0]), (2, [1, 1, 1, 0, 1, 0, 0, 1, 0, 0, 1, 0, 1, 0, 0]), (1, [2]), (0, [1, 1, 1, 0, 1, 0, 0, 1, 0, 0, 1, 1]), (1, [1]), (0, [1, 1, 1, 0, 1, 0, 0, 1, 1]), (2, [1, 1, 1, 0, 1, 0, 0]), (1, [0]), (0, [1, 1, 1, 1])], fun σ w => dP (slotOf σ 0) fun t_ => dK (slotOf σ 3) fun seen_ => dI .u8 (slotOf σ 4) fun blocks_ => dI .i64 (slotOf σ 5) fun b_ => dI .i64 (slotOf σ 6) fun j_ => dI .i64 (slotOf σ 7) fun n_ => N2 t_ seen_ blocks_ b_ j_ n_ w)] 2000) [(0, [1, 1, 1, 0, 1, 0, 0, 1, 0, 0, 1, 0, 1, 0, 0, 1, 0, 0, 1, 0, 1]), (0, [1, 1, 1, 0, 1, 0, 0, 1, 0, 0, 1, 0, 1, 0, 0, 1, 0, 0, 1, 1]), (1, [3]), (0, [1, 1, 1, 0, 1, 0, 0, 1, 0, 0, 1, 0, 1, 0, 0, 1, 1]), (2, [1, 1, 1, 0, 1, 0, 0, 1, 0, 0, 1, 0, 1, 0, 0]), (1, [2]), (0, [1, 1, 1, 0, 1, 0, 0, 1, 0, 0, 1, 1]), (1, [1]), (0, [1, 1, 1, 0, 1, 0, 0, 1, 1]), (2, [1, 1, 1, 0, 1, 0, 0]), (1, [0]), (0, [1, 1, 1, 1])] [(0, .pointer t), (3, .pointer (some ⟨seen, 0, none⟩)), (4, .int .u8 blocks), (5, .int .i64 b), (6, .int .i64 j), (7, .int .i64 n), (8, .pointer (some ⟨e, 0, none⟩)), (63, .bool t63)] w := by kernel_rfl
theorem sock_Table_chainsFine.B3_sound {R : Bool → World → Prop} {N1 : Option Addr → Nat → Int → Int → World → Prop} (hN1 : ∀ t seen blocks b w, N1 t seen blocks b w → KW Try.prog 39 126 (sock_Table_chainsFine.RV R) ([(0, [1, 1, 1, 0, 1, 0, 0]), (2, [1, 1, 1, 0, 1, 0, 0]), (1, [0]), (0, [1, 1, 1, 1])].map (toItem (Try.f39.body.getD .skip))) [(0, .pointer t), (3, .pointer (some ⟨seen, 0, none⟩)), (4, .int .u8 blocks), (5, .int .i64 b)] w) {N2 : Option Addr → Nat → Int → Int → Int → Int → World → Prop} (hN2 : ∀ t seen blocks b j n w, N2 t seen blocks b j n w → KW Try.prog 39 126 (sock_Table_chainsFine.RV R) ([(0, [1, 1, 1, 0, 1, 0, 0, 1, 0, 0, 1, 0, 1, 0, 0]), (2, [1, 1, 1, 0, 1, 0, 0, 1, 0, 0, 1, 0, 1, 0, 0]), (1, [2]), (0, [1, 1, 1, 0, 1, 0, 0, 1, 0, 0, 1, 1]), (1, [1]), (0, [1, 1, 1, 0, 1, 0, 0, 1, 1]), (2, [1, 1, 1, 0, 1, 0, 0]), (1, [0]), (0, [1, 1, 1, 1])].map (toItem (Try.f39.body.getD .skip))) [(0, .pointer t), (3, .pointer (some ⟨seen, 0, none⟩)), (4, .int .u8 blocks), (5, .int .i64 b), (6, .int .i64 j), (7, .int .i64 n)] w) (t : Option Addr) (seen : Nat) (blocks b j n : Int) (e : Nat) (t63 : Bool) (w : World) (h : sock_Table_chainsFine.B3 t seen blocks b j n e t63 w N1 N2  R) :
    KW Try.prog 39 126 (sock_Table_chainsFine.RV R) ([(0, [1, 1, 1, 0, 1, 0, 0, 1, 0, 0, 1, 0, 1, 0, 0, 1, 0, 0, 1, 0, 1]), (0, [1, 1, 1, 0, 1, 0, 0, 1, 0, 0, 1, 0, 1, 0, 0, 1, 0, 0, 1, 1]), (1, [3]), (0, [1, 1, 1, 0, 1, 0, 0, 1, 0, 0, 1, 0, 1, 0, 0, 1, 1]), (2, [1, 1, 1, 0, 1, 0, 0, 1, 0, 0, 1, 0, 1, 0, 0]), (1, [2]), (0, [1, 1, 1, 0, 1, 0, 0, 1, 0, 0, 1, 1]), (1, [1]), (0, [1, 1, 1, 0, 1, 0, 0, 1, 1]), (2, [1, 1, 1, 0, 1, 0, 0]), (1, [0]), (0, [1, 1, 1, 1])].map (toItem (Try.f39.body.getD .skip))) [(0, .pointer t), (3, .pointer (some ⟨seen, 0, none⟩)), (4, .int .u8 blocks), (5, .int .i64 b), (6, .int .i64 j), (7, .int .i64 n), (8, .pointer (some ⟨e, 0, none⟩)), (63, .bool t63)] w := by
  exact block_spec Try.func39 Try.mixed (stops_cons (fun σ w h => by
      obtain ⟨t_, e0, h⟩ := dP_elim h
      obtain ⟨seen_, e1, h⟩ := dK_elim h
      obtain ⟨blocks_, e2, h⟩ := dI_elim h
      obtain ⟨b_, e3, h⟩ := dI_elim h
      obtain ⟨j_, e4, h⟩ := dI_elim h
      obtain ⟨n_, e5, h⟩ := dI_elim h
      exact (hN2 t_ seen_ blocks_ b_ j_ n_ w h).weaken (Sub.cons (Sub.cons (Sub.cons (Sub.cons (Sub.cons (Sub.cons (Sub.nil _) e5) e4) e3) e2) e1) e0)) stops_nil) (Eq.mp (sock_Table_chainsFine.B3_eq t seen blocks b j n e t63 w N1 N2  R ) h)
def sock_Table_chainsFine.B1 (t : Option Addr) (seen : Nat) (blocks b j n : Int) (t26 : Bool) (w : World) (N1 : Option Addr → Nat → Int → Int → World → Prop) (N2 : Option Addr → Nat → Int → Int → Int → Int → World → Prop)  (R : Bool → World → Prop) : Prop :=
  Bm t26 (
    Pn t fun a =>
    (0 ≤ j ∧ j < ((6 : Nat) : Int)) ∧
    LdI .i64 ((Addr.add a (j.toNat * 15)).add 1) w fun x35_0 =>
    LdI .i64 (((Addr.add a (j.toNat * 15)).add 1).add 1) w fun x35_1 =>
    LdI .i64 (((Addr.add a (j.toNat * 15)).add 1).add 2) w fun x35_2 =>
    LdI .i64 (((Addr.add a (j.toNat * 15)).add 1).add 3) w fun x35_3 =>
    LdI .i64 (((Addr.add a (j.toNat * 15)).add 1).add 4) w fun x35_4 =>
    LdI .i64 (((Addr.add a (j.toNat * 15)).add 1).add 5) w fun x35_5 =>
    LdI .i64 (((Addr.add a (j.toNat * 15)).add 1).add 6) w fun x35_6 =>
    LdB (((Addr.add a (j.toNat * 15)).add 1).add 7) w fun x35_7 =>
    New (.cells #[.int .i64 (0 : Int), .int .i64 (0 : Int), .int .i64 (0 : Int), .int .i64 (0 : Int), .int .i64 (0 : Int), .int .i64 (0 : Int), .int .i64 (0 : Int), .bool false] 40) w fun e_ w1 =>
    Sts [.int .i64 x35_0, .int .i64 x35_1, .int .i64 x35_2, .int .i64 x35_3, .int .i64 x35_4, .int .i64 x35_5, .int .i64 x35_6, .bool x35_7] ⟨e_, 0, none⟩ 0 w1 fun w2 =>
    Pn t fun a_1 =>
    (0 ≤ j ∧ j < ((6 : Nat) : Int)) ∧
    LdB (Addr.add a_1 (j.toNat * 15)) w2 fun x42 =>
    Bm (!x42) (
      sock_Table_chainsFine.B3 t seen blocks b j n e_ true w2 N1 N2 R) (
      (0 ≤ j ∧ j < ((6 : Nat) : Int)) ∧
      LdB (Addr.add ⟨seen, 0, none⟩ (j.toNat * 1)) w2 fun x47 =>
      Bm x47 (
        sock_Table_chainsFine.B3 t seen blocks b j n e_ true w2 N1 N2 R) (
        LdI .i64 ⟨e_, 1, none⟩ w2 fun x51 =>
        Bm (x51 != (2 : Int)) (
          sock_Table_chainsFine.B3 t seen blocks b j n e_ true w2 N1 N2 R) (
          LdI .i64 ⟨e_, 5, none⟩ w2 fun x56 =>
          Bm (decide (x56 < (0 : Int))) (
            sock_Table_chainsFine.B3 t seen blocks b j n e_ true w2 N1 N2 R) (
            LdI .i64 ⟨e_, 5, none⟩ w2 fun x61 =>
            sock_Table_chainsFine.B3 t seen blocks b j n e_ (decide (x61 ≥ (4 : Int))) w2 N1 N2 R))))) (
    Bm (j != (-1 : Int)) (
      R false w) (
      N1 t seen blocks (IntKind.i64.wrap (b + (1 : Int))) w))
theorem sock_Table_chainsFine.B1_eq (t : Option Addr) (seen : Nat) (blocks b j n : Int) (t26 : Bool) (w : World) (N1 : Option Addr → Nat → Int → Int → World → Prop) (N2 : Option Addr → Nat → Int → Int → Int → Int → World → Prop)  (R : Bool → World → Prop) (sB3 : Option Addr → Nat → Int → Int → Int → Int → Nat → Bool → World → Prop) :
    (
  Bm t26 (
    Pn t fun a =>
    (0 ≤ j ∧ j < ((6 : Nat) : Int)) ∧
    LdI .i64 ((Addr.add a (j.toNat * 15)).add 1) w fun x35_0 =>
    LdI .i64 (((Addr.add a (j.toNat * 15)).add 1).add 1) w fun x35_1 =>
    LdI .i64 (((Addr.add a (j.toNat * 15)).add 1).add 2) w fun x35_2 =>
    LdI .i64 (((Addr.add a (j.toNat * 15)).add 1).add 3) w fun x35_3 =>
    LdI .i64 (((Addr.add a (j.toNat * 15)).add 1).add 4) w fun x35_4 =>
    LdI .i64 (((Addr.add a (j.toNat * 15)).add 1).add 5) w fun x35_5 =>
    LdI .i64 (((Addr.add a (j.toNat * 15)).add 1).add 6) w fun x35_6 =>
    LdB (((Addr.add a (j.toNat * 15)).add 1).add 7) w fun x35_7 =>
    New (.cells #[.int .i64 (0 : Int), .int .i64 (0 : Int), .int .i64 (0 : Int), .int .i64 (0 : Int), .int .i64 (0 : Int), .int .i64 (0 : Int), .int .i64 (0 : Int), .bool false] 40) w fun e_ w1 =>
    Sts [.int .i64 x35_0, .int .i64 x35_1, .int .i64 x35_2, .int .i64 x35_3, .int .i64 x35_4, .int .i64 x35_5, .int .i64 x35_6, .bool x35_7] ⟨e_, 0, none⟩ 0 w1 fun w2 =>
    Pn t fun a_1 =>
    (0 ≤ j ∧ j < ((6 : Nat) : Int)) ∧
    LdB (Addr.add a_1 (j.toNat * 15)) w2 fun x42 =>
    Bm (!x42) (
      sB3 t seen blocks b j n e_ true w2) (
      (0 ≤ j ∧ j < ((6 : Nat) : Int)) ∧
      LdB (Addr.add ⟨seen, 0, none⟩ (j.toNat * 1)) w2 fun x47 =>
      Bm x47 (
        sB3 t seen blocks b j n e_ true w2) (
        LdI .i64 ⟨e_, 1, none⟩ w2 fun x51 =>
        Bm (x51 != (2 : Int)) (
          sB3 t seen blocks b j n e_ true w2) (
          LdI .i64 ⟨e_, 5, none⟩ w2 fun x56 =>
          Bm (decide (x56 < (0 : Int))) (
            sB3 t seen blocks b j n e_ true w2) (
            LdI .i64 ⟨e_, 5, none⟩ w2 fun x61 =>
            sB3 t seen blocks b j n e_ (decide (x61 ≥ (4 : Int))) w2))))) (
    Bm (j != (-1 : Int)) (
      R false w) (
      N1 t seen blocks (IntKind.i64.wrap (b + (1 : Int))) w))) = kstep Try.prog 126 Try.f39.results.toList (Try.f39.body.getD .skip) (sock_Table_chainsFine.RV R) (kvc Try.prog 126 Try.f39.results.toList (Try.f39.body.getD .skip) (sock_Table_chainsFine.RV R) [([(0, [1, 1, 1, 0, 1, 0, 0, 1, 0, 0, 1, 0, 1, 0, 0, 1, 0, 0, 1, 0, 1]), (0, [1, 1, 1, 0, 1, 0, 0, 1, 0, 0, 1, 0, 1, 0, 0, 1, 0, 0, 1, 1]), (1, [3]), (0, [1, 1, 1, 0, 1, 0, 0, 1, 0, 0, 1, 0, 1, 0, 0, 1, 1]), (2, [1, 1, 1, 0, 1, 0, 0, 1, 0, 0, 1, 0, 1, 0, 0]), (1, [2]), (0, [1, 1, 1, 0, 1, 0, 0, 1, 0, 0, 1, 1]), (1, [1]), (0, [1, 1, 1, 0, 1, 0, 0, 1, 1]), (2, [1, 1, 1, 0, 1, 0, 0]), (1, [0]), (0, [1, 1, 1, 1])], fun σ w => dP (slotOf σ 0) fun t_ => dK (slotOf σ 3) fun seen_ => dI .u8 (slotOf σ 4) fun blocks_ => dI .i64 (slotOf σ 5) fun b_ => dI .i64 (slotOf σ 6) fun j_ => dI .i64 (slotOf σ 7) fun n_ => dK (slotOf σ 8) fun e_ => dB (slotOf σ 63) fun t63_ => sB3 t_ seen_ blocks_ b_ j_ n_ e_ t63_ w),
    ([(0, [1, 1, 1, 0, 1, 0, 0]), (2, [1, 1, 1, 0, 1, 0, 0]), (1, [0]), (0, [1, 1, 1, 1])], fun σ w => dP (slotOf σ 0) fun t_ => dK (slotOf σ 3) fun seen_ => dI .u8 (slotOf σ 4) fun blocks_ => dI .i64 (slotOf σ 5) fun b_ => N1 t_ seen_ blocks_ b_ w)] 2000) [(0, [1, 1, 1, 0, 1, 0, 0, 1, 0, 0, 1, 0, 1, 0, 0, 0, 1]), (0, [1, 1, 1, 0, 1, 0, 0, 1, 0, 0, 1, 0, 1, 0, 0, 1]), (2, [1, 1, 1, 0, 1, 0, 0, 1, 0, 0, 1, 0, 1, 0, 0]), (1, [2]), (0, [1, 1, 1, 0, 1, 0, 0, 1, 0, 0, 1, 1]), (1, [1]), (0, [1, 1, 1, 0, 1, 0, 0, 1, 1]), (2, [1, 1, 1, 0, 1, 0, 0]), (1, [0]), (0, [1, 1, 1, 1])] [(0, .pointer t), (3, .pointer (some ⟨seen, 0, none⟩)), (4, .int .u8 blocks), (5, .int .i64 b), (6, .int .i64 j), (7, .int .i64 n), (26, .bool t26)] w := by kernel_rfl
theorem sock_Table_chainsFine.B1_sound {R : Bool → World → Prop} {N1 : Option Addr → Nat → Int → Int → World → Prop} (hN1 : ∀ t seen blocks b w, N1 t seen blocks b w → KW Try.prog 39 126 (sock_Table_chainsFine.RV R) ([(0, [1, 1, 1, 0, 1, 0, 0]), (2, [1, 1, 1, 0, 1, 0, 0]), (1, [0]), (0, [1, 1, 1, 1])].map (toItem (Try.f39.body.getD .skip))) [(0, .pointer t), (3, .pointer (some ⟨seen, 0, none⟩)), (4, .int .u8 blocks), (5, .int .i64 b)] w) {N2 : Option Addr → Nat → Int → Int → Int → Int → World → Prop} (hN2 : ∀ t seen blocks b j n w, N2 t seen blocks b j n w → KW Try.prog 39 126 (sock_Table_chainsFine.RV R) ([(0, [1, 1, 1, 0, 1, 0, 0, 1, 0, 0, 1, 0, 1, 0, 0]), (2, [1, 1, 1, 0, 1, 0, 0, 1, 0, 0, 1, 0, 1, 0, 0]), (1, [2]), (0, [1, 1, 1, 0, 1, 0, 0, 1, 0, 0, 1, 1]), (1, [1]), (0, [1, 1, 1, 0, 1, 0, 0, 1, 1]), (2, [1, 1, 1, 0, 1, 0, 0]), (1, [0]), (0, [1, 1, 1, 1])].map (toItem (Try.f39.body.getD .skip))) [(0, .pointer t), (3, .pointer (some ⟨seen, 0, none⟩)), (4, .int .u8 blocks), (5, .int .i64 b), (6, .int .i64 j), (7, .int .i64 n)] w) (t : Option Addr) (seen : Nat) (blocks b j n : Int) (t26 : Bool) (w : World) (h : sock_Table_chainsFine.B1 t seen blocks b j n t26 w N1 N2  R) :
    KW Try.prog 39 126 (sock_Table_chainsFine.RV R) ([(0, [1, 1, 1, 0, 1, 0, 0, 1, 0, 0, 1, 0, 1, 0, 0, 0, 1]), (0, [1, 1, 1, 0, 1, 0, 0, 1, 0, 0, 1, 0, 1, 0, 0, 1]), (2, [1, 1, 1, 0, 1, 0, 0, 1, 0, 0, 1, 0, 1, 0, 0]), (1, [2]), (0, [1, 1, 1, 0, 1, 0, 0, 1, 0, 0, 1, 1]), (1, [1]), (0, [1, 1, 1, 0, 1, 0, 0, 1, 1]), (2, [1, 1, 1, 0, 1, 0, 0]), (1, [0]), (0, [1, 1, 1, 1])].map (toItem (Try.f39.body.getD .skip))) [(0, .pointer t), (3, .pointer (some ⟨seen, 0, none⟩)), (4, .int .u8 blocks), (5, .int .i64 b), (6, .int .i64 j), (7, .int .i64 n), (26, .bool t26)] w := by
  exact block_spec Try.func39 Try.mixed (stops_cons (fun σ w h => by
      obtain ⟨t_, e0, h⟩ := dP_elim h
      obtain ⟨seen_, e1, h⟩ := dK_elim h
      obtain ⟨blocks_, e2, h⟩ := dI_elim h
      obtain ⟨b_, e3, h⟩ := dI_elim h
      obtain ⟨j_, e4, h⟩ := dI_elim h
      obtain ⟨n_, e5, h⟩ := dI_elim h
      obtain ⟨e_, e6, h⟩ := dK_elim h
      obtain ⟨t63_, e7, h⟩ := dB_elim h
      exact (sock_Table_chainsFine.B3_sound hN1 hN2 t_ seen_ blocks_ b_ j_ n_ e_ t63_ w h).weaken (Sub.cons (Sub.cons (Sub.cons (Sub.cons (Sub.cons (Sub.cons (Sub.cons (Sub.cons (Sub.nil _) e7) e6) e5) e4) e3) e2) e1) e0)) (stops_cons (fun σ w h => by
      obtain ⟨t_, e0, h⟩ := dP_elim h
      obtain ⟨seen_, e1, h⟩ := dK_elim h
      obtain ⟨blocks_, e2, h⟩ := dI_elim h
      obtain ⟨b_, e3, h⟩ := dI_elim h
      exact (hN1 t_ seen_ blocks_ b_ w h).weaken (Sub.cons (Sub.cons (Sub.cons (Sub.cons (Sub.nil _) e3) e2) e1) e0)) stops_nil)) (Eq.mp (sock_Table_chainsFine.B1_eq t seen blocks b j n t26 w N1 N2  R (fun t_ seen_ blocks_ b_ j_ n_ e_ t63_ w => sock_Table_chainsFine.B3 t_ seen_ blocks_ b_ j_ n_ e_ t63_ w N1 N2 R)) h)
def sock_Table_chainsFine.L2b (t : Option Addr) (seen : Nat) (blocks b j n : Int) (w : World) (N1 : Option Addr → Nat → Int → Int → World → Prop) (N2 : Option Addr → Nat → Int → Int → Int → Int → World → Prop) (R : Bool → World → Prop) : Prop :=
  Bm (j != (-1 : Int)) (
    sock_Table_chainsFine.B1 t seen blocks b j n (decide (n < (6 : Int))) w N1 N2 R) (
    sock_Table_chainsFine.B1 t seen blocks b j n false w N1 N2 R)
theorem sock_Table_chainsFine.L2b_eq (t : Option Addr) (seen : Nat) (blocks b j n : Int) (w : World) (N1 : Option Addr → Nat → Int → Int → World → Prop) (N2 : Option Addr → Nat → Int → Int → Int → Int → World → Prop) (R : Bool → World → Prop) (sB1 : Option Addr → Nat → Int → Int → Int → Int → Bool → World → Prop) :
    (
  Bm (j != (-1 : Int)) (
    sB1 t seen blocks b j n (decide (n < (6 : Int))) w) (
    sB1 t seen blocks b j n false w)) = kstep Try.prog 126 Try.f39.results.toList (Try.f39.body.getD .skip) (sock_Table_chainsFine.RV R) (kvc Try.prog 126 Try.f39.results.toList (Try.f39.body.getD .skip) (sock_Table_chainsFine.RV R) [([(0, [1, 1, 1, 0, 1, 0, 0, 1, 0, 0, 1, 0, 1, 0, 0, 0, 1]), (0, [1, 1, 1, 0, 1, 0, 0, 1, 0, 0, 1, 0, 1, 0, 0, 1]), (2, [1, 1, 1, 0, 1, 0, 0, 1, 0, 0, 1, 0, 1, 0, 0]), (1, [2]), (0, [1, 1, 1, 0, 1, 0, 0, 1, 0, 0, 1, 1]), (1, [1]), (0, [1, 1, 1, 0, 1, 0, 0, 1, 1]), (2, [1, 1, 1, 0, 1, 0, 0]), (1, [0]), (0, [1, 1, 1, 1])], fun σ w => dP (slotOf σ 0) fun t_ => dK (slotOf σ 3) fun seen_ => dI .u8 (slotOf σ 4) fun blocks_ => dI .i64 (slotOf σ 5) fun b_ => dI .i64 (slotOf σ 6) fun j_ => dI .i64 (slotOf σ 7) fun n_ => dB (slotOf σ 26) fun t26_ => sB1 t_ seen_ blocks_ b_ j_ n_ t26_ w)] 2000) [(0, [1, 1, 1, 0, 1, 0, 0, 1, 0, 0, 1, 0, 1, 0, 0]), (2, [1, 1, 1, 0, 1, 0, 0, 1, 0, 0, 1, 0, 1, 0, 0]), (1, [2]), (0, [1, 1, 1, 0, 1, 0, 0, 1, 0, 0, 1, 1]), (1, [1]), (0, [1, 1, 1, 0, 1, 0, 0, 1, 1]), (2, [1, 1, 1, 0, 1, 0, 0]), (1, [0]), (0, [1, 1, 1, 1])] [(0, .pointer t), (3, .pointer (some ⟨seen, 0, none⟩)), (4, .int .u8 blocks), (5, .int .i64 b), (6, .int .i64 j), (7, .int .i64 n)] w := by kernel_rfl
theorem sock_Table_chainsFine.L2b_sound {R : Bool → World → Prop} {N1 : Option Addr → Nat → Int → Int → World → Prop} (hN1 : ∀ t seen blocks b w, N1 t seen blocks b w → KW Try.prog 39 126 (sock_Table_chainsFine.RV R) ([(0, [1, 1, 1, 0, 1, 0, 0]), (2, [1, 1, 1, 0, 1, 0, 0]), (1, [0]), (0, [1, 1, 1, 1])].map (toItem (Try.f39.body.getD .skip))) [(0, .pointer t), (3, .pointer (some ⟨seen, 0, none⟩)), (4, .int .u8 blocks), (5, .int .i64 b)] w) {N2 : Option Addr → Nat → Int → Int → Int → Int → World → Prop} (hN2 : ∀ t seen blocks b j n w, N2 t seen blocks b j n w → KW Try.prog 39 126 (sock_Table_chainsFine.RV R) ([(0, [1, 1, 1, 0, 1, 0, 0, 1, 0, 0, 1, 0, 1, 0, 0]), (2, [1, 1, 1, 0, 1, 0, 0, 1, 0, 0, 1, 0, 1, 0, 0]), (1, [2]), (0, [1, 1, 1, 0, 1, 0, 0, 1, 0, 0, 1, 1]), (1, [1]), (0, [1, 1, 1, 0, 1, 0, 0, 1, 1]), (2, [1, 1, 1, 0, 1, 0, 0]), (1, [0]), (0, [1, 1, 1, 1])].map (toItem (Try.f39.body.getD .skip))) [(0, .pointer t), (3, .pointer (some ⟨seen, 0, none⟩)), (4, .int .u8 blocks), (5, .int .i64 b), (6, .int .i64 j), (7, .int .i64 n)] w) (t : Option Addr) (seen : Nat) (blocks b j n : Int) (w : World) (h : sock_Table_chainsFine.L2b t seen blocks b j n w N1 N2 R) :
    KW Try.prog 39 126 (sock_Table_chainsFine.RV R) ([(0, [1, 1, 1, 0, 1, 0, 0, 1, 0, 0, 1, 0, 1, 0, 0]), (2, [1, 1, 1, 0, 1, 0, 0, 1, 0, 0, 1, 0, 1, 0, 0]), (1, [2]), (0, [1, 1, 1, 0, 1, 0, 0, 1, 0, 0, 1, 1]), (1, [1]), (0, [1, 1, 1, 0, 1, 0, 0, 1, 1]), (2, [1, 1, 1, 0, 1, 0, 0]), (1, [0]), (0, [1, 1, 1, 1])].map (toItem (Try.f39.body.getD .skip))) [(0, .pointer t), (3, .pointer (some ⟨seen, 0, none⟩)), (4, .int .u8 blocks), (5, .int .i64 b), (6, .int .i64 j), (7, .int .i64 n)] w := by
  exact block_spec Try.func39 Try.mixed (stops_cons (fun σ w h => by
      obtain ⟨t_, e0, h⟩ := dP_elim h
      obtain ⟨seen_, e1, h⟩ := dK_elim h
      obtain ⟨blocks_, e2, h⟩ := dI_elim h
      obtain ⟨b_, e3, h⟩ := dI_elim h
      obtain ⟨j_, e4, h⟩ := dI_elim h
      obtain ⟨n_, e5, h⟩ := dI_elim h
      obtain ⟨t26_, e6, h⟩ := dB_elim h
      exact (sock_Table_chainsFine.B1_sound hN1 hN2 t_ seen_ blocks_ b_ j_ n_ t26_ w h).weaken (Sub.cons (Sub.cons (Sub.cons (Sub.cons (Sub.cons (Sub.cons (Sub.cons (Sub.nil _) e6) e5) e4) e3) e2) e1) e0)) stops_nil) (Eq.mp (sock_Table_chainsFine.L2b_eq t seen blocks b j n w N1 N2 R (fun t_ seen_ blocks_ b_ j_ n_ t26_ w => sock_Table_chainsFine.B1 t_ seen_ blocks_ b_ j_ n_ t26_ w N1 N2 R)) h)
def sock_Table_chainsFine.L2 (t : Option Addr) (seen : Nat) (blocks b j n : Int) (w : World) (N1 : Option Addr → Nat → Int → Int → World → Prop) (R : Bool → World → Prop) : Prop :=
  ∃ (I : Nat → Option Addr → Nat → Int → Int → Int → Int → World → Prop) (m : Nat), I m t seen blocks b j n w ∧ ∀ m t seen blocks b j n w, I m t seen blocks b j n w → sock_Table_chainsFine.L2b t seen blocks b j n w N1 (fun t' seen' blocks' b' j' n' w' => ∃ m', m' < m ∧ I m' t' seen' blocks' b' j' n' w') R
theorem sock_Table_chainsFine.L2_sound {R : Bool → World → Prop} {N1 : Option Addr → Nat → Int → Int → World → Prop} (hN1 : ∀ t seen blocks b w, N1 t seen blocks b w → KW Try.prog 39 126 (sock_Table_chainsFine.RV R) ([(0, [1, 1, 1, 0, 1, 0, 0]), (2, [1, 1, 1, 0, 1, 0, 0]), (1, [0]), (0, [1, 1, 1, 1])].map (toItem (Try.f39.body.getD .skip))) [(0, .pointer t), (3, .pointer (some ⟨seen, 0, none⟩)), (4, .int .u8 blocks), (5, .int .i64 b)] w) (t : Option Addr) (seen : Nat) (blocks b j n : Int) (w : World) (h : sock_Table_chainsFine.L2 t seen blocks b j n w N1 R) :
    KW Try.prog 39 126 (sock_Table_chainsFine.RV R) ([(0, [1, 1, 1, 0, 1, 0, 0, 1, 0, 0, 1, 0, 1, 0, 0]), (2, [1, 1, 1, 0, 1, 0, 0, 1, 0, 0, 1, 0, 1, 0, 0]), (1, [2]), (0, [1, 1, 1, 0, 1, 0, 0, 1, 0, 0, 1, 1]), (1, [1]), (0, [1, 1, 1, 0, 1, 0, 0, 1, 1]), (2, [1, 1, 1, 0, 1, 0, 0]), (1, [0]), (0, [1, 1, 1, 1])].map (toItem (Try.f39.body.getD .skip))) [(0, .pointer t), (3, .pointer (some ⟨seen, 0, none⟩)), (4, .int .u8 blocks), (5, .int .i64 b), (6, .int .i64 j), (7, .int .i64 n)] w := by
  obtain ⟨I, m, hBase, hr⟩ := h
  refine KW.loop (fun m σ w => ∃ (t : Option Addr) (seen : Nat) (blocks b j n : Int), σ = [(0, .pointer t), (3, .pointer (some ⟨seen, 0, none⟩)), (4, .int .u8 blocks), (5, .int .i64 b), (6, .int .i64 j), (7, .int .i64 n)] ∧ I m t seen blocks b j n w) ?_ m _ w ⟨t, seen, blocks, b, j, n, rfl, hBase⟩
  rintro m ih σ w ⟨t, seen, blocks, b, j, n, rfl, hI⟩
  exact sock_Table_chainsFine.L2b_sound hN1 (N2 := fun t' seen' blocks' b' j' n' w' => ∃ m', m' < m ∧ I m' t' seen' blocks' b' j' n' w') (fun t' seen' blocks' b' j' n' w' hx => by obtain ⟨m', hlt, hI'⟩ := hx; exact ih m' hlt _ w' ⟨t', seen', blocks', b', j', n', rfl, hI'⟩) t seen blocks b j n w (hr m t seen blocks b j n w hI)
def sock_Table_chainsFine.B2 (t : Option Addr) (seen : Nat) (blocks i : Int) (t119 : Bool) (w : World) (N3 : Option Addr → Nat → Int → Int → World → Prop)  (R : Bool → World → Prop) : Prop :=
  Bm t119 (
    R false w) (
    N3 t seen blocks (IntKind.i64.wrap (i + (1 : Int))) w)
theorem sock_Table_chainsFine.B2_eq (t : Option Addr) (seen : Nat) (blocks i : Int) (t119 : Bool) (w : World) (N3 : Option Addr → Nat → Int → Int → World → Prop)  (R : Bool → World → Prop)  :
    (
  Bm t119 (
    R false w) (
    N3 t seen blocks (IntKind.i64.wrap (i + (1 : Int))) w)) = kstep Try.prog 126 Try.f39.results.toList (Try.f39.body.getD .skip) (sock_Table_chainsFine.RV R) (kvc Try.prog 126 Try.f39.results.toList (Try.f39.body.getD .skip) (sock_Table_chainsFine.RV R) [([(0, [1, 1, 1, 1, 0, 1, 0, 0]), (2, [1, 1, 1, 1, 0, 1, 0, 0]), (1, [4]), (0, [1, 1, 1, 1, 1])], fun σ w => dP (slotOf σ 0) fun t_ => dK (slotOf σ 3) fun seen_ => dI .u8 (slotOf σ 4) fun blocks_ => dI .i64 (slotOf σ 10) fun i_ => N3 t_ seen_ blocks_ i_ w)] 2000) [(0, [1, 1, 1, 1, 0, 1, 0, 0, 1, 0, 0, 1]), (1, [5]), (0, [1, 1, 1, 1, 0, 1, 0, 0, 1, 1]), (2, [1, 1, 1, 1, 0, 1, 0, 0]), (1, [4]), (0, [1, 1, 1, 1, 1])] [(0, .pointer t), (3, .pointer (some ⟨seen, 0, none⟩)), (4, .int .u8 blocks), (10, .int .i64 i), (119, .bool t119)] w := by kernel_rfl
theorem sock_Table_chainsFine.B2_sound {R : Bool → World → Prop} {N3 : Option Addr → Nat → Int → Int → World → Prop} (hN3 : ∀ t seen blocks i w, N3 t seen blocks i w → KW Try.prog 39 126 (sock_Table_chainsFine.RV R) ([(0, [1, 1, 1, 1, 0, 1, 0, 0]), (2, [1, 1, 1, 1, 0, 1, 0, 0]), (1, [4]), (0, [1, 1, 1, 1, 1])].map (toItem (Try.f39.body.getD .skip))) [(0, .pointer t), (3, .pointer (some ⟨seen, 0, none⟩)), (4, .int .u8 blocks), (10, .int .i64 i)] w) (t : Option Addr) (seen : Nat) (blocks i : Int) (t119 : Bool) (w : World) (h : sock_Table_chainsFine.B2 t seen blocks i t119 w N3  R) :
    KW Try.prog 39 126 (sock_Table_chainsFine.RV R) ([(0, [1, 1, 1, 1, 0, 1, 0, 0, 1, 0, 0, 1]), (1, [5]), (0, [1, 1, 1, 1, 0, 1, 0, 0, 1, 1]), (2, [1, 1, 1, 1, 0, 1, 0, 0]), (1, [4]), (0, [1, 1, 1, 1, 1])].map (toItem (Try.f39.body.getD .skip))) [(0, .pointer t), (3, .pointer (some ⟨seen, 0, none⟩)), (4, .int .u8 blocks), (10, .int .i64 i), (119, .bool t119)] w := by
  exact block_spec Try.func39 Try.mixed (stops_cons (fun σ w h => by
      obtain ⟨t_, e0, h⟩ := dP_elim h
      obtain ⟨seen_, e1, h⟩ := dK_elim h
      obtain ⟨blocks_, e2, h⟩ := dI_elim h
      obtain ⟨i_, e3, h⟩ := dI_elim h
      exact (hN3 t_ seen_ blocks_ i_ w h).weaken (Sub.cons (Sub.cons (Sub.cons (Sub.cons (Sub.nil _) e3) e2) e1) e0)) stops_nil) (Eq.mp (sock_Table_chainsFine.B2_eq t seen blocks i t119 w N3  R ) h)
def sock_Table_chainsFine.L3b (t : Option Addr) (seen : Nat) (blocks i : Int) (w : World)  (N3 : Option Addr → Nat → Int → Int → World → Prop) (R : Bool → World → Prop) : Prop :=
  Bm (decide (i < (6 : Int))) (
    (0 ≤ i ∧ i < ((6 : Nat) : Int)) ∧
    LdB (Addr.add ⟨seen, 0, none⟩ (i.toNat * 1)) w.drew fun x100 =>
    Pn t fun a =>
    (0 ≤ i ∧ i < ((6 : Nat) : Int)) ∧
    LdB (Addr.add a (i.toNat * 15)) w.drew fun x107 =>
    Bm x107 (
      Pn t fun a_1 =>
      (0 ≤ i ∧ i < ((6 : Nat) : Int)) ∧
      LdI .i64 (((Addr.add a_1 (i.toNat * 15)).add 1).add 1) w.drew fun x116 =>
      sock_Table_chainsFine.B2 t seen blocks i (!(x100 == (x116 == (2 : Int)))) w.drew N3 R) (
      sock_Table_chainsFine.B2 t seen blocks i (!(x100 == false)) w.drew N3 R)) (
    Pn t fun a_2 =>
    LdI .u8 (a_2.add 103) w fun x124 =>
    R (blocks == x124) w)
theorem sock_Table_chainsFine.L3b_eq (t : Option Addr) (seen : Nat) (blocks i : Int) (w : World)  (N3 : Option Addr → Nat → Int → Int → World → Prop) (R : Bool → World → Prop) (sB2 : Option Addr → Nat → Int → Int → Bool → World → Prop) :
    (
  Bm (decide (i < (6 : Int))) (
    (0 ≤ i ∧ i < ((6 : Nat) : Int)) ∧
    LdB (Addr.add ⟨seen, 0, none⟩ (i.toNat * 1)) w.drew fun x100 =>
    Pn t fun a =>
    (0 ≤ i ∧ i < ((6 : Nat) : Int)) ∧
    LdB (Addr.add a (i.toNat * 15)) w.drew fun x107 =>
    Bm x107 (
      Pn t fun a_1 =>
      (0 ≤ i ∧ i < ((6 : Nat) : Int)) ∧
      LdI .i64 (((Addr.add a_1 (i.toNat * 15)).add 1).add 1) w.drew fun x116 =>
      sB2 t seen blocks i (!(x100 == (x116 == (2 : Int)))) w.drew) (
      sB2 t seen blocks i (!(x100 == false)) w.drew)) (
    Pn t fun a_2 =>
    LdI .u8 (a_2.add 103) w fun x124 =>
    R (blocks == x124) w)) = kstep Try.prog 126 Try.f39.results.toList (Try.f39.body.getD .skip) (sock_Table_chainsFine.RV R) (kvc Try.prog 126 Try.f39.results.toList (Try.f39.body.getD .skip) (sock_Table_chainsFine.RV R) [([(0, [1, 1, 1, 1, 0, 1, 0, 0, 1, 0, 0, 1]), (1, [5]), (0, [1, 1, 1, 1, 0, 1, 0, 0, 1, 1]), (2, [1, 1, 1, 1, 0, 1, 0, 0]), (1, [4]), (0, [1, 1, 1, 1, 1])], fun σ w => dP (slotOf σ 0) fun t_ => dK (slotOf σ 3) fun seen_ => dI .u8 (slotOf σ 4) fun blocks_ => dI .i64 (slotOf σ 10) fun i_ => dB (slotOf σ 119) fun t119_ => sB2 t_ seen_ blocks_ i_ t119_ w)] 2000) [(0, [1, 1, 1, 1, 0, 1, 0, 0]), (2, [1, 1, 1, 1, 0, 1, 0, 0]), (1, [4]), (0, [1, 1, 1, 1, 1])] [(0, .pointer t), (3, .pointer (some ⟨seen, 0, none⟩)), (4, .int .u8 blocks), (10, .int .i64 i)] w := by kernel_rfl
theorem sock_Table_chainsFine.L3b_sound {R : Bool → World → Prop} {N3 : Option Addr → Nat → Int → Int → World → Prop} (hN3 : ∀ t seen blocks i w, N3 t seen blocks i w → KW Try.prog 39 126 (sock_Table_chainsFine.RV R) ([(0, [1, 1, 1, 1, 0, 1, 0, 0]), (2, [1, 1, 1, 1, 0, 1, 0, 0]), (1, [4]), (0, [1, 1, 1, 1, 1])].map (toItem (Try.f39.body.getD .skip))) [(0, .pointer t), (3, .pointer (some ⟨seen, 0, none⟩)), (4, .int .u8 blocks), (10, .int .i64 i)] w) (t : Option Addr) (seen : Nat) (blocks i : Int) (w : World) (h : sock_Table_chainsFine.L3b t seen blocks i w  N3 R) :
    KW Try.prog 39 126 (sock_Table_chainsFine.RV R) ([(0, [1, 1, 1, 1, 0, 1, 0, 0]), (2, [1, 1, 1, 1, 0, 1, 0, 0]), (1, [4]), (0, [1, 1, 1, 1, 1])].map (toItem (Try.f39.body.getD .skip))) [(0, .pointer t), (3, .pointer (some ⟨seen, 0, none⟩)), (4, .int .u8 blocks), (10, .int .i64 i)] w := by
  exact block_spec Try.func39 Try.mixed (stops_cons (fun σ w h => by
      obtain ⟨t_, e0, h⟩ := dP_elim h
      obtain ⟨seen_, e1, h⟩ := dK_elim h
      obtain ⟨blocks_, e2, h⟩ := dI_elim h
      obtain ⟨i_, e3, h⟩ := dI_elim h
      obtain ⟨t119_, e4, h⟩ := dB_elim h
      exact (sock_Table_chainsFine.B2_sound hN3 t_ seen_ blocks_ i_ t119_ w h).weaken (Sub.cons (Sub.cons (Sub.cons (Sub.cons (Sub.cons (Sub.nil _) e4) e3) e2) e1) e0)) stops_nil) (Eq.mp (sock_Table_chainsFine.L3b_eq t seen blocks i w  N3 R (fun t_ seen_ blocks_ i_ t119_ w => sock_Table_chainsFine.B2 t_ seen_ blocks_ i_ t119_ w N3 R)) h)
def sock_Table_chainsFine.L3 (t : Option Addr) (seen : Nat) (blocks i : Int) (w : World)  (R : Bool → World → Prop) : Prop :=
  ∃ (I : Nat → Option Addr → Nat → Int → Int → World → Prop) (m : Nat), I m t seen blocks i w ∧ ∀ m t seen blocks i w, I m t seen blocks i w → sock_Table_chainsFine.L3b t seen blocks i w  (fun t' seen' blocks' i' w' => ∃ m', m' < m ∧ I m' t' seen' blocks' i' w') R
theorem sock_Table_chainsFine.L3_sound {R : Bool → World → Prop}  (t : Option Addr) (seen : Nat) (blocks i : Int) (w : World) (h : sock_Table_chainsFine.L3 t seen blocks i w  R) :
    KW Try.prog 39 126 (sock_Table_chainsFine.RV R) ([(0, [1, 1, 1, 1, 0, 1, 0, 0]), (2, [1, 1, 1, 1, 0, 1, 0, 0]), (1, [4]), (0, [1, 1, 1, 1, 1])].map (toItem (Try.f39.body.getD .skip))) [(0, .pointer t), (3, .pointer (some ⟨seen, 0, none⟩)), (4, .int .u8 blocks), (10, .int .i64 i)] w := by
  obtain ⟨I, m, hBase, hr⟩ := h
  refine KW.loop (fun m σ w => ∃ (t : Option Addr) (seen : Nat) (blocks i : Int), σ = [(0, .pointer t), (3, .pointer (some ⟨seen, 0, none⟩)), (4, .int .u8 blocks), (10, .int .i64 i)] ∧ I m t seen blocks i w) ?_ m _ w ⟨t, seen, blocks, i, rfl, hBase⟩
  rintro m ih σ w ⟨t, seen, blocks, i, rfl, hI⟩
  exact sock_Table_chainsFine.L3b_sound  (N3 := fun t' seen' blocks' i' w' => ∃ m', m' < m ∧ I m' t' seen' blocks' i' w') (fun t' seen' blocks' i' w' hx => by obtain ⟨m', hlt, hI'⟩ := hx; exact ih m' hlt _ w' ⟨t', seen', blocks', i', rfl, hI'⟩) t seen blocks i w (hr m t seen blocks i w hI)
def sock_Table_chainsFine.L1b (t : Option Addr) (seen : Nat) (blocks b : Int) (w : World)  (N1 : Option Addr → Nat → Int → Int → World → Prop) (R : Bool → World → Prop) : Prop :=
  Bm (decide (b < (4 : Int))) (
    Pn t fun a =>
    (0 ≤ b ∧ b < ((4 : Nat) : Int)) ∧
    LdI .i64 (Addr.add (a.add 91) (b.toNat * 1)) w fun x20 =>
    sock_Table_chainsFine.L2 t seen blocks b x20 (0 : Int) w N1 R) (
    sock_Table_chainsFine.L3 t seen blocks (0 : Int) w  R)
theorem sock_Table_chainsFine.L1b_eq (t : Option Addr) (seen : Nat) (blocks b : Int) (w : World)  (N1 : Option Addr → Nat → Int → Int → World → Prop) (R : Bool → World → Prop) (sL2 : Option Addr → Nat → Int → Int → Int → Int → World → Prop) (sL3 : Option Addr → Nat → Int → Int → World → Prop) :
    (
  Bm (decide (b < (4 : Int))) (
    Pn t fun a =>
    (0 ≤ b ∧ b < ((4 : Nat) : Int)) ∧
    LdI .i64 (Addr.add (a.add 91) (b.toNat * 1)) w fun x20 =>
    sL2 t seen blocks b x20 (0 : Int) w) (
    sL3 t seen blocks (0 : Int) w)) = kstep Try.prog 126 Try.f39.results.toList (Try.f39.body.getD .skip) (sock_Table_chainsFine.RV R) (kvc Try.prog 126 Try.f39.results.toList (Try.f39.body.getD .skip) (sock_Table_chainsFine.RV R) [([(0, [1, 1, 1, 0, 1, 0, 0, 1, 0, 0, 1, 0, 1, 0, 0]), (2, [1, 1, 1, 0, 1, 0, 0, 1, 0, 0, 1, 0, 1, 0, 0]), (1, [2]), (0, [1, 1, 1, 0, 1, 0, 0, 1, 0, 0, 1, 1]), (1, [1]), (0, [1, 1, 1, 0, 1, 0, 0, 1, 1]), (2, [1, 1, 1, 0, 1, 0, 0]), (1, [0]), (0, [1, 1, 1, 1])], fun σ w => dP (slotOf σ 0) fun t_ => dK (slotOf σ 3) fun seen_ => dI .u8 (slotOf σ 4) fun blocks_ => dI .i64 (slotOf σ 5) fun b_ => dI .i64 (slotOf σ 6) fun j_ => dI .i64 (slotOf σ 7) fun n_ => sL2 t_ seen_ blocks_ b_ j_ n_ w),
    ([(0, [1, 1, 1, 1, 0, 1, 0, 0]), (2, [1, 1, 1, 1, 0, 1, 0, 0]), (1, [4]), (0, [1, 1, 1, 1, 1])], fun σ w => dP (slotOf σ 0) fun t_ => dK (slotOf σ 3) fun seen_ => dI .u8 (slotOf σ 4) fun blocks_ => dI .i64 (slotOf σ 10) fun i_ => sL3 t_ seen_ blocks_ i_ w)] 2000) [(0, [1, 1, 1, 0, 1, 0, 0]), (2, [1, 1, 1, 0, 1, 0, 0]), (1, [0]), (0, [1, 1, 1, 1])] [(0, .pointer t), (3, .pointer (some ⟨seen, 0, none⟩)), (4, .int .u8 blocks), (5, .int .i64 b)] w := by kernel_rfl
theorem sock_Table_chainsFine.L1b_sound {R : Bool → World → Prop} {N1 : Option Addr → Nat → Int → Int → World → Prop} (hN1 : ∀ t seen blocks b w, N1 t seen blocks b w → KW Try.prog 39 126 (sock_Table_chainsFine.RV R) ([(0, [1, 1, 1, 0, 1, 0, 0]), (2, [1, 1, 1, 0, 1, 0, 0]), (1, [0]), (0, [1, 1, 1, 1])].map (toItem (Try.f39.body.getD .skip))) [(0, .pointer t), (3, .pointer (some ⟨seen, 0, none⟩)), (4, .int .u8 blocks), (5, .int .i64 b)] w) (t : Option Addr) (seen : Nat) (blocks b : Int) (w : World) (h : sock_Table_chainsFine.L1b t seen blocks b w  N1 R) :
    KW Try.prog 39 126 (sock_Table_chainsFine.RV R) ([(0, [1, 1, 1, 0, 1, 0, 0]), (2, [1, 1, 1, 0, 1, 0, 0]), (1, [0]), (0, [1, 1, 1, 1])].map (toItem (Try.f39.body.getD .skip))) [(0, .pointer t), (3, .pointer (some ⟨seen, 0, none⟩)), (4, .int .u8 blocks), (5, .int .i64 b)] w := by
  exact block_spec Try.func39 Try.mixed (stops_cons (fun σ w h => by
      obtain ⟨t_, e0, h⟩ := dP_elim h
      obtain ⟨seen_, e1, h⟩ := dK_elim h
      obtain ⟨blocks_, e2, h⟩ := dI_elim h
      obtain ⟨b_, e3, h⟩ := dI_elim h
      obtain ⟨j_, e4, h⟩ := dI_elim h
      obtain ⟨n_, e5, h⟩ := dI_elim h
      exact (sock_Table_chainsFine.L2_sound hN1 t_ seen_ blocks_ b_ j_ n_ w h).weaken (Sub.cons (Sub.cons (Sub.cons (Sub.cons (Sub.cons (Sub.cons (Sub.nil _) e5) e4) e3) e2) e1) e0)) (stops_cons (fun σ w h => by
      obtain ⟨t_, e0, h⟩ := dP_elim h
      obtain ⟨seen_, e1, h⟩ := dK_elim h
      obtain ⟨blocks_, e2, h⟩ := dI_elim h
      obtain ⟨i_, e3, h⟩ := dI_elim h
      exact (sock_Table_chainsFine.L3_sound  t_ seen_ blocks_ i_ w h).weaken (Sub.cons (Sub.cons (Sub.cons (Sub.cons (Sub.nil _) e3) e2) e1) e0)) stops_nil)) (Eq.mp (sock_Table_chainsFine.L1b_eq t seen blocks b w  N1 R (fun t_ seen_ blocks_ b_ j_ n_ w => sock_Table_chainsFine.L2 t_ seen_ blocks_ b_ j_ n_ w N1 R) (fun t_ seen_ blocks_ i_ w => sock_Table_chainsFine.L3 t_ seen_ blocks_ i_ w  R)) h)
def sock_Table_chainsFine.L1 (t : Option Addr) (seen : Nat) (blocks b : Int) (w : World)  (R : Bool → World → Prop) : Prop :=
  ∃ (I : Nat → Option Addr → Nat → Int → Int → World → Prop) (m : Nat), I m t seen blocks b w ∧ ∀ m t seen blocks b w, I m t seen blocks b w → sock_Table_chainsFine.L1b t seen blocks b w  (fun t' seen' blocks' b' w' => ∃ m', m' < m ∧ I m' t' seen' blocks' b' w') R
theorem sock_Table_chainsFine.L1_sound {R : Bool → World → Prop}  (t : Option Addr) (seen : Nat) (blocks b : Int) (w : World) (h : sock_Table_chainsFine.L1 t seen blocks b w  R) :
    KW Try.prog 39 126 (sock_Table_chainsFine.RV R) ([(0, [1, 1, 1, 0, 1, 0, 0]), (2, [1, 1, 1, 0, 1, 0, 0]), (1, [0]), (0, [1, 1, 1, 1])].map (toItem (Try.f39.body.getD .skip))) [(0, .pointer t), (3, .pointer (some ⟨seen, 0, none⟩)), (4, .int .u8 blocks), (5, .int .i64 b)] w := by
  obtain ⟨I, m, hBase, hr⟩ := h
  refine KW.loop (fun m σ w => ∃ (t : Option Addr) (seen : Nat) (blocks b : Int), σ = [(0, .pointer t), (3, .pointer (some ⟨seen, 0, none⟩)), (4, .int .u8 blocks), (5, .int .i64 b)] ∧ I m t seen blocks b w) ?_ m _ w ⟨t, seen, blocks, b, rfl, hBase⟩
  rintro m ih σ w ⟨t, seen, blocks, b, rfl, hI⟩
  exact sock_Table_chainsFine.L1b_sound  (N1 := fun t' seen' blocks' b' w' => ∃ m', m' < m ∧ I m' t' seen' blocks' b' w') (fun t' seen' blocks' b' w' hx => by obtain ⟨m', hlt, hI'⟩ := hx; exact ih m' hlt _ w' ⟨t', seen', blocks', b', rfl, hI'⟩) t seen blocks b w (hr m t seen blocks b w hI)
def sock_Table_chainsFine.B0 (t : Option Addr) (w : World)   (R : Bool → World → Prop) : Prop :=
  New (.cells #[.bool false, .bool false, .bool false, .bool false, .bool false, .bool false] 77) w fun seen_ w1 =>
  sock_Table_chainsFine.L1 t seen_ (0 : Int) (0 : Int) w1  R
theorem sock_Table_chainsFine.B0_eq (t : Option Addr) (w : World)   (R : Bool → World → Prop) (sL1 : Option Addr → Nat → Int → Int → World → Prop) :
    (
  New (.cells #[.bool false, .bool false, .bool false, .bool false, .bool false, .bool false] 77) w fun seen_ w1 =>
  sL1 t seen_ (0 : Int) (0 : Int) w1) = kstep Try.prog 126 Try.f39.results.toList (Try.f39.body.getD .skip) (sock_Table_chainsFine.RV R) (kvc Try.prog 126 Try.f39.results.toList (Try.f39.body.getD .skip) (sock_Table_chainsFine.RV R) [([(0, [1, 1, 1, 0, 1, 0, 0]), (2, [1, 1, 1, 0, 1, 0, 0]), (1, [0]), (0, [1, 1, 1, 1])], fun σ w => dP (slotOf σ 0) fun t_ => dK (slotOf σ 3) fun seen_ => dI .u8 (slotOf σ 4) fun blocks_ => dI .i64 (slotOf σ 5) fun b_ => sL1 t_ seen_ blocks_ b_ w)] 2000) [(0, [])] [(0, .pointer t)] w := by kernel_rfl
theorem sock_Table_chainsFine.B0_sound {R : Bool → World → Prop}  (t : Option Addr) (w : World) (h : sock_Table_chainsFine.B0 t w   R) :
    KW Try.prog 39 126 (sock_Table_chainsFine.RV R) ([(0, [])].map (toItem (Try.f39.body.getD .skip))) [(0, .pointer t)] w := by
  exact block_spec Try.func39 Try.mixed (stops_cons (fun σ w h => by
      obtain ⟨t_, e0, h⟩ := dP_elim h
      obtain ⟨seen_, e1, h⟩ := dK_elim h
      obtain ⟨blocks_, e2, h⟩ := dI_elim h
      obtain ⟨b_, e3, h⟩ := dI_elim h
      exact (sock_Table_chainsFine.L1_sound  t_ seen_ blocks_ b_ w h).weaken (Sub.cons (Sub.cons (Sub.cons (Sub.cons (Sub.nil _) e3) e2) e1) e0)) stops_nil) (Eq.mp (sock_Table_chainsFine.B0_eq t w   R (fun t_ seen_ blocks_ b_ w => sock_Table_chainsFine.L1 t_ seen_ blocks_ b_ w  R)) h)
theorem sock_Table_chainsFine.sound (t : Option Addr) (w : World) (R : Bool → World → Prop) (h : sock_Table_chainsFine.B0 t w R) : sock_Table_chainsFine.Call t w R := by
  have hc := calls_of_block (args := #[.pointer t]) Try.func39 (body := (Try.f39.body.getD .skip)) (by kernel_rfl) (by kernel_rfl) (args_slot _) (sock_Table_chainsFine.B0_sound t w h)
  exact hc.mono fun e w' he => by
    obtain ⟨v, rfl, hv⟩ := he
    exact sock_Table_chainsFine.RV_elim hv
def sock_Table_portsFine.B1 (t : Option Addr) (n p : Int) (t54 : Bool) (w : World) (N1 : Option Addr → Int → Int → World → Prop)  (R : Bool → World → Prop) : Prop :=
  Bm t54 (
    R false w) (
    N1 t (IntKind.i64.wrap (n + (1 : Int))) (IntKind.i64.wrap (p + (1 : Int))) w)
theorem sock_Table_portsFine.B1_eq (t : Option Addr) (n p : Int) (t54 : Bool) (w : World) (N1 : Option Addr → Int → Int → World → Prop)  (R : Bool → World → Prop)  :
    (
  Bm t54 (
    R false w) (
    N1 t (IntKind.i64.wrap (n + (1 : Int))) (IntKind.i64.wrap (p + (1 : Int))) w)) = kstep Try.prog 96 Try.f40.results.toList (Try.f40.body.getD .skip) (sock_Table_portsFine.RV R) (kvc Try.prog 96 Try.f40.results.toList (Try.f40.body.getD .skip) (sock_Table_portsFine.RV R) [([(0, [1, 1, 0, 1, 0, 0]), (2, [1, 1, 0, 1, 0, 0]), (1, [0]), (0, [1, 1, 1])], fun σ w => dP (slotOf σ 0) fun t_ => dI .i64 (slotOf σ 3) fun n_ => dI .i64 (slotOf σ 4) fun p_ => N1 t_ n_ p_ w)] 2000) [(0, [1, 1, 0, 1, 0, 0, 1, 0, 0, 1, 1, 0, 0, 1]), (0, [1, 1, 0, 1, 0, 0, 1, 0, 0, 1, 1, 0, 1]), (1, [1]), (0, [1, 1, 0, 1, 0, 0, 1, 1]), (2, [1, 1, 0, 1, 0, 0]), (1, [0]), (0, [1, 1, 1])] [(0, .pointer t), (3, .int .i64 n), (4, .int .i64 p), (54, .bool t54)] w := by kernel_rfl
theorem sock_Table_portsFine.B1_sound {R : Bool → World → Prop} {N1 : Option Addr → Int → Int → World → Prop} (hN1 : ∀ t n p w, N1 t n p w → KW Try.prog 40 96 (sock_Table_portsFine.RV R) ([(0, [1, 1, 0, 1, 0, 0]), (2, [1, 1, 0, 1, 0, 0]), (1, [0]), (0, [1, 1, 1])].map (toItem (Try.f40.body.getD .skip))) [(0, .pointer t), (3, .int .i64 n), (4, .int .i64 p)] w) (t : Option Addr) (n p : Int) (t54 : Bool) (w : World) (h : sock_Table_portsFine.B1 t n p t54 w N1  R) :
    KW Try.prog 40 96 (sock_Table_portsFine.RV R) ([(0, [1, 1, 0, 1, 0, 0, 1, 0, 0, 1, 1, 0, 0, 1]), (0, [1, 1, 0, 1, 0, 0, 1, 0, 0, 1, 1, 0, 1]), (1, [1]), (0, [1, 1, 0, 1, 0, 0, 1, 1]), (2, [1, 1, 0, 1, 0, 0]), (1, [0]), (0, [1, 1, 1])].map (toItem (Try.f40.body.getD .skip))) [(0, .pointer t), (3, .int .i64 n), (4, .int .i64 p), (54, .bool t54)] w := by
  exact block_spec Try.func40 Try.mixed (stops_cons (fun σ w h => by
      obtain ⟨t_, e0, h⟩ := dP_elim h
      obtain ⟨n_, e1, h⟩ := dI_elim h
      obtain ⟨p_, e2, h⟩ := dI_elim h
      exact (hN1 t_ n_ p_ w h).weaken (Sub.cons (Sub.cons (Sub.cons (Sub.nil _) e2) e1) e0)) stops_nil) (Eq.mp (sock_Table_portsFine.B1_eq t n p t54 w N1  R ) h)
def sock_Table_portsFine.B3 (t : Option Addr) (n all i : Int) (w : World) (N2 : Option Addr → Int → Int → Int → World → Prop)  (R : Bool → World → Prop) : Prop :=
  N2 t n all (IntKind.i64.wrap (i + (1 : Int))) w
theorem sock_Table_portsFine.B3_eq (t : Option Addr) (n all i : Int) (w : World) (N2 : Option Addr → Int → Int → Int → World → Prop)  (R : Bool → World → Prop)  :
    (
  N2 t n all (IntKind.i64.wrap (i + (1 : Int))) w) = kstep Try.prog 96 Try.f40.results.toList (Try.f40.body.getD .skip) (sock_Table_portsFine.RV R) (kvc Try.prog 96 Try.f40.results.toList (Try.f40.body.getD .skip) (sock_Table_portsFine.RV R) [([(0, [1, 1, 1, 1, 0, 1, 0, 0]), (2, [1, 1, 1, 1, 0, 1, 0, 0]), (1, [2]), (0, [1, 1, 1, 1, 1])], fun σ w => dP (slotOf σ 0) fun t_ => dI .i64 (slotOf σ 3) fun n_ => dI .i64 (slotOf σ 6) fun all_ => dI .i64 (slotOf σ 7) fun i_ => N2 t_ n_ all_ i_ w)] 2000) [(0, [1, 1, 1, 1, 0, 1, 0, 0, 1, 1]), (2, [1, 1, 1, 1, 0, 1, 0, 0]), (1, [2]), (0, [1, 1, 1, 1, 1])] [(0, .pointer t), (3, .int .i64 n), (6, .int .i64 all), (7, .int .i64 i)] w := by kernel_rfl
theorem sock_Table_portsFine.B3_sound {R : Bool → World → Prop} {N2 : Option Addr → Int → Int → Int → World → Prop} (hN2 : ∀ t n all i w, N2 t n all i w → KW Try.prog 40 96 (sock_Table_portsFine.RV R) ([(0, [1, 1, 1, 1, 0, 1, 0, 0]), (2, [1, 1, 1, 1, 0, 1, 0, 0]), (1, [2]), (0, [1, 1, 1, 1, 1])].map (toItem (Try.f40.body.getD .skip))) [(0, .pointer t), (3, .int .i64 n), (6, .int .i64 all), (7, .int .i64 i)] w) (t : Option Addr) (n all i : Int) (w : World) (h : sock_Table_portsFine.B3 t n all i w N2  R) :
    KW Try.prog 40 96 (sock_Table_portsFine.RV R) ([(0, [1, 1, 1, 1, 0, 1, 0, 0, 1, 1]), (2, [1, 1, 1, 1, 0, 1, 0, 0]), (1, [2]), (0, [1, 1, 1, 1, 1])].map (toItem (Try.f40.body.getD .skip))) [(0, .pointer t), (3, .int .i64 n), (6, .int .i64 all), (7, .int .i64 i)] w := by
  exact block_spec Try.func40 Try.mixed (stops_cons (fun σ w h => by
      obtain ⟨t_, e0, h⟩ := dP_elim h
      obtain ⟨n_, e1, h⟩ := dI_elim h
      obtain ⟨all_, e2, h⟩ := dI_elim h
      obtain ⟨i_, e3, h⟩ := dI_elim h
      exact (hN2 t_ n_ all_ i_ w h).weaken (Sub.cons (Sub.cons (Sub.cons (Sub.cons (Sub.nil _) e3) e2) e1) e0)) stops_nil) (Eq.mp (sock_Table_portsFine.B3_eq t n all i w N2  R ) h)
def sock_Table_portsFine.B2 (t : Option Addr) (n all i : Int) (t78 : Bool) (w : World) (N2 : Option Addr → Int → Int → Int → World → Prop)  (R : Bool → World → Prop) : Prop :=
  Bm t78 (
    sock_Table_portsFine.B3 t n (IntKind.i64.wrap (all + (1 : Int))) i w N2 R) (
    sock_Table_portsFine.B3 t n all i w N2 R)
theorem sock_Table_portsFine.B2_eq (t : Option Addr) (n all i : Int) (t78 : Bool) (w : World) (N2 : Option Addr → Int → Int → Int → World → Prop)  (R : Bool → World → Prop) (sB3 : Option Addr → Int → Int → Int → World → Prop) :
    (
  Bm t78 (
    sB3 t n (IntKind.i64.wrap (all + (1 : Int))) i w) (
    sB3 t n all i w)) = kstep Try.prog 96 Try.f40.results.toList (Try.f40.body.getD .skip) (sock_Table_portsFine.RV R) (kvc Try.prog 96 Try.f40.results.toList (Try.f40.body.getD .skip) (sock_Table_portsFine.RV R) [([(0, [1, 1, 1, 1, 0, 1, 0, 0, 1, 1]), (2, [1, 1, 1, 1, 0, 1, 0, 0]), (1, [2]), (0, [1, 1, 1, 1, 1])], fun σ w => dP (slotOf σ 0) fun t_ => dI .i64 (slotOf σ 3) fun n_ => dI .i64 (slotOf σ 6) fun all_ => dI .i64 (slotOf σ 7) fun i_ => sB3 t_ n_ all_ i_ w)] 2000) [(0, [1, 1, 1, 1, 0, 1, 0, 0, 1, 0, 0, 1]), (1, [3]), (0, [1, 1, 1, 1, 0, 1, 0, 0, 1, 1]), (2, [1, 1, 1, 1, 0, 1, 0, 0]), (1, [2]), (0, [1, 1, 1, 1, 1])] [(0, .pointer t), (3, .int .i64 n), (6, .int .i64 all), (7, .int .i64 i), (78, .bool t78)] w := by kernel_rfl
theorem sock_Table_portsFine.B2_sound {R : Bool → World → Prop} {N2 : Option Addr → Int → Int → Int → World → Prop} (hN2 : ∀ t n all i w, N2 t n all i w → KW Try.prog 40 96 (sock_Table_portsFine.RV R) ([(0, [1, 1, 1, 1, 0, 1, 0, 0]), (2, [1, 1, 1, 1, 0, 1, 0, 0]), (1, [2]), (0, [1, 1, 1, 1, 1])].map (toItem (Try.f40.body.getD .skip))) [(0, .pointer t), (3, .int .i64 n), (6, .int .i64 all), (7, .int .i64 i)] w) (t : Option Addr) (n all i : Int) (t78 : Bool) (w : World) (h : sock_Table_portsFine.B2 t n all i t78 w N2  R) :
    KW Try.prog 40 96 (sock_Table_portsFine.RV R) ([(0, [1, 1, 1, 1, 0, 1, 0, 0, 1, 0, 0, 1]), (1, [3]), (0, [1, 1, 1, 1, 0, 1, 0, 0, 1, 1]), (2, [1, 1, 1, 1, 0, 1, 0, 0]), (1, [2]), (0, [1, 1, 1, 1, 1])].map (toItem (Try.f40.body.getD .skip))) [(0, .pointer t), (3, .int .i64 n), (6, .int .i64 all), (7, .int .i64 i), (78, .bool t78)] w := by
  exact block_spec Try.func40 Try.mixed (stops_cons (fun σ w h => by
      obtain ⟨t_, e0, h⟩ := dP_elim h
      obtain ⟨n_, e1, h⟩ := dI_elim h
      obtain ⟨all_, e2, h⟩ := dI_elim h
      obtain ⟨i_, e3, h⟩ := dI_elim h
      exact (sock_Table_portsFine.B3_sound hN2 t_ n_ all_ i_ w h).weaken (Sub.cons (Sub.cons (Sub.cons (Sub.cons (Sub.nil _) e3) e2) e1) e0)) stops_nil) (Eq.mp (sock_Table_portsFine.B2_eq t n all i t78 w N2  R (fun t_ n_ all_ i_ w => sock_Table_portsFine.B3 t_ n_ all_ i_ w N2 R)) h)
def sock_Table_portsFine.L2b (t : Option Addr) (n all i : Int) (w : World)  (N2 : Option Addr → Int → Int → Int → World → Prop) (R : Bool → World → Prop) : Prop :=
  Bm (decide (i < (6 : Int))) (
    Pn t fun a =>
    (0 ≤ i ∧ i < ((6 : Nat) : Int)) ∧
    LdB (Addr.add a (i.toNat * 15)) w fun x67 =>
    Bm x67 (
      Pn t fun a_1 =>
      (0 ≤ i ∧ i < ((6 : Nat) : Int)) ∧
      LdI .i64 (((Addr.add a_1 (i.toNat * 15)).add 1).add 1) w fun x76 =>
      sock_Table_portsFine.B2 t n all i (x76 == (1 : Int)) w N2 R) (
      sock_Table_portsFine.B2 t n all i false w N2 R)) (
    Bm (n == all) (
      Pn t fun a_2 =>
      LdI .i64 (a_2.add 104) w fun x89 =>
      Bm (n == x89) (
        R (decide (n ≤ (2 : Int))) w) (
        R false w)) (
      R false w))
theorem sock_Table_portsFine.L2b_eq (t : Option Addr) (n all i : Int) (w : World)  (N2 : Option Addr → Int → Int → Int → World → Prop) (R : Bool → World → Prop) (sB2 : Option Addr → Int → Int → Int → Bool → World → Prop) :
    (
  Bm (decide (i < (6 : Int))) (
    Pn t fun a =>
    (0 ≤ i ∧ i < ((6 : Nat) : Int)) ∧
    LdB (Addr.add a (i.toNat * 15)) w fun x67 =>
    Bm x67 (
      Pn t fun a_1 =>
      (0 ≤ i ∧ i < ((6 : Nat) : Int)) ∧
      LdI .i64 (((Addr.add a_1 (i.toNat * 15)).add 1).add 1) w fun x76 =>
      sB2 t n all i (x76 == (1 : Int)) w) (
      sB2 t n all i false w)) (
    Bm (n == all) (
      Pn t fun a_2 =>
      LdI .i64 (a_2.add 104) w fun x89 =>
      Bm (n == x89) (
        R (decide (n ≤ (2 : Int))) w) (
        R false w)) (
      R false w))) = kstep Try.prog 96 Try.f40.results.toList (Try.f40.body.getD .skip) (sock_Table_portsFine.RV R) (kvc Try.prog 96 Try.f40.results.toList (Try.f40.body.getD .skip) (sock_Table_portsFine.RV R) [([(0, [1, 1, 1, 1, 0, 1, 0, 0, 1, 0, 0, 1]), (1, [3]), (0, [1, 1, 1, 1, 0, 1, 0, 0, 1, 1]), (2, [1, 1, 1, 1, 0, 1, 0, 0]), (1, [2]), (0, [1, 1, 1, 1, 1])], fun σ w => dP (slotOf σ 0) fun t_ => dI .i64 (slotOf σ 3) fun n_ => dI .i64 (slotOf σ 6) fun all_ => dI .i64 (slotOf σ 7) fun i_ => dB (slotOf σ 78) fun t78_ => sB2 t_ n_ all_ i_ t78_ w)] 2000) [(0, [1, 1, 1, 1, 0, 1, 0, 0]), (2, [1, 1, 1, 1, 0, 1, 0, 0]), (1, [2]), (0, [1, 1, 1, 1, 1])] [(0, .pointer t), (3, .int .i64 n), (6, .int .i64 all), (7, .int .i64 i)] w := by kernel_rfl
theorem sock_Table_portsFine.L2b_sound {R : Bool → World → Prop} {N2 : Option Addr → Int → Int → Int → World → Prop} (hN2 : ∀ t n all i w, N2 t n all i w → KW Try.prog 40 96 (sock_Table_portsFine.RV R) ([(0, [1, 1, 1, 1, 0, 1, 0, 0]), (2, [1, 1, 1, 1, 0, 1, 0, 0]), (1, [2]), (0, [1, 1, 1, 1, 1])].map (toItem (Try.f40.body.getD .skip))) [(0, .pointer t), (3, .int .i64 n), (6, .int .i64 all), (7, .int .i64 i)] w) (t : Option Addr) (n all i : Int) (w : World) (h : sock_Table_portsFine.L2b t n all i w  N2 R) :
    KW Try.prog 40 96 (sock_Table_portsFine.RV R) ([(0, [1, 1, 1, 1, 0, 1, 0, 0]), (2, [1, 1, 1, 1, 0, 1, 0, 0]), (1, [2]), (0, [1, 1, 1, 1, 1])].map (toItem (Try.f40.body.getD .skip))) [(0, .pointer t), (3, .int .i64 n), (6, .int .i64 all), (7, .int .i64 i)] w := by
  exact block_spec Try.func40 Try.mixed (stops_cons (fun σ w h => by
      obtain ⟨t_, e0, h⟩ := dP_elim h
      obtain ⟨n_, e1, h⟩ := dI_elim h
      obtain ⟨all_, e2, h⟩ := dI_elim h
      obtain ⟨i_, e3, h⟩ := dI_elim h
      obtain ⟨t78_, e4, h⟩ := dB_elim h
      exact (sock_Table_portsFine.B2_sound hN2 t_ n_ all_ i_ t78_ w h).weaken (Sub.cons (Sub.cons (Sub.cons (Sub.cons (Sub.cons (Sub.nil _) e4) e3) e2) e1) e0)) stops_nil) (Eq.mp (sock_Table_portsFine.L2b_eq t n all i w  N2 R (fun t_ n_ all_ i_ t78_ w => sock_Table_portsFine.B2 t_ n_ all_ i_ t78_ w N2 R)) h)
def sock_Table_portsFine.L2 (t : Option Addr) (n all i : Int) (w : World)  (R : Bool → World → Prop) : Prop :=
  ∃ (I : Nat → Option Addr → Int → Int → Int → World → Prop) (m : Nat), I m t n all i w ∧ ∀ m t n all i w, I m t n all i w → sock_Table_portsFine.L2b t n all i w  (fun t' n' all' i' w' => ∃ m', m' < m ∧ I m' t' n' all' i' w') R
theorem sock_Table_portsFine.L2_sound {R : Bool → World → Prop}  (t : Option Addr) (n all i : Int) (w : World) (h : sock_Table_portsFine.L2 t n all i w  R) :
    KW Try.prog 40 96 (sock_Table_portsFine.RV R) ([(0, [1, 1, 1, 1, 0, 1, 0, 0]), (2, [1, 1, 1, 1, 0, 1, 0, 0]), (1, [2]), (0, [1, 1, 1, 1, 1])].map (toItem (Try.f40.body.getD .skip))) [(0, .pointer t), (3, .int .i64 n), (6, .int .i64 all), (7, .int .i64 i)] w := by
  obtain ⟨I, m, hBase, hr⟩ := h
  refine KW.loop (fun m σ w => ∃ (t : Option Addr) (n all i : Int), σ = [(0, .pointer t), (3, .int .i64 n), (6, .int .i64 all), (7, .int .i64 i)] ∧ I m t n all i w) ?_ m _ w ⟨t, n, all, i, rfl, hBase⟩
  rintro m ih σ w ⟨t, n, all, i, rfl, hI⟩
  exact sock_Table_portsFine.L2b_sound  (N2 := fun t' n' all' i' w' => ∃ m', m' < m ∧ I m' t' n' all' i' w') (fun t' n' all' i' w' hx => by obtain ⟨m', hlt, hI'⟩ := hx; exact ih m' hlt _ w' ⟨t', n', all', i', rfl, hI'⟩) t n all i w (hr m t n all i w hI)
def sock_Table_portsFine.L1b (t : Option Addr) (n p : Int) (w : World)  (N1 : Option Addr → Int → Int → World → Prop) (R : Bool → World → Prop) : Prop :=
  Bm (decide (p < (8 : Int))) (
    Pn t fun a =>
    (0 ≤ p ∧ p < ((8 : Nat) : Int)) ∧
    LdI .i64 (Addr.add (a.add 95) (p.toNat * 1)) w fun x17 =>
    Bm (x17 != (-1 : Int)) (
      Bm (p == (0 : Int)) (
        sock_Table_portsFine.B1 t n p true w N1 R) (
        Pn t fun a_1 =>
        (0 ≤ x17 ∧ x17 < ((6 : Nat) : Int)) ∧
        LdB (Addr.add a_1 (x17.toNat * 15)) w fun x29 =>
        Bm (!x29) (
          sock_Table_portsFine.B1 t n p true w N1 R) (
          Pn t fun a_2 =>
          (0 ≤ x17 ∧ x17 < ((6 : Nat) : Int)) ∧
          LdI .i64 (((Addr.add a_2 (x17.toNat * 15)).add 1).add 1) w fun x40 =>
          Bm (x40 != (1 : Int)) (
            sock_Table_portsFine.B1 t n p true w N1 R) (
            Pn t fun a_3 =>
            (0 ≤ x17 ∧ x17 < ((6 : Nat) : Int)) ∧
            LdI .i64 (((Addr.add a_3 (x17.toNat * 15)).add 1).add 2) w fun x51 =>
            sock_Table_portsFine.B1 t n p (x51 != p) w N1 R)))) (
      N1 t n (IntKind.i64.wrap (p + (1 : Int))) w)) (
    sock_Table_portsFine.L2 t n (0 : Int) (0 : Int) w  R)
theorem sock_Table_portsFine.L1b_eq (t : Option Addr) (n p : Int) (w : World)  (N1 : Option Addr → Int → Int → World → Prop) (R : Bool → World → Prop) (sB1 : Option Addr → Int → Int → Bool → World → Prop) (sL2 : Option Addr → Int → Int → Int → World → Prop) :
    (
  Bm (decide (p < (8 : Int))) (
    Pn t fun a =>
    (0 ≤ p ∧ p < ((8 : Nat) : Int)) ∧
    LdI .i64 (Addr.add (a.add 95) (p.toNat * 1)) w fun x17 =>
    Bm (x17 != (-1 : Int)) (
      Bm (p == (0 : Int)) (
        sB1 t n p true w) (
        Pn t fun a_1 =>
        (0 ≤ x17 ∧ x17 < ((6 : Nat) : Int)) ∧
        LdB (Addr.add a_1 (x17.toNat * 15)) w fun x29 =>
        Bm (!x29) (
          sB1 t n p true w) (
          Pn t fun a_2 =>
          (0 ≤ x17 ∧ x17 < ((6 : Nat) : Int)) ∧
          LdI .i64 (((Addr.add a_2 (x17.toNat * 15)).add 1).add 1) w fun x40 =>
          Bm (x40 != (1 : Int)) (
            sB1 t n p true w) (
            Pn t fun a_3 =>
            (0 ≤ x17 ∧ x17 < ((6 : Nat) : Int)) ∧
            LdI .i64 (((Addr.add a_3 (x17.toNat * 15)).add 1).add 2) w fun x51 =>
            sB1 t n p (x51 != p) w)))) (
      N1 t n (IntKind.i64.wrap (p + (1 : Int))) w)) (
    sL2 t n (0 : Int) (0 : Int) w)) = kstep Try.prog 96 Try.f40.results.toList (Try.f40.body.getD .skip) (sock_Table_portsFine.RV R) (kvc Try.prog 96 Try.f40.results.toList (Try.f40.body.getD .skip) (sock_Table_portsFine.RV R) [([(0, [1, 1, 0, 1, 0, 0, 1, 0, 0, 1, 1, 0, 0, 1]), (0, [1, 1, 0, 1, 0, 0, 1, 0, 0, 1, 1, 0, 1]), (1, [1]), (0, [1, 1, 0, 1, 0, 0, 1, 1]), (2, [1, 1, 0, 1, 0, 0]), (1, [0]), (0, [1, 1, 1])], fun σ w => dP (slotOf σ 0) fun t_ => dI .i64 (slotOf σ 3) fun n_ => dI .i64 (slotOf σ 4) fun p_ => dB (slotOf σ 54) fun t54_ => sB1 t_ n_ p_ t54_ w),
    ([(0, [1, 1, 0, 1, 0, 0]), (2, [1, 1, 0, 1, 0, 0]), (1, [0]), (0, [1, 1, 1])], fun σ w => dP (slotOf σ 0) fun t_ => dI .i64 (slotOf σ 3) fun n_ => dI .i64 (slotOf σ 4) fun p_ => N1 t_ n_ p_ w),
    ([(0, [1, 1, 1, 1, 0, 1, 0, 0]), (2, [1, 1, 1, 1, 0, 1, 0, 0]), (1, [2]), (0, [1, 1, 1, 1, 1])], fun σ w => dP (slotOf σ 0) fun t_ => dI .i64 (slotOf σ 3) fun n_ => dI .i64 (slotOf σ 6) fun all_ => dI .i64 (slotOf σ 7) fun i_ => sL2 t_ n_ all_ i_ w)] 2000) [(0, [1, 1, 0, 1, 0, 0]), (2, [1, 1, 0, 1, 0, 0]), (1, [0]), (0, [1, 1, 1])] [(0, .pointer t), (3, .int .i64 n), (4, .int .i64 p)] w := by kernel_rfl
theorem sock_Table_portsFine.L1b_sound {R : Bool → World → Prop} {N1 : Option Addr → Int → Int → World → Prop} (hN1 : ∀ t n p w, N1 t n p w → KW Try.prog 40 96 (sock_Table_portsFine.RV R) ([(0, [1, 1, 0, 1, 0, 0]), (2, [1, 1, 0, 1, 0, 0]), (1, [0]), (0, [1, 1, 1])].map (toItem (Try.f40.body.getD .skip))) [(0, .pointer t), (3, .int .i64 n), (4, .int .i64 p)] w) (t : Option Addr) (n p : Int) (w : World) (h : sock_Table_portsFine.L1b t n p w  N1 R) :
    KW Try.prog 40 96 (sock_Table_portsFine.RV R) ([(0, [1, 1, 0, 1, 0, 0]), (2, [1, 1, 0, 1, 0, 0]), (1, [0]), (0, [1, 1, 1])].map (toItem (Try.f40.body.getD .skip))) [(0, .pointer t), (3, .int .i64 n), (4, .int .i64 p)] w := by
  exact block_spec Try.func40 Try.mixed (stops_cons (fun σ w h => by
      obtain ⟨t_, e0, h⟩ := dP_elim h
      obtain ⟨n_, e1, h⟩ := dI_elim h
      obtain ⟨p_, e2, h⟩ := dI_elim h
      obtain ⟨t54_, e3, h⟩ := dB_elim h
      exact (sock_Table_portsFine.B1_sound hN1 t_ n_ p_ t54_ w h).weaken (Sub.cons (Sub.cons (Sub.cons (Sub.cons (Sub.nil _) e3) e2) e1) e0)) (stops_cons (fun σ w h => by
      obtain ⟨t_, e0, h⟩ := dP_elim h
      obtain ⟨n_, e1, h⟩ := dI_elim h
      obtain ⟨p_, e2, h⟩ := dI_elim h
      exact (hN1 t_ n_ p_ w h).weaken (Sub.cons (Sub.cons (Sub.cons (Sub.nil _) e2) e1) e0)) (stops_cons (fun σ w h => by
      obtain ⟨t_, e0, h⟩ := dP_elim h
      obtain ⟨n_, e1, h⟩ := dI_elim h
      obtain ⟨all_, e2, h⟩ := dI_elim h
      obtain ⟨i_, e3, h⟩ := dI_elim h
      exact (sock_Table_portsFine.L2_sound  t_ n_ all_ i_ w h).weaken (Sub.cons (Sub.cons (Sub.cons (Sub.cons (Sub.nil _) e3) e2) e1) e0)) stops_nil))) (Eq.mp (sock_Table_portsFine.L1b_eq t n p w  N1 R (fun t_ n_ p_ t54_ w => sock_Table_portsFine.B1 t_ n_ p_ t54_ w N1 R) (fun t_ n_ all_ i_ w => sock_Table_portsFine.L2 t_ n_ all_ i_ w  R)) h)
def sock_Table_portsFine.L1 (t : Option Addr) (n p : Int) (w : World)  (R : Bool → World → Prop) : Prop :=
  ∃ (I : Nat → Option Addr → Int → Int → World → Prop) (m : Nat), I m t n p w ∧ ∀ m t n p w, I m t n p w → sock_Table_portsFine.L1b t n p w  (fun t' n' p' w' => ∃ m', m' < m ∧ I m' t' n' p' w') R
theorem sock_Table_portsFine.L1_sound {R : Bool → World → Prop}  (t : Option Addr) (n p : Int) (w : World) (h : sock_Table_portsFine.L1 t n p w  R) :
    KW Try.prog 40 96 (sock_Table_portsFine.RV R) ([(0, [1, 1, 0, 1, 0, 0]), (2, [1, 1, 0, 1, 0, 0]), (1, [0]), (0, [1, 1, 1])].map (toItem (Try.f40.body.getD .skip))) [(0, .pointer t), (3, .int .i64 n), (4, .int .i64 p)] w := by
  obtain ⟨I, m, hBase, hr⟩ := h
  refine KW.loop (fun m σ w => ∃ (t : Option Addr) (n p : Int), σ = [(0, .pointer t), (3, .int .i64 n), (4, .int .i64 p)] ∧ I m t n p w) ?_ m _ w ⟨t, n, p, rfl, hBase⟩
  rintro m ih σ w ⟨t, n, p, rfl, hI⟩
  exact sock_Table_portsFine.L1b_sound  (N1 := fun t' n' p' w' => ∃ m', m' < m ∧ I m' t' n' p' w') (fun t' n' p' w' hx => by obtain ⟨m', hlt, hI'⟩ := hx; exact ih m' hlt _ w' ⟨t', n', p', rfl, hI'⟩) t n p w (hr m t n p w hI)
def sock_Table_portsFine.B0 (t : Option Addr) (w : World)   (R : Bool → World → Prop) : Prop :=
  sock_Table_portsFine.L1 t (0 : Int) (0 : Int) w  R
theorem sock_Table_portsFine.B0_eq (t : Option Addr) (w : World)   (R : Bool → World → Prop) (sL1 : Option Addr → Int → Int → World → Prop) :
    (
  sL1 t (0 : Int) (0 : Int) w) = kstep Try.prog 96 Try.f40.results.toList (Try.f40.body.getD .skip) (sock_Table_portsFine.RV R) (kvc Try.prog 96 Try.f40.results.toList (Try.f40.body.getD .skip) (sock_Table_portsFine.RV R) [([(0, [1, 1, 0, 1, 0, 0]), (2, [1, 1, 0, 1, 0, 0]), (1, [0]), (0, [1, 1, 1])], fun σ w => dP (slotOf σ 0) fun t_ => dI .i64 (slotOf σ 3) fun n_ => dI .i64 (slotOf σ 4) fun p_ => sL1 t_ n_ p_ w)] 2000) [(0, [])] [(0, .pointer t)] w := by kernel_rfl
theorem sock_Table_portsFine.B0_sound {R : Bool → World → Prop}  (t : Option Addr) (w : World) (h : sock_Table_portsFine.B0 t w   R) :
    KW Try.prog 40 96 (sock_Table_portsFine.RV R) ([(0, [])].map (toItem (Try.f40.body.getD .skip))) [(0, .pointer t)] w := by
  exact block_spec Try.func40 Try.mixed (stops_cons (fun σ w h => by
      obtain ⟨t_, e0, h⟩ := dP_elim h
      obtain ⟨n_, e1, h⟩ := dI_elim h
      obtain ⟨p_, e2, h⟩ := dI_elim h
      exact (sock_Table_portsFine.L1_sound  t_ n_ p_ w h).weaken (Sub.cons (Sub.cons (Sub.cons (Sub.nil _) e2) e1) e0)) stops_nil) (Eq.mp (sock_Table_portsFine.B0_eq t w   R (fun t_ n_ p_ w => sock_Table_portsFine.L1 t_ n_ p_ w  R)) h)
theorem sock_Table_portsFine.sound (t : Option Addr) (w : World) (R : Bool → World → Prop) (h : sock_Table_portsFine.B0 t w R) : sock_Table_portsFine.Call t w R := by
  have hc := calls_of_block (args := #[.pointer t]) Try.func40 (body := (Try.f40.body.getD .skip)) (by kernel_rfl) (by kernel_rfl) (args_slot _) (sock_Table_portsFine.B0_sound t w h)
  exact hc.mono fun e w' he => by
    obtain ⟨v, rfl, hv⟩ := he
    exact sock_Table_portsFine.RV_elim hv
end Go.Proofs.Qxb6500427a
