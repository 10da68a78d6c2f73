import Derived.Test.Qxb6500425aSig
set_option maxRecDepth 100000
set_option linter.unusedVariables false
open Go.Vc
namespace Go.Proofs.Qxb6500425a
def ip_keyOf.B0 (src proto id0 : Int) (w : World)   (R : Int → World → Prop) : Prop :=
  0 ≤ (16 : Int) ∧
  0 ≤ (8 : Int) ∧
  R (IntKind.i64.wrap (BitVec.ofInt IntKind.i64.bits (IntKind.i64.wrap (BitVec.ofInt IntKind.i64.bits (IntKind.i64.wrap (src * 2 ^ (min (16 : Int).toNat IntKind.i64.bits))) ||| BitVec.ofInt IntKind.i64.bits (IntKind.i64.wrap (proto * 2 ^ (min (8 : Int).toNat IntKind.i64.bits)))).toNat) ||| BitVec.ofInt IntKind.i64.bits id0).toNat) w
theorem ip_keyOf.B0_eq (src proto id0 : Int) (w : World)   (R : Int → World → Prop)  :
    (
  0 ≤ (16 : Int) ∧
  0 ≤ (8 : Int) ∧
  R (IntKind.i64.wrap (BitVec.ofInt IntKind.i64.bits (IntKind.i64.wrap (BitVec.ofInt IntKind.i64.bits (IntKind.i64.wrap (src * 2 ^ (min (16 : Int).toNat IntKind.i64.bits))) ||| BitVec.ofInt IntKind.i64.bits (IntKind.i64.wrap (proto * 2 ^ (min (8 : Int).toNat IntKind.i64.bits)))).toNat) ||| BitVec.ofInt IntKind.i64.bits id0).toNat) w) = kstep Try.prog 14 Try.f54.results.toList (Try.f54.body.getD .skip) (ip_keyOf.RV R) (kvc Try.prog 14 Try.f54.results.toList (Try.f54.body.getD .skip) (ip_keyOf.RV R) [] 2000) [(0, [])] [(0, .int .i64 src), (1, .int .i64 proto), (2, .int .i64 id0)] w := by kernel_rfl
theorem ip_keyOf.B0_sound {R : Int → World → Prop}  (src proto id0 : Int) (w : World) (h : ip_keyOf.B0 src proto id0 w   R) :
    KW Try.prog 54 14 (ip_keyOf.RV R) ([(0, [])].map (toItem (Try.f54.body.getD .skip))) [(0, .int .i64 src), (1, .int .i64 proto), (2, .int .i64 id0)] w := by
  exact block_spec Try.func54 Try.mixed stops_nil (Eq.mp (ip_keyOf.B0_eq src proto id0 w   R ) h)
theorem ip_keyOf.sound (src proto id0 : Int) (w : World) (R : Int → World → Prop) (h : ip_keyOf.B0 src proto id0 w R) : ip_keyOf.Call src proto id0 w R := by
  have hc := calls_of_block (args := #[.int .i64 src, .int .i64 proto, .int .i64 id0]) Try.func54 (body := (Try.f54.body.getD .skip)) (by kernel_rfl) (by kernel_rfl) (args_slot _) (ip_keyOf.B0_sound src proto id0 w h)
  exact hc.mono fun e w' he => by
    obtain ⟨v, rfl, hv⟩ := he
    exact ip_keyOf.RV_elim hv
def ip_IP_find.B1 (p : Option Addr) (key i : Int) (t27 : Bool) (w : World) (N1 : Option Addr → Int → Int → World → Prop)  (R : Int → World → Prop) : Prop :=
  Bm t27 (
    R i w) (
    N1 p key (IntKind.i64.wrap (i + (1 : Int))) w)
theorem ip_IP_find.B1_eq (p : Option Addr) (key i : Int) (t27 : Bool) (w : World) (N1 : Option Addr → Int → Int → World → Prop)  (R : Int → World → Prop)  :
    (
  Bm t27 (
    R i w) (
    N1 p key (IntKind.i64.wrap (i + (1 : Int))) w)) = kstep Try.prog 29 Try.f55.results.toList (Try.f55.body.getD .skip) (ip_IP_find.RV R) (kvc Try.prog 29 Try.f55.results.toList (Try.f55.body.getD .skip) (ip_IP_find.RV R) [([(0, [1, 0, 1, 0, 0]), (2, [1, 0, 1, 0, 0]), (1, [0]), (0, [1, 1])], fun σ w => dP (slotOf σ 0) fun p_ => dI .i64 (slotOf σ 1) fun key_ => dI .i64 (slotOf σ 5) fun i_ => N1 p_ key_ i_ w)] 2000) [(0, [1, 0, 1, 0, 0, 1, 0, 0, 1]), (1, [1]), (0, [1, 0, 1, 0, 0, 1, 1]), (2, [1, 0, 1, 0, 0]), (1, [0]), (0, [1, 1])] [(0, .pointer p), (1, .int .i64 key), (5, .int .i64 i), (27, .bool t27)] w := by kernel_rfl
theorem ip_IP_find.B1_sound {R : Int → World → Prop} {N1 : Option Addr → Int → Int → World → Prop} (hN1 : ∀ p key i w, N1 p key i w → KW Try.prog 55 29 (ip_IP_find.RV R) ([(0, [1, 0, 1, 0, 0]), (2, [1, 0, 1, 0, 0]), (1, [0]), (0, [1, 1])].map (toItem (Try.f55.body.getD .skip))) [(0, .pointer p), (1, .int .i64 key), (5, .int .i64 i)] w) (p : Option Addr) (key i : Int) (t27 : Bool) (w : World) (h : ip_IP_find.B1 p key i t27 w N1  R) :
    KW Try.prog 55 29 (ip_IP_find.RV R) ([(0, [1, 0, 1, 0, 0, 1, 0, 0, 1]), (1, [1]), (0, [1, 0, 1, 0, 0, 1, 1]), (2, [1, 0, 1, 0, 0]), (1, [0]), (0, [1, 1])].map (toItem (Try.f55.body.getD .skip))) [(0, .pointer p), (1, .int .i64 key), (5, .int .i64 i), (27, .bool t27)] w := by
  exact block_spec Try.func55 Try.mixed (stops_cons (fun σ w h => by
      obtain ⟨p_, e0, h⟩ := dP_elim h
      obtain ⟨key_, e1, h⟩ := dI_elim h
      obtain ⟨i_, e2, h⟩ := dI_elim h
      exact (hN1 p_ key_ i_ w h).weaken (Sub.cons (Sub.cons (Sub.cons (Sub.nil _) e2) e1) e0)) stops_nil) (Eq.mp (ip_IP_find.B1_eq p key i t27 w N1  R ) h)
def ip_IP_find.L1b (p : Option Addr) (key i : Int) (w : World)  (N1 : Option Addr → Int → Int → World → Prop) (R : Int → World → Prop) : Prop :=
  Bm (decide (i < (3 : Int))) (
    Pn p fun a =>
    (0 ≤ i ∧ i < ((3 : Nat) : Int)) ∧
    LdB (Addr.add (a.add 3) (i.toNat * 45)) w fun x16 =>
    Bm x16 (
      Pn p fun a_1 =>
      (0 ≤ i ∧ i < ((3 : Nat) : Int)) ∧
      LdI .i64 ((Addr.add (a_1.add 3) (i.toNat * 45)).add 1) w fun x24 =>
      ip_IP_find.B1 p key i (x24 == key) w N1 R) (
      ip_IP_find.B1 p key i false w N1 R)) (
    R (-1 : Int) w)
theorem ip_IP_find.L1b_eq (p : Option Addr) (key i : Int) (w : World)  (N1 : Option Addr → Int → Int → World → Prop) (R : Int → World → Prop) (sB1 : Option Addr → Int → Int → Bool → World → Prop) :
    (
  Bm (decide (i < (3 : Int))) (
    Pn p fun a =>
    (0 ≤ i ∧ i < ((3 : Nat) : Int)) ∧
    LdB (Addr.add (a.add 3) (i.toNat * 45)) w fun x16 =>
    Bm x16 (
      Pn p fun a_1 =>
      (0 ≤ i ∧ i < ((3 : Nat) : Int)) ∧
      LdI .i64 ((Addr.add (a_1.add 3) (i.toNat * 45)).add 1) w fun x24 =>
      sB1 p key i (x24 == key) w) (
      sB1 p key i false w)) (
    R (-1 : Int) w)) = kstep Try.prog 29 Try.f55.results.toList (Try.f55.body.getD .skip) (ip_IP_find.RV R) (kvc Try.prog 29 Try.f55.results.toList (Try.f55.body.getD .skip) (ip_IP_find.RV R) [([(0, [1, 0, 1, 0, 0, 1, 0, 0, 1]), (1, [1]), (0, [1, 0, 1, 0, 0, 1, 1]), (2, [1, 0, 1, 0, 0]), (1, [0]), (0, [1, 1])], fun σ w => dP (slotOf σ 0) fun p_ => dI .i64 (slotOf σ 1) fun key_ => dI .i64 (slotOf σ 5) fun i_ => dB (slotOf σ 27) fun t27_ => sB1 p_ key_ i_ t27_ w)] 2000) [(0, [1, 0, 1, 0, 0]), (2, [1, 0, 1, 0, 0]), (1, [0]), (0, [1, 1])] [(0, .pointer p), (1, .int .i64 key), (5, .int .i64 i)] w := by kernel_rfl
theorem ip_IP_find.L1b_sound {R : Int → World → Prop} {N1 : Option Addr → Int → Int → World → Prop} (hN1 : ∀ p key i w, N1 p key i w → KW Try.prog 55 29 (ip_IP_find.RV R) ([(0, [1, 0, 1, 0, 0]), (2, [1, 0, 1, 0, 0]), (1, [0]), (0, [1, 1])].map (toItem (Try.f55.body.getD .skip))) [(0, .pointer p), (1, .int .i64 key), (5, .int .i64 i)] w) (p : Option Addr) (key i : Int) (w : World) (h : ip_IP_find.L1b p key i w  N1 R) :
    KW Try.prog 55 29 (ip_IP_find.RV R) ([(0, [1, 0, 1, 0, 0]), (2, [1, 0, 1, 0, 0]), (1, [0]), (0, [1, 1])].map (toItem (Try.f55.body.getD .skip))) [(0, .pointer p), (1, .int .i64 key), (5, .int .i64 i)] w := by
  exact block_spec Try.func55 Try.mixed (stops_cons (fun σ w h => by
      obtain ⟨p_, e0, h⟩ := dP_elim h
      obtain ⟨key_, e1, h⟩ := dI_elim h
      obtain ⟨i_, e2, h⟩ := dI_elim h
      obtain ⟨t27_, e3, h⟩ := dB_elim h
      exact (ip_IP_find.B1_sound hN1 p_ key_ i_ t27_ w h).weaken (Sub.cons (Sub.cons (Sub.cons (Sub.cons (Sub.nil _) e3) e2) e1) e0)) stops_nil) (Eq.mp (ip_IP_find.L1b_eq p key i w  N1 R (fun p_ key_ i_ t27_ w => ip_IP_find.B1 p_ key_ i_ t27_ w N1 R)) h)
def ip_IP_find.L1 (p : Option Addr) (key i : Int) (w : World)  (R : Int → World → Prop) : Prop :=
  ∃ (I : Nat → Option Addr → Int → Int → World → Prop) (m : Nat), I m p key i w ∧ ∀ m p key i w, I m p key i w → ip_IP_find.L1b p key i w  (fun p' key' i' w' => ∃ m', m' < m ∧ I m' p' key' i' w') R
theorem ip_IP_find.L1_sound {R : Int → World → Prop}  (p : Option Addr) (key i : Int) (w : World) (h : ip_IP_find.L1 p key i w  R) :
    KW Try.prog 55 29 (ip_IP_find.RV R) ([(0, [1, 0, 1, 0, 0]), (2, [1, 0, 1, 0, 0]), (1, [0]), (0, [1, 1])].map (toItem (Try.f55.body.getD .skip))) [(0, .pointer p), (1, .int .i64 key), (5, .int .i64 i)] w := by
  obtain ⟨I, m, h0, hr⟩ := h
  refine KW.loop (fun m σ w => ∃ (p : Option Addr) (key i : Int), σ = [(0, .pointer p), (1, .int .i64 key), (5, .int .i64 i)] ∧ I m p key i w) ?_ m _ w ⟨p, key, i, rfl, h0⟩
  rintro m ih σ w ⟨p, key, i, rfl, hI⟩
  exact ip_IP_find.L1b_sound  (N1 := fun p' key' i' w' => ∃ m', m' < m ∧ I m' p' key' i' w') (fun p' key' i' w' hx => by obtain ⟨m', hlt, hI'⟩ := hx; exact ih m' hlt _ w' ⟨p', key', i', rfl, hI'⟩) p key i w (hr m p key i w hI)
def ip_IP_find.B0 (p : Option Addr) (key : Int) (w : World)   (R : Int → World → Prop) : Prop :=
  ip_IP_find.L1 p key (0 : Int) w  R
theorem ip_IP_find.B0_eq (p : Option Addr) (key : Int) (w : World)   (R : Int → World → Prop) (sL1 : Option Addr → Int → Int → World → Prop) :
    (
  sL1 p key (0 : Int) w) = kstep Try.prog 29 Try.f55.results.toList (Try.f55.body.getD .skip) (ip_IP_find.RV R) (kvc Try.prog 29 Try.f55.results.toList (Try.f55.body.getD .skip) (ip_IP_find.RV R) [([(0, [1, 0, 1, 0, 0]), (2, [1, 0, 1, 0, 0]), (1, [0]), (0, [1, 1])], fun σ w => dP (slotOf σ 0) fun p_ => dI .i64 (slotOf σ 1) fun key_ => dI .i64 (slotOf σ 5) fun i_ => sL1 p_ key_ i_ w)] 2000) [(0, [])] [(0, .pointer p), (1, .int .i64 key)] w := by kernel_rfl
theorem ip_IP_find.B0_sound {R : Int → World → Prop}  (p : Option Addr) (key : Int) (w : World) (h : ip_IP_find.B0 p key w   R) :
    KW Try.prog 55 29 (ip_IP_find.RV R) ([(0, [])].map (toItem (Try.f55.body.getD .skip))) [(0, .pointer p), (1, .int .i64 key)] w := by
  exact block_spec Try.func55 Try.mixed (stops_cons (fun σ w h => by
      obtain ⟨p_, e0, h⟩ := dP_elim h
      obtain ⟨key_, e1, h⟩ := dI_elim h
      obtain ⟨i_, e2, h⟩ := dI_elim h
      exact (ip_IP_find.L1_sound  p_ key_ i_ w h).weaken (Sub.cons (Sub.cons (Sub.cons (Sub.nil _) e2) e1) e0)) stops_nil) (Eq.mp (ip_IP_find.B0_eq p key w   R (fun p_ key_ i_ w => ip_IP_find.L1 p_ key_ i_ w  R)) h)
theorem ip_IP_find.sound (p : Option Addr) (key : Int) (w : World) (R : Int → World → Prop) (h : ip_IP_find.B0 p key w R) : ip_IP_find.Call p key w R := by
  have hc := calls_of_block (args := #[.pointer p, .int .i64 key]) Try.func55 (body := (Try.f55.body.getD .skip)) (by kernel_rfl) (by kernel_rfl) (args_slot _) (ip_IP_find.B0_sound p key w h)
  exact hc.mono fun e w' he => by
    obtain ⟨v, rfl, hv⟩ := he
    exact ip_IP_find.RV_elim hv
def ip_IP_vacant.L1b (p : Option Addr) (i : Int) (w : World)  (N1 : Option Addr → Int → World → Prop) (R : Int → World → Prop) : Prop :=
  Bm (decide (i < (3 : Int))) (
    Pn p fun a =>
    (0 ≤ i ∧ i < ((3 : Nat) : Int)) ∧
    LdB (Addr.add (a.add 3) (i.toNat * 45)) w fun x14 =>
    Bm (!x14) (
      R i w) (
      N1 p (IntKind.i64.wrap (i + (1 : Int))) w)) (
    R (-1 : Int) w)
theorem ip_IP_vacant.L1b_eq (p : Option Addr) (i : Int) (w : World)  (N1 : Option Addr → Int → World → Prop) (R : Int → World → Prop)  :
    (
  Bm (decide (i < (3 : Int))) (
    Pn p fun a =>
    (0 ≤ i ∧ i < ((3 : Nat) : Int)) ∧
    LdB (Addr.add (a.add 3) (i.toNat * 45)) w fun x14 =>
    Bm (!x14) (
      R i w) (
      N1 p (IntKind.i64.wrap (i + (1 : Int))) w)) (
    R (-1 : Int) w)) = kstep Try.prog 17 Try.f56.results.toList (Try.f56.body.getD .skip) (ip_IP_vacant.RV R) (kvc Try.prog 17 Try.f56.results.toList (Try.f56.body.getD .skip) (ip_IP_vacant.RV R) [([(0, [1, 0, 1, 0, 0]), (2, [1, 0, 1, 0, 0]), (1, [0]), (0, [1, 1])], fun σ w => dP (slotOf σ 0) fun p_ => dI .i64 (slotOf σ 3) fun i_ => N1 p_ i_ w)] 2000) [(0, [1, 0, 1, 0, 0]), (2, [1, 0, 1, 0, 0]), (1, [0]), (0, [1, 1])] [(0, .pointer p), (3, .int .i64 i)] w := by kernel_rfl
theorem ip_IP_vacant.L1b_sound {R : Int → World → Prop} {N1 : Option Addr → Int → World → Prop} (hN1 : ∀ p i w, N1 p i w → KW Try.prog 56 17 (ip_IP_vacant.RV R) ([(0, [1, 0, 1, 0, 0]), (2, [1, 0, 1, 0, 0]), (1, [0]), (0, [1, 1])].map (toItem (Try.f56.body.getD .skip))) [(0, .pointer p), (3, .int .i64 i)] w) (p : Option Addr) (i : Int) (w : World) (h : ip_IP_vacant.L1b p i w  N1 R) :
    KW Try.prog 56 17 (ip_IP_vacant.RV R) ([(0, [1, 0, 1, 0, 0]), (2, [1, 0, 1, 0, 0]), (1, [0]), (0, [1, 1])].map (toItem (Try.f56.body.getD .skip))) [(0, .pointer p), (3, .int .i64 i)] w := by
  exact block_spec Try.func56 Try.mixed (stops_cons (fun σ w h => by
      obtain ⟨p_, e0, h⟩ := dP_elim h
      obtain ⟨i_, e1, h⟩ := dI_elim h
      exact (hN1 p_ i_ w h).weaken (Sub.cons (Sub.cons (Sub.nil _) e1) e0)) stops_nil) (Eq.mp (ip_IP_vacant.L1b_eq p i w  N1 R ) h)
def ip_IP_vacant.L1 (p : Option Addr) (i : Int) (w : World)  (R : Int → World → Prop) : Prop :=
  ∃ (I : Nat → Option Addr → Int → World → Prop) (m : Nat), I m p i w ∧ ∀ m p i w, I m p i w → ip_IP_vacant.L1b p i w  (fun p' i' w' => ∃ m', m' < m ∧ I m' p' i' w') R
theorem ip_IP_vacant.L1_sound {R : Int → World → Prop}  (p : Option Addr) (i : Int) (w : World) (h : ip_IP_vacant.L1 p i w  R) :
    KW Try.prog 56 17 (ip_IP_vacant.RV R) ([(0, [1, 0, 1, 0, 0]), (2, [1, 0, 1, 0, 0]), (1, [0]), (0, [1, 1])].map (toItem (Try.f56.body.getD .skip))) [(0, .pointer p), (3, .int .i64 i)] w := by
  obtain ⟨I, m, h0, hr⟩ := h
  refine KW.loop (fun m σ w => ∃ (p : Option Addr) (i : Int), σ = [(0, .pointer p), (3, .int .i64 i)] ∧ I m p i w) ?_ m _ w ⟨p, i, rfl, h0⟩
  rintro m ih σ w ⟨p, i, rfl, hI⟩
  exact ip_IP_vacant.L1b_sound  (N1 := fun p' i' w' => ∃ m', m' < m ∧ I m' p' i' w') (fun p' i' w' hx => by obtain ⟨m', hlt, hI'⟩ := hx; exact ih m' hlt _ w' ⟨p', i', rfl, hI'⟩) p i w (hr m p i w hI)
def ip_IP_vacant.B0 (p : Option Addr) (w : World)   (R : Int → World → Prop) : Prop :=
  ip_IP_vacant.L1 p (0 : Int) w  R
theorem ip_IP_vacant.B0_eq (p : Option Addr) (w : World)   (R : Int → World → Prop) (sL1 : Option Addr → Int → World → Prop) :
    (
  sL1 p (0 : Int) w) = kstep Try.prog 17 Try.f56.results.toList (Try.f56.body.getD .skip) (ip_IP_vacant.RV R) (kvc Try.prog 17 Try.f56.results.toList (Try.f56.body.getD .skip) (ip_IP_vacant.RV R) [([(0, [1, 0, 1, 0, 0]), (2, [1, 0, 1, 0, 0]), (1, [0]), (0, [1, 1])], fun σ w => dP (slotOf σ 0) fun p_ => dI .i64 (slotOf σ 3) fun i_ => sL1 p_ i_ w)] 2000) [(0, [])] [(0, .pointer p)] w := by kernel_rfl
theorem ip_IP_vacant.B0_sound {R : Int → World → Prop}  (p : Option Addr) (w : World) (h : ip_IP_vacant.B0 p w   R) :
    KW Try.prog 56 17 (ip_IP_vacant.RV R) ([(0, [])].map (toItem (Try.f56.body.getD .skip))) [(0, .pointer p)] w := by
  exact block_spec Try.func56 Try.mixed (stops_cons (fun σ w h => by
      obtain ⟨p_, e0, h⟩ := dP_elim h
      obtain ⟨i_, e1, h⟩ := dI_elim h
      exact (ip_IP_vacant.L1_sound  p_ i_ w h).weaken (Sub.cons (Sub.cons (Sub.nil _) e1) e0)) stops_nil) (Eq.mp (ip_IP_vacant.B0_eq p w   R (fun p_ i_ w => ip_IP_vacant.L1 p_ i_ w  R)) h)
theorem ip_IP_vacant.sound (p : Option Addr) (w : World) (R : Int → World → Prop) (h : ip_IP_vacant.B0 p w R) : ip_IP_vacant.Call p w R := by
  have hc := calls_of_block (args := #[.pointer p]) Try.func56 (body := (Try.f56.body.getD .skip)) (by kernel_rfl) (by kernel_rfl) (args_slot _) (ip_IP_vacant.B0_sound p w h)
  exact hc.mono fun e w' he => by
    obtain ⟨v, rfl, hv⟩ := he
    exact ip_IP_vacant.RV_elim hv
def ip_IP_clash.B1 (p : Option Addr) (i end0 : Int) (t31 : Bool) (w : World)   (R : Bool → World → Prop) : Prop :=
  Bm t31 (
    R true w) (
    Pn p fun a =>
    (0 ≤ i ∧ i < ((3 : Nat) : Int)) ∧
    LdI .u64 ((Addr.add (a.add 3) (i.toNat * 45)).add 4) w fun x38 =>
    0 ≤ (IntKind.u64.wrap end0) ∧
    R ((x38.fdiv (2 ^ (min (IntKind.u64.wrap end0).toNat IntKind.u64.bits))) != (0 : Int)) w)
theorem ip_IP_clash.B1_eq (p : Option Addr) (i end0 : Int) (t31 : Bool) (w : World)   (R : Bool → World → Prop)  :
    (
  Bm t31 (
    R true w) (
    Pn p fun a =>
    (0 ≤ i ∧ i < ((3 : Nat) : Int)) ∧
    LdI .u64 ((Addr.add (a.add 3) (i.toNat * 45)).add 4) w fun x38 =>
    0 ≤ (IntKind.u64.wrap end0) ∧
    R ((x38.fdiv (2 ^ (min (IntKind.u64.wrap end0).toNat IntKind.u64.bits))) != (0 : Int)) w)) = kstep Try.prog 43 Try.f57.results.toList (Try.f57.body.getD .skip) (ip_IP_clash.RV R) (kvc Try.prog 43 Try.f57.results.toList (Try.f57.body.getD .skip) (ip_IP_clash.RV R) [] 2000) [(0, [1, 1, 1, 0, 1]), (0, [1, 1, 1, 1])] [(0, .pointer p), (1, .int .i64 i), (2, .int .i64 end0), (31, .bool t31)] w := by kernel_rfl
theorem ip_IP_clash.B1_sound {R : Bool → World → Prop}  (p : Option Addr) (i end0 : Int) (t31 : Bool) (w : World) (h : ip_IP_clash.B1 p i end0 t31 w   R) :
    KW Try.prog 57 43 (ip_IP_clash.RV R) ([(0, [1, 1, 1, 0, 1]), (0, [1, 1, 1, 1])].map (toItem (Try.f57.body.getD .skip))) [(0, .pointer p), (1, .int .i64 i), (2, .int .i64 end0), (31, .bool t31)] w := by
  exact block_spec Try.func57 Try.mixed stops_nil (Eq.mp (ip_IP_clash.B1_eq p i end0 t31 w   R ) h)
def ip_IP_clash.B0 (p : Option Addr) (i end0 : Int) (more : Bool) (w : World)   (R : Bool → World → Prop) : Prop :=
  Pn p fun a =>
  (0 ≤ i ∧ i < ((3 : Nat) : Int)) ∧
  LdI .i64 ((Addr.add (a.add 3) (i.toNat * 45)).add 3) w fun x16 =>
  Bm more (
    Bm (decide (x16 ≥ (0 : Int))) (
      R (decide (end0 > x16)) w) (
      R false w)) (
    Bm (decide (x16 ≥ (0 : Int))) (
      ip_IP_clash.B1 p i end0 (x16 != end0) w  R) (
      ip_IP_clash.B1 p i end0 false w  R))
theorem ip_IP_clash.B0_eq (p : Option Addr) (i end0 : Int) (more : Bool) (w : World)   (R : Bool → World → Prop) (sB1 : Option Addr → Int → Int → Bool → World → Prop) :
    (
  Pn p fun a =>
  (0 ≤ i ∧ i < ((3 : Nat) : Int)) ∧
  LdI .i64 ((Addr.add (a.add 3) (i.toNat * 45)).add 3) w fun x16 =>
  Bm more (
    Bm (decide (x16 ≥ (0 : Int))) (
      R (decide (end0 > x16)) w) (
      R false w)) (
    Bm (decide (x16 ≥ (0 : Int))) (
      sB1 p i end0 (x16 != end0) w) (
      sB1 p i end0 false w))) = kstep Try.prog 43 Try.f57.results.toList (Try.f57.body.getD .skip) (ip_IP_clash.RV R) (kvc Try.prog 43 Try.f57.results.toList (Try.f57.body.getD .skip) (ip_IP_clash.RV R) [([(0, [1, 1, 1, 0, 1]), (0, [1, 1, 1, 1])], fun σ w => dP (slotOf σ 0) fun p_ => dI .i64 (slotOf σ 1) fun i_ => dI .i64 (slotOf σ 2) fun end0_ => dB (slotOf σ 31) fun t31_ => sB1 p_ i_ end0_ t31_ w)] 2000) [(0, [])] [(0, .pointer p), (1, .int .i64 i), (2, .int .i64 end0), (3, .bool more)] w := by kernel_rfl
theorem ip_IP_clash.B0_sound {R : Bool → World → Prop}  (p : Option Addr) (i end0 : Int) (more : Bool) (w : World) (h : ip_IP_clash.B0 p i end0 more w   R) :
    KW Try.prog 57 43 (ip_IP_clash.RV R) ([(0, [])].map (toItem (Try.f57.body.getD .skip))) [(0, .pointer p), (1, .int .i64 i), (2, .int .i64 end0), (3, .bool more)] w := by
  exact block_spec Try.func57 Try.mixed (stops_cons (fun σ w h => by
      obtain ⟨p_, e0, h⟩ := dP_elim h
      obtain ⟨i_, e1, h⟩ := dI_elim h
      obtain ⟨end0_, e2, h⟩ := dI_elim h
      obtain ⟨t31_, e3, h⟩ := dB_elim h
      exact (ip_IP_clash.B1_sound  p_ i_ end0_ t31_ w h).weaken (Sub.cons (Sub.cons (Sub.cons (Sub.cons (Sub.nil _) e3) e2) e1) e0)) stops_nil) (Eq.mp (ip_IP_clash.B0_eq p i end0 more w   R (fun p_ i_ end0_ t31_ w => ip_IP_clash.B1 p_ i_ end0_ t31_ w  R)) h)
theorem ip_IP_clash.sound (p : Option Addr) (i end0 : Int) (more : Bool) (w : World) (R : Bool → World → Prop) (h : ip_IP_clash.B0 p i end0 more w R) : ip_IP_clash.Call p i end0 more w R := by
  have hc := calls_of_block (args := #[.pointer p, .int .i64 i, .int .i64 end0, .bool more]) Try.func57 (body := (Try.f57.body.getD .skip)) (by kernel_rfl) (by kernel_rfl) (args_slot _) (ip_IP_clash.B0_sound p i end0 more w h)
  exact hc.mono fun e w' he => by
    obtain ⟨v, rfl, hv⟩ := he
    exact ip_IP_clash.RV_elim hv
def ip_IP_lay.L1b (p : Option Addr) (i off : Int) (payload_b : Option Addr) (payload_l payload_c : Nat) (k : Int) (w : World)  (N1 : Option Addr → Int → Int → Option Addr → Nat → Nat → Int → World → Prop) (R : World → Prop) : Prop :=
  Bm (decide (k < ((payload_l : Nat) : Int))) (
    Pn payload_b fun a =>
    (0 ≤ k ∧ k < ((payload_l : Nat) : Int)) ∧
    LdI .u8 (Addr.add a (k.toNat * 1)) w.drew fun x23 =>
    Pn p fun a_1 =>
    (0 ≤ i ∧ i < ((3 : Nat) : Int)) ∧
    (0 ≤ (IntKind.i64.wrap (off + k)) ∧ (IntKind.i64.wrap (off + k)) < ((40 : Nat) : Int)) ∧
    Sts [.int .u8 x23] (Addr.add ((Addr.add (a_1.add 3) (i.toNat * 45)).add 5) ((IntKind.i64.wrap (off + k)).toNat * 1)) 0 w.drew fun w1 =>
    N1 p i off payload_b payload_l payload_c (IntKind.i64.wrap (k + (1 : Int))) w1) (
    Pn p fun a_2 =>
    (0 ≤ i ∧ i < ((3 : Nat) : Int)) ∧
    LdI .u64 ((Addr.add (a_2.add 3) (i.toNat * 45)).add 4) w.drew fun x35 =>
    Pn p fun a_3 =>
    ip_below.Call ((payload_l : Nat) : Int) w.drew fun r38 w2 =>
    w2.cell? ((Addr.add (a_2.add 3) (i.toNat * 45)).add 4) = some (.int .u64 x35) ∧
    0 ≤ (IntKind.u64.wrap off) ∧
    (0 ≤ i ∧ i < ((3 : Nat) : Int)) ∧
    Sts [.int .u64 (IntKind.u64.wrap (BitVec.ofInt IntKind.u64.bits x35 ||| BitVec.ofInt IntKind.u64.bits (IntKind.u64.wrap (r38 * 2 ^ (min (IntKind.u64.wrap off).toNat IntKind.u64.bits)))).toNat)] ((Addr.add (a_3.add 3) (i.toNat * 45)).add 4) 0 w2 fun w3 =>
    R  w3)
theorem ip_IP_lay.L1b_eq (p : Option Addr) (i off : Int) (payload_b : Option Addr) (payload_l payload_c : Nat) (k : Int) (w : World)  (N1 : Option Addr → Int → Int → Option Addr → Nat → Nat → Int → World → Prop) (R : World → Prop)  :
    (
  Bm (decide (k < ((payload_l : Nat) : Int))) (
    Pn payload_b fun a =>
    (0 ≤ k ∧ k < ((payload_l : Nat) : Int)) ∧
    LdI .u8 (Addr.add a (k.toNat * 1)) w.drew fun x23 =>
    Pn p fun a_1 =>
    (0 ≤ i ∧ i < ((3 : Nat) : Int)) ∧
    (0 ≤ (IntKind.i64.wrap (off + k)) ∧ (IntKind.i64.wrap (off + k)) < ((40 : Nat) : Int)) ∧
    Sts [.int .u8 x23] (Addr.add ((Addr.add (a_1.add 3) (i.toNat * 45)).add 5) ((IntKind.i64.wrap (off + k)).toNat * 1)) 0 w.drew fun w1 =>
    N1 p i off payload_b payload_l payload_c (IntKind.i64.wrap (k + (1 : Int))) w1) (
    Pn p fun a_2 =>
    (0 ≤ i ∧ i < ((3 : Nat) : Int)) ∧
    LdI .u64 ((Addr.add (a_2.add 3) (i.toNat * 45)).add 4) w.drew fun x35 =>
    Pn p fun a_3 =>
    ip_below.Call ((payload_l : Nat) : Int) w.drew fun r38 w2 =>
    w2.cell? ((Addr.add (a_2.add 3) (i.toNat * 45)).add 4) = some (.int .u64 x35) ∧
    0 ≤ (IntKind.u64.wrap off) ∧
    (0 ≤ i ∧ i < ((3 : Nat) : Int)) ∧
    Sts [.int .u64 (IntKind.u64.wrap (BitVec.ofInt IntKind.u64.bits x35 ||| BitVec.ofInt IntKind.u64.bits (IntKind.u64.wrap (r38 * 2 ^ (min (IntKind.u64.wrap off).toNat IntKind.u64.bits)))).toNat)] ((Addr.add (a_3.add 3) (i.toNat * 45)).add 4) 0 w2 fun w3 =>
    R  w3)) = kstep Try.prog 47 Try.f58.results.toList (Try.f58.body.getD .skip) (ip_IP_lay.RV R) (kvc Try.prog 47 Try.f58.results.toList (Try.f58.body.getD .skip) (ip_IP_lay.RV R) [([(0, [0, 1, 0, 0]), (2, [0, 1, 0, 0]), (1, [0]), (0, [1])], fun σ w => dP (slotOf σ 0) fun p_ => dI .i64 (slotOf σ 1) fun i_ => dI .i64 (slotOf σ 2) fun off_ => dL (slotOf σ 3) fun payload_b_ payload_l_ payload_c_ => dI .i64 (slotOf σ 8) fun k_ => N1 p_ i_ off_ payload_b_ payload_l_ payload_c_ k_ w)] 2000) [(0, [0, 1, 0, 0]), (2, [0, 1, 0, 0]), (1, [0]), (0, [1])] [(0, .pointer p), (1, .int .i64 i), (2, .int .i64 off), (3, .slice payload_b payload_l payload_c), (8, .int .i64 k)] w := by kernel_rfl
theorem ip_IP_lay.L1b_sound {R : World → Prop} {N1 : Option Addr → Int → Int → Option Addr → Nat → Nat → Int → World → Prop} (hN1 : ∀ p i off payload_b payload_l payload_c k w, N1 p i off payload_b payload_l payload_c k w → KW Try.prog 58 47 (ip_IP_lay.RV R) ([(0, [0, 1, 0, 0]), (2, [0, 1, 0, 0]), (1, [0]), (0, [1])].map (toItem (Try.f58.body.getD .skip))) [(0, .pointer p), (1, .int .i64 i), (2, .int .i64 off), (3, .slice payload_b payload_l payload_c), (8, .int .i64 k)] w) (p : Option Addr) (i off : Int) (payload_b : Option Addr) (payload_l payload_c : Nat) (k : Int) (w : World) (h : ip_IP_lay.L1b p i off payload_b payload_l payload_c k w  N1 R) :
    KW Try.prog 58 47 (ip_IP_lay.RV R) ([(0, [0, 1, 0, 0]), (2, [0, 1, 0, 0]), (1, [0]), (0, [1])].map (toItem (Try.f58.body.getD .skip))) [(0, .pointer p), (1, .int .i64 i), (2, .int .i64 off), (3, .slice payload_b payload_l payload_c), (8, .int .i64 k)] w := by
  exact block_spec Try.func58 Try.mixed (stops_cons (fun σ w h => by
      obtain ⟨p_, e0, h⟩ := dP_elim h
      obtain ⟨i_, e1, h⟩ := dI_elim h
      obtain ⟨off_, e2, h⟩ := dI_elim h
      obtain ⟨payload_b_, payload_l_, payload_c_, e3, h⟩ := dL_elim h
      obtain ⟨k_, e4, h⟩ := dI_elim h
      exact (hN1 p_ i_ off_ payload_b_ payload_l_ payload_c_ k_ w h).weaken (Sub.cons (Sub.cons (Sub.cons (Sub.cons (Sub.cons (Sub.nil _) e4) e3) e2) e1) e0)) stops_nil) (Eq.mp (ip_IP_lay.L1b_eq p i off payload_b payload_l payload_c k w  N1 R ) h)
def ip_IP_lay.L1 (p : Option Addr) (i off : Int) (payload_b : Option Addr) (payload_l payload_c : Nat) (k : Int) (w : World)  (R : World → Prop) : Prop :=
  ∃ (I : Nat → Option Addr → Int → Int → Option Addr → Nat → Nat → Int → World → Prop) (m : Nat), I m p i off payload_b payload_l payload_c k w ∧ ∀ m p i off payload_b payload_l payload_c k w, I m p i off payload_b payload_l payload_c k w → ip_IP_lay.L1b p i off payload_b payload_l payload_c k w  (fun p' i' off' payload_b' payload_l' payload_c' k' w' => ∃ m', m' < m ∧ I m' p' i' off' payload_b' payload_l' payload_c' k' w') R
theorem ip_IP_lay.L1_sound {R : World → Prop}  (p : Option Addr) (i off : Int) (payload_b : Option Addr) (payload_l payload_c : Nat) (k : Int) (w : World) (h : ip_IP_lay.L1 p i off payload_b payload_l payload_c k w  R) :
    KW Try.prog 58 47 (ip_IP_lay.RV R) ([(0, [0, 1, 0, 0]), (2, [0, 1, 0, 0]), (1, [0]), (0, [1])].map (toItem (Try.f58.body.getD .skip))) [(0, .pointer p), (1, .int .i64 i), (2, .int .i64 off), (3, .slice payload_b payload_l payload_c), (8, .int .i64 k)] w := by
  obtain ⟨I, m, h0, hr⟩ := h
  refine KW.loop (fun m σ w => ∃ (p : Option Addr) (i off : Int) (payload_b : Option Addr) (payload_l payload_c : Nat) (k : Int), σ = [(0, .pointer p), (1, .int .i64 i), (2, .int .i64 off), (3, .slice payload_b payload_l payload_c), (8, .int .i64 k)] ∧ I m p i off payload_b payload_l payload_c k w) ?_ m _ w ⟨p, i, off, payload_b, payload_l, payload_c, k, rfl, h0⟩
  rintro m ih σ w ⟨p, i, off, payload_b, payload_l, payload_c, k, rfl, hI⟩
  exact ip_IP_lay.L1b_sound  (N1 := fun p' i' off' payload_b' payload_l' payload_c' k' w' => ∃ m', m' < m ∧ I m' p' i' off' payload_b' payload_l' payload_c' k' w') (fun p' i' off' payload_b' payload_l' payload_c' k' w' hx => by obtain ⟨m', hlt, hI'⟩ := hx; exact ih m' hlt _ w' ⟨p', i', off', payload_b', payload_l', payload_c', k', rfl, hI'⟩) p i off payload_b payload_l payload_c k w (hr m p i off payload_b payload_l payload_c k w hI)
def ip_IP_lay.B0 (p : Option Addr) (i off : Int) (payload_b : Option Addr) (payload_l payload_c : Nat) (w : World)   (R : World → Prop) : Prop :=
  ip_IP_lay.L1 p i off payload_b payload_l payload_c (0 : Int) w  R
theorem ip_IP_lay.B0_eq (p : Option Addr) (i off : Int) (payload_b : Option Addr) (payload_l payload_c : Nat) (w : World)   (R : World → Prop) (sL1 : Option Addr → Int → Int → Option Addr → Nat → Nat → Int → World → Prop) :
    (
  sL1 p i off payload_b payload_l payload_c (0 : Int) w) = kstep Try.prog 47 Try.f58.results.toList (Try.f58.body.getD .skip) (ip_IP_lay.RV R) (kvc Try.prog 47 Try.f58.results.toList (Try.f58.body.getD .skip) (ip_IP_lay.RV R) [([(0, [0, 1, 0, 0]), (2, [0, 1, 0, 0]), (1, [0]), (0, [1])], fun σ w => dP (slotOf σ 0) fun p_ => dI .i64 (slotOf σ 1) fun i_ => dI .i64 (slotOf σ 2) fun off_ => dL (slotOf σ 3) fun payload_b_ payload_l_ payload_c_ => dI .i64 (slotOf σ 8) fun k_ => sL1 p_ i_ off_ payload_b_ payload_l_ payload_c_ k_ w)] 2000) [(0, [])] [(0, .pointer p), (1, .int .i64 i), (2, .int .i64 off), (3, .slice payload_b payload_l payload_c)] w := by kernel_rfl
theorem ip_IP_lay.B0_sound {R : World → Prop}  (p : Option Addr) (i off : Int) (payload_b : Option Addr) (payload_l payload_c : Nat) (w : World) (h : ip_IP_lay.B0 p i off payload_b payload_l payload_c w   R) :
    KW Try.prog 58 47 (ip_IP_lay.RV R) ([(0, [])].map (toItem (Try.f58.body.getD .skip))) [(0, .pointer p), (1, .int .i64 i), (2, .int .i64 off), (3, .slice payload_b payload_l payload_c)] w := by
  exact block_spec Try.func58 Try.mixed (stops_cons (fun σ w h => by
      obtain ⟨p_, e0, h⟩ := dP_elim h
      obtain ⟨i_, e1, h⟩ := dI_elim h
      obtain ⟨off_, e2, h⟩ := dI_elim h
      obtain ⟨payload_b_, payload_l_, payload_c_, e3, h⟩ := dL_elim h
      obtain ⟨k_, e4, h⟩ := dI_elim h
      exact (ip_IP_lay.L1_sound  p_ i_ off_ payload_b_ payload_l_ payload_c_ k_ w h).weaken (Sub.cons (Sub.cons (Sub.cons (Sub.cons (Sub.cons (Sub.nil _) e4) e3) e2) e1) e0)) stops_nil) (Eq.mp (ip_IP_lay.B0_eq p i off payload_b payload_l payload_c w   R (fun p_ i_ off_ payload_b_ payload_l_ payload_c_ k_ w => ip_IP_lay.L1 p_ i_ off_ payload_b_ payload_l_ payload_c_ k_ w  R)) h)
theorem ip_IP_lay.sound (p : Option Addr) (i off : Int) (payload_b : Option Addr) (payload_l payload_c : Nat) (w : World) (R : World → Prop) (h : ip_IP_lay.B0 p i off payload_b payload_l payload_c w R) : ip_IP_lay.Call p i off payload_b payload_l payload_c w R := by
  have hc := calls_of_block (args := #[.pointer p, .int .i64 i, .int .i64 off, .slice payload_b payload_l payload_c]) Try.func58 (body := (Try.f58.body.getD .skip)) (by kernel_rfl) (by kernel_rfl) (args_slot _) (ip_IP_lay.B0_sound p i off payload_b payload_l payload_c w h)
  exact hc.mono fun e w' he => by
    obtain ⟨v, rfl, hv⟩ := he
    exact ip_IP_lay.RV_elim hv
def ip_IP_whole.B0 (p : Option Addr) (i : Int) (w : World)   (R : Bool → World → Prop) : Prop :=
  Pn p fun a =>
  (0 ≤ i ∧ i < ((3 : Nat) : Int)) ∧
  LdI .i64 ((Addr.add (a.add 3) (i.toNat * 45)).add 3) w fun x13 =>
  Bm (decide (x13 < (0 : Int))) (
    R false w) (
    ip_below.Call x13 w fun r17 w1 =>
    Pn p fun a_1 =>
    (0 ≤ i ∧ i < ((3 : Nat) : Int)) ∧
    LdI .u64 ((Addr.add (a_1.add 3) (i.toNat * 45)).add 4) w1 fun x24 =>
    R ((IntKind.u64.wrap (BitVec.ofInt IntKind.u64.bits x24 &&& BitVec.ofInt IntKind.u64.bits r17).toNat) == r17) w1)
theorem ip_IP_whole.B0_eq (p : Option Addr) (i : Int) (w : World)   (R : Bool → World → Prop)  :
    (
  Pn p fun a =>
  (0 ≤ i ∧ i < ((3 : Nat) : Int)) ∧
  LdI .i64 ((Addr.add (a.add 3) (i.toNat * 45)).add 3) w fun x13 =>
  Bm (decide (x13 < (0 : Int))) (
    R false w) (
    ip_below.Call x13 w fun r17 w1 =>
    Pn p fun a_1 =>
    (0 ≤ i ∧ i < ((3 : Nat) : Int)) ∧
    LdI .u64 ((Addr.add (a_1.add 3) (i.toNat * 45)).add 4) w1 fun x24 =>
    R ((IntKind.u64.wrap (BitVec.ofInt IntKind.u64.bits x24 &&& BitVec.ofInt IntKind.u64.bits r17).toNat) == r17) w1)) = kstep Try.prog 29 Try.f59.results.toList (Try.f59.body.getD .skip) (ip_IP_whole.RV R) (kvc Try.prog 29 Try.f59.results.toList (Try.f59.body.getD .skip) (ip_IP_whole.RV R) [] 2000) [(0, [])] [(0, .pointer p), (1, .int .i64 i)] w := by kernel_rfl
theorem ip_IP_whole.B0_sound {R : Bool → World → Prop}  (p : Option Addr) (i : Int) (w : World) (h : ip_IP_whole.B0 p i w   R) :
    KW Try.prog 59 29 (ip_IP_whole.RV R) ([(0, [])].map (toItem (Try.f59.body.getD .skip))) [(0, .pointer p), (1, .int .i64 i)] w := by
  exact block_spec Try.func59 Try.mixed stops_nil (Eq.mp (ip_IP_whole.B0_eq p i w   R ) h)
theorem ip_IP_whole.sound (p : Option Addr) (i : Int) (w : World) (R : Bool → World → Prop) (h : ip_IP_whole.B0 p i w R) : ip_IP_whole.Call p i w R := by
  have hc := calls_of_block (args := #[.pointer p, .int .i64 i]) Try.func59 (body := (Try.f59.body.getD .skip)) (by kernel_rfl) (by kernel_rfl) (args_slot _) (ip_IP_whole.B0_sound p i w h)
  exact hc.mono fun e w' he => by
    obtain ⟨v, rfl, hv⟩ := he
    exact ip_IP_whole.RV_elim hv
def ipm_IP_find.B1 (p : Option Addr) (src proto id0 i : Int) (t52 : Bool) (w : World) (N1 : Option Addr → Int → Int → Int → Int → World → Prop)  (R : Int → World → Prop) : Prop :=
  Bm t52 (
    R i w) (
    N1 p src proto id0 (IntKind.i64.wrap (i + (1 : Int))) w)
theorem ipm_IP_find.B1_eq (p : Option Addr) (src proto id0 i : Int) (t52 : Bool) (w : World) (N1 : Option Addr → Int → Int → Int → Int → World → Prop)  (R : Int → World → Prop)  :
    (
  Bm t52 (
    R i w) (
    N1 p src proto id0 (IntKind.i64.wrap (i + (1 : Int))) w)) = kstep Try.prog 54 Try.f60.results.toList (Try.f60.body.getD .skip) (ipm_IP_find.RV R) (kvc Try.prog 54 Try.f60.results.toList (Try.f60.body.getD .skip) (ipm_IP_find.RV R) [([(0, [1, 0, 1, 0, 0]), (2, [1, 0, 1, 0, 0]), (1, [0]), (0, [1, 1])], fun σ w => dP (slotOf σ 0) fun p_ => dI .i64 (slotOf σ 1) fun src_ => dI .i64 (slotOf σ 2) fun proto_ => dI .i64 (slotOf σ 3) fun id0_ => dI .i64 (slotOf σ 9) fun i_ => N1 p_ src_ proto_ id0_ i_ w)] 2000) [(0, [1, 0, 1, 0, 0, 1, 0, 0, 1]), (1, [1]), (0, [1, 0, 1, 0, 0, 1, 1]), (2, [1, 0, 1, 0, 0]), (1, [0]), (0, [1, 1])] [(0, .pointer p), (1, .int .i64 src), (2, .int .i64 proto), (3, .int .i64 id0), (9, .int .i64 i), (52, .bool t52)] w := by kernel_rfl
theorem ipm_IP_find.B1_sound {R : Int → World → Prop} {N1 : Option Addr → Int → Int → Int → Int → World → Prop} (hN1 : ∀ p src proto id0 i w, N1 p src proto id0 i w → KW Try.prog 60 54 (ipm_IP_find.RV R) ([(0, [1, 0, 1, 0, 0]), (2, [1, 0, 1, 0, 0]), (1, [0]), (0, [1, 1])].map (toItem (Try.f60.body.getD .skip))) [(0, .pointer p), (1, .int .i64 src), (2, .int .i64 proto), (3, .int .i64 id0), (9, .int .i64 i)] w) (p : Option Addr) (src proto id0 i : Int) (t52 : Bool) (w : World) (h : ipm_IP_find.B1 p src proto id0 i t52 w N1  R) :
    KW Try.prog 60 54 (ipm_IP_find.RV R) ([(0, [1, 0, 1, 0, 0, 1, 0, 0, 1]), (1, [1]), (0, [1, 0, 1, 0, 0, 1, 1]), (2, [1, 0, 1, 0, 0]), (1, [0]), (0, [1, 1])].map (toItem (Try.f60.body.getD .skip))) [(0, .pointer p), (1, .int .i64 src), (2, .int .i64 proto), (3, .int .i64 id0), (9, .int .i64 i), (52, .bool t52)] w := by
  exact block_spec Try.func60 Try.mixed (stops_cons (fun σ w h => by
      obtain ⟨p_, e0, h⟩ := dP_elim h
      obtain ⟨src_, e1, h⟩ := dI_elim h
      obtain ⟨proto_, e2, h⟩ := dI_elim h
      obtain ⟨id0_, e3, h⟩ := dI_elim h
      obtain ⟨i_, e4, h⟩ := dI_elim h
      exact (hN1 p_ src_ proto_ id0_ i_ w h).weaken (Sub.cons (Sub.cons (Sub.cons (Sub.cons (Sub.cons (Sub.nil _) e4) e3) e2) e1) e0)) stops_nil) (Eq.mp (ipm_IP_find.B1_eq p src proto id0 i t52 w N1  R ) h)
def ipm_IP_find.L1b (p : Option Addr) (src proto id0 i : Int) (w : World)  (N1 : Option Addr → Int → Int → Int → Int → World → Prop) (R : Int → World → Prop) : Prop :=
  Pn p fun a =>
  LdL (a.add 3) w fun x14_b x14_l x14_c =>
  Bm (decide (i < ((x14_l : Nat) : Int))) (
    Pn p fun a_1 =>
    LdL (a_1.add 3) w fun x22_b x22_l x22_c =>
    Pn x22_b fun a_2 =>
    (0 ≤ i ∧ i < ((x22_l : Nat) : Int)) ∧
    LdI .i64 (Addr.add a_2 (i.toNat * 6)) w fun x26 =>
    Bm (x26 == src) (
      Pn p fun a_3 =>
      LdL (a_3.add 3) w fun x33_b x33_l x33_c =>
      Pn x33_b fun a_4 =>
      (0 ≤ i ∧ i < ((x33_l : Nat) : Int)) ∧
      LdI .i64 ((Addr.add a_4 (i.toNat * 6)).add 1) w fun x37 =>
      Bm (x37 == proto) (
        Pn p fun a_5 =>
        LdL (a_5.add 3) w fun x45_b x45_l x45_c =>
        Pn x45_b fun a_6 =>
        (0 ≤ i ∧ i < ((x45_l : Nat) : Int)) ∧
        LdI .i64 ((Addr.add a_6 (i.toNat * 6)).add 2) w fun x49 =>
        ipm_IP_find.B1 p src proto id0 i (x49 == id0) w N1 R) (
        ipm_IP_find.B1 p src proto id0 i false w N1 R)) (
      ipm_IP_find.B1 p src proto id0 i false w N1 R)) (
    R (-1 : Int) w)
theorem ipm_IP_find.L1b_eq (p : Option Addr) (src proto id0 i : Int) (w : World)  (N1 : Option Addr → Int → Int → Int → Int → World → Prop) (R : Int → World → Prop) (sB1 : Option Addr → Int → Int → Int → Int → Bool → World → Prop) :
    (
  Pn p fun a =>
  LdL (a.add 3) w fun x14_b x14_l x14_c =>
  Bm (decide (i < ((x14_l : Nat) : Int))) (
    Pn p fun a_1 =>
    LdL (a_1.add 3) w fun x22_b x22_l x22_c =>
    Pn x22_b fun a_2 =>
    (0 ≤ i ∧ i < ((x22_l : Nat) : Int)) ∧
    LdI .i64 (Addr.add a_2 (i.toNat * 6)) w fun x26 =>
    Bm (x26 == src) (
      Pn p fun a_3 =>
      LdL (a_3.add 3) w fun x33_b x33_l x33_c =>
      Pn x33_b fun a_4 =>
      (0 ≤ i ∧ i < ((x33_l : Nat) : Int)) ∧
      LdI .i64 ((Addr.add a_4 (i.toNat * 6)).add 1) w fun x37 =>
      Bm (x37 == proto) (
        Pn p fun a_5 =>
        LdL (a_5.add 3) w fun x45_b x45_l x45_c =>
        Pn x45_b fun a_6 =>
        (0 ≤ i ∧ i < ((x45_l : Nat) : Int)) ∧
        LdI .i64 ((Addr.add a_6 (i.toNat * 6)).add 2) w fun x49 =>
        sB1 p src proto id0 i (x49 == id0) w) (
        sB1 p src proto id0 i false w)) (
      sB1 p src proto id0 i false w)) (
    R (-1 : Int) w)) = kstep Try.prog 54 Try.f60.results.toList (Try.f60.body.getD .skip) (ipm_IP_find.RV R) (kvc Try.prog 54 Try.f60.results.toList (Try.f60.body.getD .skip) (ipm_IP_find.RV R) [([(0, [1, 0, 1, 0, 0, 1, 0, 0, 1]), (1, [1]), (0, [1, 0, 1, 0, 0, 1, 1]), (2, [1, 0, 1, 0, 0]), (1, [0]), (0, [1, 1])], fun σ w => dP (slotOf σ 0) fun p_ => dI .i64 (slotOf σ 1) fun src_ => dI .i64 (slotOf σ 2) fun proto_ => dI .i64 (slotOf σ 3) fun id0_ => dI .i64 (slotOf σ 9) fun i_ => dB (slotOf σ 52) fun t52_ => sB1 p_ src_ proto_ id0_ i_ t52_ w)] 2000) [(0, [1, 0, 1, 0, 0]), (2, [1, 0, 1, 0, 0]), (1, [0]), (0, [1, 1])] [(0, .pointer p), (1, .int .i64 src), (2, .int .i64 proto), (3, .int .i64 id0), (9, .int .i64 i)] w := by kernel_rfl
theorem ipm_IP_find.L1b_sound {R : Int → World → Prop} {N1 : Option Addr → Int → Int → Int → Int → World → Prop} (hN1 : ∀ p src proto id0 i w, N1 p src proto id0 i w → KW Try.prog 60 54 (ipm_IP_find.RV R) ([(0, [1, 0, 1, 0, 0]), (2, [1, 0, 1, 0, 0]), (1, [0]), (0, [1, 1])].map (toItem (Try.f60.body.getD .skip))) [(0, .pointer p), (1, .int .i64 src), (2, .int .i64 proto), (3, .int .i64 id0), (9, .int .i64 i)] w) (p : Option Addr) (src proto id0 i : Int) (w : World) (h : ipm_IP_find.L1b p src proto id0 i w  N1 R) :
    KW Try.prog 60 54 (ipm_IP_find.RV R) ([(0, [1, 0, 1, 0, 0]), (2, [1, 0, 1, 0, 0]), (1, [0]), (0, [1, 1])].map (toItem (Try.f60.body.getD .skip))) [(0, .pointer p), (1, .int .i64 src), (2, .int .i64 proto), (3, .int .i64 id0), (9, .int .i64 i)] w := by
  exact block_spec Try.func60 Try.mixed (stops_cons (fun σ w h => by
      obtain ⟨p_, e0, h⟩ := dP_elim h
      obtain ⟨src_, e1, h⟩ := dI_elim h
      obtain ⟨proto_, e2, h⟩ := dI_elim h
      obtain ⟨id0_, e3, h⟩ := dI_elim h
      obtain ⟨i_, e4, h⟩ := dI_elim h
      obtain ⟨t52_, e5, h⟩ := dB_elim h
      exact (ipm_IP_find.B1_sound hN1 p_ src_ proto_ id0_ i_ t52_ w h).weaken (Sub.cons (Sub.cons (Sub.cons (Sub.cons (Sub.cons (Sub.cons (Sub.nil _) e5) e4) e3) e2) e1) e0)) stops_nil) (Eq.mp (ipm_IP_find.L1b_eq p src proto id0 i w  N1 R (fun p_ src_ proto_ id0_ i_ t52_ w => ipm_IP_find.B1 p_ src_ proto_ id0_ i_ t52_ w N1 R)) h)
def ipm_IP_find.L1 (p : Option Addr) (src proto id0 i : Int) (w : World)  (R : Int → World → Prop) : Prop :=
  ∃ (I : Nat → Option Addr → Int → Int → Int → Int → World → Prop) (m : Nat), I m p src proto id0 i w ∧ ∀ m p src proto id0 i w, I m p src proto id0 i w → ipm_IP_find.L1b p src proto id0 i w  (fun p' src' proto' id0' i' w' => ∃ m', m' < m ∧ I m' p' src' proto' id0' i' w') R
theorem ipm_IP_find.L1_sound {R : Int → World → Prop}  (p : Option Addr) (src proto id0 i : Int) (w : World) (h : ipm_IP_find.L1 p src proto id0 i w  R) :
    KW Try.prog 60 54 (ipm_IP_find.RV R) ([(0, [1, 0, 1, 0, 0]), (2, [1, 0, 1, 0, 0]), (1, [0]), (0, [1, 1])].map (toItem (Try.f60.body.getD .skip))) [(0, .pointer p), (1, .int .i64 src), (2, .int .i64 proto), (3, .int .i64 id0), (9, .int .i64 i)] w := by
  obtain ⟨I, m, h0, hr⟩ := h
  refine KW.loop (fun m σ w => ∃ (p : Option Addr) (src proto id0 i : Int), σ = [(0, .pointer p), (1, .int .i64 src), (2, .int .i64 proto), (3, .int .i64 id0), (9, .int .i64 i)] ∧ I m p src proto id0 i w) ?_ m _ w ⟨p, src, proto, id0, i, rfl, h0⟩
  rintro m ih σ w ⟨p, src, proto, id0, i, rfl, hI⟩
  exact ipm_IP_find.L1b_sound  (N1 := fun p' src' proto' id0' i' w' => ∃ m', m' < m ∧ I m' p' src' proto' id0' i' w') (fun p' src' proto' id0' i' w' hx => by obtain ⟨m', hlt, hI'⟩ := hx; exact ih m' hlt _ w' ⟨p', src', proto', id0', i', rfl, hI'⟩) p src proto id0 i w (hr m p src proto id0 i w hI)
def ipm_IP_find.B0 (p : Option Addr) (src proto id0 : Int) (w : World)   (R : Int → World → Prop) : Prop :=
  ipm_IP_find.L1 p src proto id0 (0 : Int) w  R
theorem ipm_IP_find.B0_eq (p : Option Addr) (src proto id0 : Int) (w : World)   (R : Int → World → Prop) (sL1 : Option Addr → Int → Int → Int → Int → World → Prop) :
    (
  sL1 p src proto id0 (0 : Int) w) = kstep Try.prog 54 Try.f60.results.toList (Try.f60.body.getD .skip) (ipm_IP_find.RV R) (kvc Try.prog 54 Try.f60.results.toList (Try.f60.body.getD .skip) (ipm_IP_find.RV R) [([(0, [1, 0, 1, 0, 0]), (2, [1, 0, 1, 0, 0]), (1, [0]), (0, [1, 1])], fun σ w => dP (slotOf σ 0) fun p_ => dI .i64 (slotOf σ 1) fun src_ => dI .i64 (slotOf σ 2) fun proto_ => dI .i64 (slotOf σ 3) fun id0_ => dI .i64 (slotOf σ 9) fun i_ => sL1 p_ src_ proto_ id0_ i_ w)] 2000) [(0, [])] [(0, .pointer p), (1, .int .i64 src), (2, .int .i64 proto), (3, .int .i64 id0)] w := by kernel_rfl
theorem ipm_IP_find.B0_sound {R : Int → World → Prop}  (p : Option Addr) (src proto id0 : Int) (w : World) (h : ipm_IP_find.B0 p src proto id0 w   R) :
    KW Try.prog 60 54 (ipm_IP_find.RV R) ([(0, [])].map (toItem (Try.f60.body.getD .skip))) [(0, .pointer p), (1, .int .i64 src), (2, .int .i64 proto), (3, .int .i64 id0)] w := by
  exact block_spec Try.func60 Try.mixed (stops_cons (fun σ w h => by
      obtain ⟨p_, e0, h⟩ := dP_elim h
      obtain ⟨src_, e1, h⟩ := dI_elim h
      obtain ⟨proto_, e2, h⟩ := dI_elim h
      obtain ⟨id0_, e3, h⟩ := dI_elim h
      obtain ⟨i_, e4, h⟩ := dI_elim h
      exact (ipm_IP_find.L1_sound  p_ src_ proto_ id0_ i_ w h).weaken (Sub.cons (Sub.cons (Sub.cons (Sub.cons (Sub.cons (Sub.nil _) e4) e3) e2) e1) e0)) stops_nil) (Eq.mp (ipm_IP_find.B0_eq p src proto id0 w   R (fun p_ src_ proto_ id0_ i_ w => ipm_IP_find.L1 p_ src_ proto_ id0_ i_ w  R)) h)
theorem ipm_IP_find.sound (p : Option Addr) (src proto id0 : Int) (w : World) (R : Int → World → Prop) (h : ipm_IP_find.B0 p src proto id0 w R) : ipm_IP_find.Call p src proto id0 w R := by
  have hc := calls_of_block (args := #[.pointer p, .int .i64 src, .int .i64 proto, .int .i64 id0]) Try.func60 (body := (Try.f60.body.getD .skip)) (by kernel_rfl) (by kernel_rfl) (args_slot _) (ipm_IP_find.B0_sound p src proto id0 w h)
  exact hc.mono fun e w' he => by
    obtain ⟨v, rfl, hv⟩ := he
    exact ipm_IP_find.RV_elim hv
def ipm_IP_less.B0 (p : Option Addr) (i src proto id0 : Int) (w : World)   (R : Bool → World → Prop) : Prop :=
  Pn p fun a =>
  LdL (a.add 3) w fun x14_b x14_l x14_c =>
  Pn x14_b fun a_1 =>
  (0 ≤ i ∧ i < ((x14_l : Nat) : Int)) ∧
  LdI .i64 (Addr.add a_1 (i.toNat * 6)) w fun x18 =>
  Bm (x18 != src) (
    Pn p fun a_2 =>
    LdL (a_2.add 3) w fun x24_b x24_l x24_c =>
    Pn x24_b fun a_3 =>
    (0 ≤ i ∧ i < ((x24_l : Nat) : Int)) ∧
    LdI .i64 (Addr.add a_3 (i.toNat * 6)) w fun x28 =>
    R (decide (x28 < src)) w) (
    Pn p fun a_4 =>
    LdL (a_4.add 3) w fun x34_b x34_l x34_c =>
    Pn x34_b fun a_5 =>
    (0 ≤ i ∧ i < ((x34_l : Nat) : Int)) ∧
    LdI .i64 ((Addr.add a_5 (i.toNat * 6)).add 1) w fun x38 =>
    Bm (x38 != proto) (
      Pn p fun a_6 =>
      LdL (a_6.add 3) w fun x44_b x44_l x44_c =>
      Pn x44_b fun a_7 =>
      (0 ≤ i ∧ i < ((x44_l : Nat) : Int)) ∧
      LdI .i64 ((Addr.add a_7 (i.toNat * 6)).add 1) w fun x48 =>
      R (decide (x48 < proto)) w) (
      Pn p fun a_8 =>
      LdL (a_8.add 3) w fun x54_b x54_l x54_c =>
      Pn x54_b fun a_9 =>
      (0 ≤ i ∧ i < ((x54_l : Nat) : Int)) ∧
      LdI .i64 ((Addr.add a_9 (i.toNat * 6)).add 2) w fun x58 =>
      R (decide (x58 < id0)) w))
theorem ipm_IP_less.B0_eq (p : Option Addr) (i src proto id0 : Int) (w : World)   (R : Bool → World → Prop)  :
    (
  Pn p fun a =>
  LdL (a.add 3) w fun x14_b x14_l x14_c =>
  Pn x14_b fun a_1 =>
  (0 ≤ i ∧ i < ((x14_l : Nat) : Int)) ∧
  LdI .i64 (Addr.add a_1 (i.toNat * 6)) w fun x18 =>
  Bm (x18 != src) (
    Pn p fun a_2 =>
    LdL (a_2.add 3) w fun x24_b x24_l x24_c =>
    Pn x24_b fun a_3 =>
    (0 ≤ i ∧ i < ((x24_l : Nat) : Int)) ∧
    LdI .i64 (Addr.add a_3 (i.toNat * 6)) w fun x28 =>
    R (decide (x28 < src)) w) (
    Pn p fun a_4 =>
    LdL (a_4.add 3) w fun x34_b x34_l x34_c =>
    Pn x34_b fun a_5 =>
    (0 ≤ i ∧ i < ((x34_l : Nat) : Int)) ∧
    LdI .i64 ((Addr.add a_5 (i.toNat * 6)).add 1) w fun x38 =>
    Bm (x38 != proto) (
      Pn p fun a_6 =>
      LdL (a_6.add 3) w fun x44_b x44_l x44_c =>
      Pn x44_b fun a_7 =>
      (0 ≤ i ∧ i < ((x44_l : Nat) : Int)) ∧
      LdI .i64 ((Addr.add a_7 (i.toNat * 6)).add 1) w fun x48 =>
      R (decide (x48 < proto)) w) (
      Pn p fun a_8 =>
      LdL (a_8.add 3) w fun x54_b x54_l x54_c =>
      Pn x54_b fun a_9 =>
      (0 ≤ i ∧ i < ((x54_l : Nat) : Int)) ∧
      LdI .i64 ((Addr.add a_9 (i.toNat * 6)).add 2) w fun x58 =>
      R (decide (x58 < id0)) w))) = kstep Try.prog 61 Try.f61.results.toList (Try.f61.body.getD .skip) (ipm_IP_less.RV R) (kvc Try.prog 61 Try.f61.results.toList (Try.f61.body.getD .skip) (ipm_IP_less.RV R) [] 2000) [(0, [])] [(0, .pointer p), (1, .int .i64 i), (2, .int .i64 src), (3, .int .i64 proto), (4, .int .i64 id0)] w := by kernel_rfl
theorem ipm_IP_less.B0_sound {R : Bool → World → Prop}  (p : Option Addr) (i src proto id0 : Int) (w : World) (h : ipm_IP_less.B0 p i src proto id0 w   R) :
    KW Try.prog 61 61 (ipm_IP_less.RV R) ([(0, [])].map (toItem (Try.f61.body.getD .skip))) [(0, .pointer p), (1, .int .i64 i), (2, .int .i64 src), (3, .int .i64 proto), (4, .int .i64 id0)] w := by
  exact block_spec Try.func61 Try.mixed stops_nil (Eq.mp (ipm_IP_less.B0_eq p i src proto id0 w   R ) h)
theorem ipm_IP_less.sound (p : Option Addr) (i src proto id0 : Int) (w : World) (R : Bool → World → Prop) (h : ipm_IP_less.B0 p i src proto id0 w R) : ipm_IP_less.Call p i src proto id0 w R := by
  have hc := calls_of_block (args := #[.pointer p, .int .i64 i, .int .i64 src, .int .i64 proto, .int .i64 id0]) Try.func61 (body := (Try.f61.body.getD .skip)) (by kernel_rfl) (by kernel_rfl) (args_slot _) (ipm_IP_less.B0_sound p i src proto id0 w h)
  exact hc.mono fun e w' he => by
    obtain ⟨v, rfl, hv⟩ := he
    exact ipm_IP_less.RV_elim hv
end Go.Proofs.Qxb6500425a
