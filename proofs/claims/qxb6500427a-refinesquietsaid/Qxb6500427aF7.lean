import Derived.Test.Qxb6500427aSig
set_option maxRecDepth 100000
set_option linter.unusedVariables false
open Go.Vc
namespace Go.Proofs.Qxb6500427a
def sockm_Table_at.L1b (t : Option Addr) (sd i : Int) (w : World)  (N1 : Option Addr → Int → Int → World → Prop) (R : Int → World → Prop) : Prop :=
  Pn t fun a =>
  LdL a w fun x10_b x10_l x10_c =>
  Bm (decide (i < ((x10_l : Nat) : Int))) (
    Pn t fun a_1 =>
    LdL a_1 w fun x18_b x18_l x18_c =>
    Pn x18_b fun a_2 =>
    (0 ≤ i ∧ i < ((x18_l : Nat) : Int)) ∧
    LdI .i64 (Addr.add a_2 (i.toNat * 9)) w fun x23 =>
    Bm (x23 == sd) (
      R i w) (
      N1 t sd (IntKind.i64.wrap (i + (1 : Int))) w)) (
    R (-1 : Int) w)
theorem sockm_Table_at.L1b_eq (t : Option Addr) (sd i : Int) (w : World)  (N1 : Option Addr → Int → Int → World → Prop) (R : Int → World → Prop)  :
    (
  Pn t fun a =>
  LdL a w fun x10_b x10_l x10_c =>
  Bm (decide (i < ((x10_l : Nat) : Int))) (
    Pn t fun a_1 =>
    LdL a_1 w fun x18_b x18_l x18_c =>
    Pn x18_b fun a_2 =>
    (0 ≤ i ∧ i < ((x18_l : Nat) : Int)) ∧
    LdI .i64 (Addr.add a_2 (i.toNat * 9)) w fun x23 =>
    Bm (x23 == sd) (
      R i w) (
      N1 t sd (IntKind.i64.wrap (i + (1 : Int))) w)) (
    R (-1 : Int) w)) = kstep Try.prog 27 Try.f57.results.toList (Try.f57.body.getD .skip) (sockm_Table_at.RV R) (kvc Try.prog 27 Try.f57.results.toList (Try.f57.body.getD .skip) (sockm_Table_at.RV R) [([(0, [1, 0, 1, 0, 0]), (2, [1, 0, 1, 0, 0]), (1, [0]), (0, [1, 1])], fun σ w => dP (slotOf σ 0) fun t_ => dI .i64 (slotOf σ 1) fun sd_ => dI .i64 (slotOf σ 5) fun i_ => N1 t_ sd_ i_ w)] 2000) [(0, [1, 0, 1, 0, 0]), (2, [1, 0, 1, 0, 0]), (1, [0]), (0, [1, 1])] [(0, .pointer t), (1, .int .i64 sd), (5, .int .i64 i)] w := by kernel_rfl
theorem sockm_Table_at.L1b_sound {R : Int → World → Prop} {N1 : Option Addr → Int → Int → World → Prop} (hN1 : ∀ t sd i w, N1 t sd i w → KW Try.prog 57 27 (sockm_Table_at.RV R) ([(0, [1, 0, 1, 0, 0]), (2, [1, 0, 1, 0, 0]), (1, [0]), (0, [1, 1])].map (toItem (Try.f57.body.getD .skip))) [(0, .pointer t), (1, .int .i64 sd), (5, .int .i64 i)] w) (t : Option Addr) (sd i : Int) (w : World) (h : sockm_Table_at.L1b t sd i w  N1 R) :
    KW Try.prog 57 27 (sockm_Table_at.RV R) ([(0, [1, 0, 1, 0, 0]), (2, [1, 0, 1, 0, 0]), (1, [0]), (0, [1, 1])].map (toItem (Try.f57.body.getD .skip))) [(0, .pointer t), (1, .int .i64 sd), (5, .int .i64 i)] w := by
  exact block_spec Try.func57 Try.mixed (stops_cons (fun σ w h => by
      obtain ⟨t_, e0, h⟩ := dP_elim h
      obtain ⟨sd_, e1, h⟩ := dI_elim h
      obtain ⟨i_, e2, h⟩ := dI_elim h
      exact (hN1 t_ sd_ i_ w h).weaken (Sub.cons (Sub.cons (Sub.cons (Sub.nil _) e2) e1) e0)) stops_nil) (Eq.mp (sockm_Table_at.L1b_eq t sd i w  N1 R ) h)
def sockm_Table_at.L1 (t : Option Addr) (sd i : Int) (w : World)  (R : Int → World → Prop) : Prop :=
  ∃ (I : Nat → Option Addr → Int → Int → World → Prop) (m : Nat), I m t sd i w ∧ ∀ m t sd i w, I m t sd i w → sockm_Table_at.L1b t sd i w  (fun t' sd' i' w' => ∃ m', m' < m ∧ I m' t' sd' i' w') R
theorem sockm_Table_at.L1_sound {R : Int → World → Prop}  (t : Option Addr) (sd i : Int) (w : World) (h : sockm_Table_at.L1 t sd i w  R) :
    KW Try.prog 57 27 (sockm_Table_at.RV R) ([(0, [1, 0, 1, 0, 0]), (2, [1, 0, 1, 0, 0]), (1, [0]), (0, [1, 1])].map (toItem (Try.f57.body.getD .skip))) [(0, .pointer t), (1, .int .i64 sd), (5, .int .i64 i)] w := by
  obtain ⟨I, m, hBase, hr⟩ := h
  refine KW.loop (fun m σ w => ∃ (t : Option Addr) (sd i : Int), σ = [(0, .pointer t), (1, .int .i64 sd), (5, .int .i64 i)] ∧ I m t sd i w) ?_ m _ w ⟨t, sd, i, rfl, hBase⟩
  rintro m ih σ w ⟨t, sd, i, rfl, hI⟩
  exact sockm_Table_at.L1b_sound  (N1 := fun t' sd' i' w' => ∃ m', m' < m ∧ I m' t' sd' i' w') (fun t' sd' i' w' hx => by obtain ⟨m', hlt, hI'⟩ := hx; exact ih m' hlt _ w' ⟨t', sd', i', rfl, hI'⟩) t sd i w (hr m t sd i w hI)
def sockm_Table_at.B0 (t : Option Addr) (sd : Int) (w : World)   (R : Int → World → Prop) : Prop :=
  sockm_Table_at.L1 t sd (0 : Int) w  R
theorem sockm_Table_at.B0_eq (t : Option Addr) (sd : Int) (w : World)   (R : Int → World → Prop) (sL1 : Option Addr → Int → Int → World → Prop) :
    (
  sL1 t sd (0 : Int) w) = kstep Try.prog 27 Try.f57.results.toList (Try.f57.body.getD .skip) (sockm_Table_at.RV R) (kvc Try.prog 27 Try.f57.results.toList (Try.f57.body.getD .skip) (sockm_Table_at.RV R) [([(0, [1, 0, 1, 0, 0]), (2, [1, 0, 1, 0, 0]), (1, [0]), (0, [1, 1])], fun σ w => dP (slotOf σ 0) fun t_ => dI .i64 (slotOf σ 1) fun sd_ => dI .i64 (slotOf σ 5) fun i_ => sL1 t_ sd_ i_ w)] 2000) [(0, [])] [(0, .pointer t), (1, .int .i64 sd)] w := by kernel_rfl
theorem sockm_Table_at.B0_sound {R : Int → World → Prop}  (t : Option Addr) (sd : Int) (w : World) (h : sockm_Table_at.B0 t sd w   R) :
    KW Try.prog 57 27 (sockm_Table_at.RV R) ([(0, [])].map (toItem (Try.f57.body.getD .skip))) [(0, .pointer t), (1, .int .i64 sd)] w := by
  exact block_spec Try.func57 Try.mixed (stops_cons (fun σ w h => by
      obtain ⟨t_, e0, h⟩ := dP_elim h
      obtain ⟨sd_, e1, h⟩ := dI_elim h
      obtain ⟨i_, e2, h⟩ := dI_elim h
      exact (sockm_Table_at.L1_sound  t_ sd_ i_ w h).weaken (Sub.cons (Sub.cons (Sub.cons (Sub.nil _) e2) e1) e0)) stops_nil) (Eq.mp (sockm_Table_at.B0_eq t sd w   R (fun t_ sd_ i_ w => sockm_Table_at.L1 t_ sd_ i_ w  R)) h)
theorem sockm_Table_at.sound (t : Option Addr) (sd : Int) (w : World) (R : Int → World → Prop) (h : sockm_Table_at.B0 t sd w R) : sockm_Table_at.Call t sd w R := by
  have hc := calls_of_block (args := #[.pointer t, .int .i64 sd]) Try.func57 (body := (Try.f57.body.getD .skip)) (by kernel_rfl) (by kernel_rfl) (args_slot _) (sockm_Table_at.B0_sound t sd w h)
  exact hc.mono fun e w' he => by
    obtain ⟨v, rfl, hv⟩ := he
    exact sockm_Table_at.RV_elim hv
def sock_hash.B0 (lport rhost rport : Int) (w : World)   (R : Int → World → Prop) : Prop :=
  R (IntKind.i64.wrap (BitVec.ofInt IntKind.i64.bits (IntKind.i64.wrap (BitVec.ofInt IntKind.i64.bits (IntKind.i64.wrap (BitVec.ofInt IntKind.i64.bits lport ^^^ BitVec.ofInt IntKind.i64.bits rhost).toNat) ^^^ BitVec.ofInt IntKind.i64.bits rport).toNat) &&& BitVec.ofInt IntKind.i64.bits (3 : Int)).toNat) w
theorem sock_hash.B0_eq (lport rhost rport : Int) (w : World)   (R : Int → World → Prop)  :
    (
  R (IntKind.i64.wrap (BitVec.ofInt IntKind.i64.bits (IntKind.i64.wrap (BitVec.ofInt IntKind.i64.bits (IntKind.i64.wrap (BitVec.ofInt IntKind.i64.bits lport ^^^ BitVec.ofInt IntKind.i64.bits rhost).toNat) ^^^ BitVec.ofInt IntKind.i64.bits rport).toNat) &&& BitVec.ofInt IntKind.i64.bits (3 : Int)).toNat) w) = kstep Try.prog 13 Try.f58.results.toList (Try.f58.body.getD .skip) (sock_hash.RV R) (kvc Try.prog 13 Try.f58.results.toList (Try.f58.body.getD .skip) (sock_hash.RV R) [] 2000) [(0, [])] [(0, .int .i64 lport), (1, .int .i64 rhost), (2, .int .i64 rport)] w := by kernel_rfl
theorem sock_hash.B0_sound {R : Int → World → Prop}  (lport rhost rport : Int) (w : World) (h : sock_hash.B0 lport rhost rport w   R) :
    KW Try.prog 58 13 (sock_hash.RV R) ([(0, [])].map (toItem (Try.f58.body.getD .skip))) [(0, .int .i64 lport), (1, .int .i64 rhost), (2, .int .i64 rport)] w := by
  exact block_spec Try.func58 Try.mixed stops_nil (Eq.mp (sock_hash.B0_eq lport rhost rport w   R ) h)
theorem sock_hash.sound (lport rhost rport : Int) (w : World) (R : Int → World → Prop) (h : sock_hash.B0 lport rhost rport w R) : sock_hash.Call lport rhost rport w R := by
  have hc := calls_of_block (args := #[.int .i64 lport, .int .i64 rhost, .int .i64 rport]) Try.func58 (body := (Try.f58.body.getD .skip)) (by kernel_rfl) (by kernel_rfl) (args_slot _) (sock_hash.B0_sound lport rhost rport w h)
  exact hc.mono fun e w' he => by
    obtain ⟨v, rfl, hv⟩ := he
    exact sock_hash.RV_elim hv
def sock_Table_listenerRow.B1 (t : Option Addr) (lport : Int) (t10 : Bool) (w : World)   (R : Int → World → Prop) : Prop :=
  Bm t10 (
    R (-1 : Int) w) (
    Pn t fun a =>
    (0 ≤ lport ∧ lport < ((8 : Nat) : Int)) ∧
    LdI .i64 (Addr.add (a.add 95) (lport.toNat * 1)) w fun x16 =>
    R x16 w)
theorem sock_Table_listenerRow.B1_eq (t : Option Addr) (lport : Int) (t10 : Bool) (w : World)   (R : Int → World → Prop)  :
    (
  Bm t10 (
    R (-1 : Int) w) (
    Pn t fun a =>
    (0 ≤ lport ∧ lport < ((8 : Nat) : Int)) ∧
    LdI .i64 (Addr.add (a.add 95) (lport.toNat * 1)) w fun x16 =>
    R x16 w)) = kstep Try.prog 17 Try.f59.results.toList (Try.f59.body.getD .skip) (sock_Table_listenerRow.RV R) (kvc Try.prog 17 Try.f59.results.toList (Try.f59.body.getD .skip) (sock_Table_listenerRow.RV R) [] 2000) [(0, [1, 0, 1]), (0, [1, 1])] [(0, .pointer t), (1, .int .i64 lport), (10, .bool t10)] w := by kernel_rfl
theorem sock_Table_listenerRow.B1_sound {R : Int → World → Prop}  (t : Option Addr) (lport : Int) (t10 : Bool) (w : World) (h : sock_Table_listenerRow.B1 t lport t10 w   R) :
    KW Try.prog 59 17 (sock_Table_listenerRow.RV R) ([(0, [1, 0, 1]), (0, [1, 1])].map (toItem (Try.f59.body.getD .skip))) [(0, .pointer t), (1, .int .i64 lport), (10, .bool t10)] w := by
  exact block_spec Try.func59 Try.mixed stops_nil (Eq.mp (sock_Table_listenerRow.B1_eq t lport t10 w   R ) h)
def sock_Table_listenerRow.B0 (t : Option Addr) (lport : Int) (w : World)   (R : Int → World → Prop) : Prop :=
  Bm (decide (lport < (1 : Int))) (
    sock_Table_listenerRow.B1 t lport true w  R) (
    sock_Table_listenerRow.B1 t lport (decide (lport ≥ (8 : Int))) w  R)
theorem sock_Table_listenerRow.B0_eq (t : Option Addr) (lport : Int) (w : World)   (R : Int → World → Prop) (sB1 : Option Addr → Int → Bool → World → Prop) :
    (
  Bm (decide (lport < (1 : Int))) (
    sB1 t lport true w) (
    sB1 t lport (decide (lport ≥ (8 : Int))) w)) = kstep Try.prog 17 Try.f59.results.toList (Try.f59.body.getD .skip) (sock_Table_listenerRow.RV R) (kvc Try.prog 17 Try.f59.results.toList (Try.f59.body.getD .skip) (sock_Table_listenerRow.RV R) [([(0, [1, 0, 1]), (0, [1, 1])], fun σ w => dP (slotOf σ 0) fun t_ => dI .i64 (slotOf σ 1) fun lport_ => dB (slotOf σ 10) fun t10_ => sB1 t_ lport_ t10_ w)] 2000) [(0, [])] [(0, .pointer t), (1, .int .i64 lport)] w := by kernel_rfl
theorem sock_Table_listenerRow.B0_sound {R : Int → World → Prop}  (t : Option Addr) (lport : Int) (w : World) (h : sock_Table_listenerRow.B0 t lport w   R) :
    KW Try.prog 59 17 (sock_Table_listenerRow.RV R) ([(0, [])].map (toItem (Try.f59.body.getD .skip))) [(0, .pointer t), (1, .int .i64 lport)] w := by
  exact block_spec Try.func59 Try.mixed (stops_cons (fun σ w h => by
      obtain ⟨t_, e0, h⟩ := dP_elim h
      obtain ⟨lport_, e1, h⟩ := dI_elim h
      obtain ⟨t10_, e2, h⟩ := dB_elim h
      exact (sock_Table_listenerRow.B1_sound  t_ lport_ t10_ w h).weaken (Sub.cons (Sub.cons (Sub.cons (Sub.nil _) e2) e1) e0)) stops_nil) (Eq.mp (sock_Table_listenerRow.B0_eq t lport w   R (fun t_ lport_ t10_ w => sock_Table_listenerRow.B1 t_ lport_ t10_ w  R)) h)
theorem sock_Table_listenerRow.sound (t : Option Addr) (lport : Int) (w : World) (R : Int → World → Prop) (h : sock_Table_listenerRow.B0 t lport w R) : sock_Table_listenerRow.Call t lport w R := by
  have hc := calls_of_block (args := #[.pointer t, .int .i64 lport]) Try.func59 (body := (Try.f59.body.getD .skip)) (by kernel_rfl) (by kernel_rfl) (args_slot _) (sock_Table_listenerRow.B0_sound t lport w h)
  exact hc.mono fun e w' he => by
    obtain ⟨v, rfl, hv⟩ := he
    exact sock_Table_listenerRow.RV_elim hv
def sock_Table_find.B1 (t : Option Addr) (sd i : Int) (t28 : Bool) (w : World) (N1 : Option Addr → Int → Int → World → Prop)  (R : Int → World → Prop) : Prop :=
  Bm t28 (
    R i w) (
    N1 t sd (IntKind.i64.wrap (i + (1 : Int))) w)
theorem sock_Table_find.B1_eq (t : Option Addr) (sd i : Int) (t28 : Bool) (w : World) (N1 : Option Addr → Int → Int → World → Prop)  (R : Int → World → Prop)  :
    (
  Bm t28 (
    R i w) (
    N1 t sd (IntKind.i64.wrap (i + (1 : Int))) w)) = kstep Try.prog 30 Try.f60.results.toList (Try.f60.body.getD .skip) (sock_Table_find.RV R) (kvc Try.prog 30 Try.f60.results.toList (Try.f60.body.getD .skip) (sock_Table_find.RV R) [([(0, [1, 0, 1, 0, 0]), (2, [1, 0, 1, 0, 0]), (1, [0]), (0, [1, 1])], fun σ w => dP (slotOf σ 0) fun t_ => dI .i64 (slotOf σ 1) fun sd_ => dI .i64 (slotOf σ 5) fun i_ => N1 t_ sd_ i_ w)] 2000) [(0, [1, 0, 1, 0, 0, 1, 0, 0, 1]), (1, [1]), (0, [1, 0, 1, 0, 0, 1, 1]), (2, [1, 0, 1, 0, 0]), (1, [0]), (0, [1, 1])] [(0, .pointer t), (1, .int .i64 sd), (5, .int .i64 i), (28, .bool t28)] w := by kernel_rfl
theorem sock_Table_find.B1_sound {R : Int → World → Prop} {N1 : Option Addr → Int → Int → World → Prop} (hN1 : ∀ t sd i w, N1 t sd i w → KW Try.prog 60 30 (sock_Table_find.RV R) ([(0, [1, 0, 1, 0, 0]), (2, [1, 0, 1, 0, 0]), (1, [0]), (0, [1, 1])].map (toItem (Try.f60.body.getD .skip))) [(0, .pointer t), (1, .int .i64 sd), (5, .int .i64 i)] w) (t : Option Addr) (sd i : Int) (t28 : Bool) (w : World) (h : sock_Table_find.B1 t sd i t28 w N1  R) :
    KW Try.prog 60 30 (sock_Table_find.RV R) ([(0, [1, 0, 1, 0, 0, 1, 0, 0, 1]), (1, [1]), (0, [1, 0, 1, 0, 0, 1, 1]), (2, [1, 0, 1, 0, 0]), (1, [0]), (0, [1, 1])].map (toItem (Try.f60.body.getD .skip))) [(0, .pointer t), (1, .int .i64 sd), (5, .int .i64 i), (28, .bool t28)] w := by
  exact block_spec Try.func60 Try.mixed (stops_cons (fun σ w h => by
      obtain ⟨t_, e0, h⟩ := dP_elim h
      obtain ⟨sd_, e1, h⟩ := dI_elim h
      obtain ⟨i_, e2, h⟩ := dI_elim h
      exact (hN1 t_ sd_ i_ w h).weaken (Sub.cons (Sub.cons (Sub.cons (Sub.nil _) e2) e1) e0)) stops_nil) (Eq.mp (sock_Table_find.B1_eq t sd i t28 w N1  R ) h)
def sock_Table_find.L1b (t : Option Addr) (sd i : Int) (w : World)  (N1 : Option Addr → Int → Int → World → Prop) (R : Int → World → Prop) : Prop :=
  Bm (decide (i < (6 : Int))) (
    Pn t fun a =>
    (0 ≤ i ∧ i < ((6 : Nat) : Int)) ∧
    LdB (Addr.add a (i.toNat * 15)) w fun x16 =>
    Bm x16 (
      Pn t fun a_1 =>
      (0 ≤ i ∧ i < ((6 : Nat) : Int)) ∧
      LdI .i64 ((Addr.add a_1 (i.toNat * 15)).add 1) w fun x25 =>
      sock_Table_find.B1 t sd i (x25 == sd) w N1 R) (
      sock_Table_find.B1 t sd i false w N1 R)) (
    R (-1 : Int) w)
theorem sock_Table_find.L1b_eq (t : Option Addr) (sd i : Int) (w : World)  (N1 : Option Addr → Int → Int → World → Prop) (R : Int → World → Prop) (sB1 : Option Addr → Int → Int → Bool → World → Prop) :
    (
  Bm (decide (i < (6 : Int))) (
    Pn t fun a =>
    (0 ≤ i ∧ i < ((6 : Nat) : Int)) ∧
    LdB (Addr.add a (i.toNat * 15)) w fun x16 =>
    Bm x16 (
      Pn t fun a_1 =>
      (0 ≤ i ∧ i < ((6 : Nat) : Int)) ∧
      LdI .i64 ((Addr.add a_1 (i.toNat * 15)).add 1) w fun x25 =>
      sB1 t sd i (x25 == sd) w) (
      sB1 t sd i false w)) (
    R (-1 : Int) w)) = kstep Try.prog 30 Try.f60.results.toList (Try.f60.body.getD .skip) (sock_Table_find.RV R) (kvc Try.prog 30 Try.f60.results.toList (Try.f60.body.getD .skip) (sock_Table_find.RV R) [([(0, [1, 0, 1, 0, 0, 1, 0, 0, 1]), (1, [1]), (0, [1, 0, 1, 0, 0, 1, 1]), (2, [1, 0, 1, 0, 0]), (1, [0]), (0, [1, 1])], fun σ w => dP (slotOf σ 0) fun t_ => dI .i64 (slotOf σ 1) fun sd_ => dI .i64 (slotOf σ 5) fun i_ => dB (slotOf σ 28) fun t28_ => sB1 t_ sd_ i_ t28_ w)] 2000) [(0, [1, 0, 1, 0, 0]), (2, [1, 0, 1, 0, 0]), (1, [0]), (0, [1, 1])] [(0, .pointer t), (1, .int .i64 sd), (5, .int .i64 i)] w := by kernel_rfl
theorem sock_Table_find.L1b_sound {R : Int → World → Prop} {N1 : Option Addr → Int → Int → World → Prop} (hN1 : ∀ t sd i w, N1 t sd i w → KW Try.prog 60 30 (sock_Table_find.RV R) ([(0, [1, 0, 1, 0, 0]), (2, [1, 0, 1, 0, 0]), (1, [0]), (0, [1, 1])].map (toItem (Try.f60.body.getD .skip))) [(0, .pointer t), (1, .int .i64 sd), (5, .int .i64 i)] w) (t : Option Addr) (sd i : Int) (w : World) (h : sock_Table_find.L1b t sd i w  N1 R) :
    KW Try.prog 60 30 (sock_Table_find.RV R) ([(0, [1, 0, 1, 0, 0]), (2, [1, 0, 1, 0, 0]), (1, [0]), (0, [1, 1])].map (toItem (Try.f60.body.getD .skip))) [(0, .pointer t), (1, .int .i64 sd), (5, .int .i64 i)] w := by
  exact block_spec Try.func60 Try.mixed (stops_cons (fun σ w h => by
      obtain ⟨t_, e0, h⟩ := dP_elim h
      obtain ⟨sd_, e1, h⟩ := dI_elim h
      obtain ⟨i_, e2, h⟩ := dI_elim h
      obtain ⟨t28_, e3, h⟩ := dB_elim h
      exact (sock_Table_find.B1_sound hN1 t_ sd_ i_ t28_ w h).weaken (Sub.cons (Sub.cons (Sub.cons (Sub.cons (Sub.nil _) e3) e2) e1) e0)) stops_nil) (Eq.mp (sock_Table_find.L1b_eq t sd i w  N1 R (fun t_ sd_ i_ t28_ w => sock_Table_find.B1 t_ sd_ i_ t28_ w N1 R)) h)
def sock_Table_find.L1 (t : Option Addr) (sd i : Int) (w : World)  (R : Int → World → Prop) : Prop :=
  ∃ (I : Nat → Option Addr → Int → Int → World → Prop) (m : Nat), I m t sd i w ∧ ∀ m t sd i w, I m t sd i w → sock_Table_find.L1b t sd i w  (fun t' sd' i' w' => ∃ m', m' < m ∧ I m' t' sd' i' w') R
theorem sock_Table_find.L1_sound {R : Int → World → Prop}  (t : Option Addr) (sd i : Int) (w : World) (h : sock_Table_find.L1 t sd i w  R) :
    KW Try.prog 60 30 (sock_Table_find.RV R) ([(0, [1, 0, 1, 0, 0]), (2, [1, 0, 1, 0, 0]), (1, [0]), (0, [1, 1])].map (toItem (Try.f60.body.getD .skip))) [(0, .pointer t), (1, .int .i64 sd), (5, .int .i64 i)] w := by
  obtain ⟨I, m, hBase, hr⟩ := h
  refine KW.loop (fun m σ w => ∃ (t : Option Addr) (sd i : Int), σ = [(0, .pointer t), (1, .int .i64 sd), (5, .int .i64 i)] ∧ I m t sd i w) ?_ m _ w ⟨t, sd, i, rfl, hBase⟩
  rintro m ih σ w ⟨t, sd, i, rfl, hI⟩
  exact sock_Table_find.L1b_sound  (N1 := fun t' sd' i' w' => ∃ m', m' < m ∧ I m' t' sd' i' w') (fun t' sd' i' w' hx => by obtain ⟨m', hlt, hI'⟩ := hx; exact ih m' hlt _ w' ⟨t', sd', i', rfl, hI'⟩) t sd i w (hr m t sd i w hI)
def sock_Table_find.B0 (t : Option Addr) (sd : Int) (w : World)   (R : Int → World → Prop) : Prop :=
  sock_Table_find.L1 t sd (0 : Int) w  R
theorem sock_Table_find.B0_eq (t : Option Addr) (sd : Int) (w : World)   (R : Int → World → Prop) (sL1 : Option Addr → Int → Int → World → Prop) :
    (
  sL1 t sd (0 : Int) w) = kstep Try.prog 30 Try.f60.results.toList (Try.f60.body.getD .skip) (sock_Table_find.RV R) (kvc Try.prog 30 Try.f60.results.toList (Try.f60.body.getD .skip) (sock_Table_find.RV R) [([(0, [1, 0, 1, 0, 0]), (2, [1, 0, 1, 0, 0]), (1, [0]), (0, [1, 1])], fun σ w => dP (slotOf σ 0) fun t_ => dI .i64 (slotOf σ 1) fun sd_ => dI .i64 (slotOf σ 5) fun i_ => sL1 t_ sd_ i_ w)] 2000) [(0, [])] [(0, .pointer t), (1, .int .i64 sd)] w := by kernel_rfl
theorem sock_Table_find.B0_sound {R : Int → World → Prop}  (t : Option Addr) (sd : Int) (w : World) (h : sock_Table_find.B0 t sd w   R) :
    KW Try.prog 60 30 (sock_Table_find.RV R) ([(0, [])].map (toItem (Try.f60.body.getD .skip))) [(0, .pointer t), (1, .int .i64 sd)] w := by
  exact block_spec Try.func60 Try.mixed (stops_cons (fun σ w h => by
      obtain ⟨t_, e0, h⟩ := dP_elim h
      obtain ⟨sd_, e1, h⟩ := dI_elim h
      obtain ⟨i_, e2, h⟩ := dI_elim h
      exact (sock_Table_find.L1_sound  t_ sd_ i_ w h).weaken (Sub.cons (Sub.cons (Sub.cons (Sub.nil _) e2) e1) e0)) stops_nil) (Eq.mp (sock_Table_find.B0_eq t sd w   R (fun t_ sd_ i_ w => sock_Table_find.L1 t_ sd_ i_ w  R)) h)
theorem sock_Table_find.sound (t : Option Addr) (sd : Int) (w : World) (R : Int → World → Prop) (h : sock_Table_find.B0 t sd w R) : sock_Table_find.Call t sd w R := by
  have hc := calls_of_block (args := #[.pointer t, .int .i64 sd]) Try.func60 (body := (Try.f60.body.getD .skip)) (by kernel_rfl) (by kernel_rfl) (args_slot _) (sock_Table_find.B0_sound t sd w h)
  exact hc.mono fun e w' he => by
    obtain ⟨v, rfl, hv⟩ := he
    exact sock_Table_find.RV_elim hv
def sock_index.B0 (i : Int) (w : World)   (R : Bool → World → Prop) : Prop :=
  Bm (decide (i ≥ (-1 : Int))) (
    R (decide (i < (6 : Int))) w) (
    R false w)
theorem sock_index.B0_eq (i : Int) (w : World)   (R : Bool → World → Prop)  :
    (
  Bm (decide (i ≥ (-1 : Int))) (
    R (decide (i < (6 : Int))) w) (
    R false w)) = kstep Try.prog 9 Try.f61.results.toList (Try.f61.body.getD .skip) (sock_index.RV R) (kvc Try.prog 9 Try.f61.results.toList (Try.f61.body.getD .skip) (sock_index.RV R) [] 2000) [(0, [])] [(0, .int .i64 i)] w := by kernel_rfl
theorem sock_index.B0_sound {R : Bool → World → Prop}  (i : Int) (w : World) (h : sock_index.B0 i w   R) :
    KW Try.prog 61 9 (sock_index.RV R) ([(0, [])].map (toItem (Try.f61.body.getD .skip))) [(0, .int .i64 i)] w := by
  exact block_spec Try.func61 Try.mixed stops_nil (Eq.mp (sock_index.B0_eq i w   R ) h)
theorem sock_index.sound (i : Int) (w : World) (R : Bool → World → Prop) (h : sock_index.B0 i w R) : sock_index.Call i w R := by
  have hc := calls_of_block (args := #[.int .i64 i]) Try.func61 (body := (Try.f61.body.getD .skip)) (by kernel_rfl) (by kernel_rfl) (args_slot _) (sock_index.B0_sound i w h)
  exact hc.mono fun e w' he => by
    obtain ⟨v, rfl, hv⟩ := he
    exact sock_index.RV_elim hv
def sock_bitOf.B0 (s : Int) (w : World)   (R : Int → World → Prop) : Prop :=
  0 ≤ (IntKind.u64.wrap s) ∧
  R (IntKind.u8.wrap ((1 : Int) * 2 ^ (min (IntKind.u64.wrap s).toNat IntKind.u8.bits))) w
theorem sock_bitOf.B0_eq (s : Int) (w : World)   (R : Int → World → Prop)  :
    (
  0 ≤ (IntKind.u64.wrap s) ∧
  R (IntKind.u8.wrap ((1 : Int) * 2 ^ (min (IntKind.u64.wrap s).toNat IntKind.u8.bits))) w) = kstep Try.prog 6 Try.f62.results.toList (Try.f62.body.getD .skip) (sock_bitOf.RV R) (kvc Try.prog 6 Try.f62.results.toList (Try.f62.body.getD .skip) (sock_bitOf.RV R) [] 2000) [(0, [])] [(0, .int .i64 s)] w := by kernel_rfl
theorem sock_bitOf.B0_sound {R : Int → World → Prop}  (s : Int) (w : World) (h : sock_bitOf.B0 s w   R) :
    KW Try.prog 62 6 (sock_bitOf.RV R) ([(0, [])].map (toItem (Try.f62.body.getD .skip))) [(0, .int .i64 s)] w := by
  exact block_spec Try.func62 Try.mixed stops_nil (Eq.mp (sock_bitOf.B0_eq s w   R ) h)
theorem sock_bitOf.sound (s : Int) (w : World) (R : Int → World → Prop) (h : sock_bitOf.B0 s w R) : sock_bitOf.Call s w R := by
  have hc := calls_of_block (args := #[.int .i64 s]) Try.func62 (body := (Try.f62.body.getD .skip)) (by kernel_rfl) (by kernel_rfl) (args_slot _) (sock_bitOf.B0_sound s w h)
  exact hc.mono fun e w' he => by
    obtain ⟨v, rfl, hv⟩ := he
    exact sock_bitOf.RV_elim hv
def sock_Table_listenerFine.B4 (t : Option Addr) (r : Nat) (kids ready i : Int) (w : World) (N1 : Option Addr → Nat → Int → Int → Int → World → Prop)  (R : Bool → World → Prop) : Prop :=
  N1 t r kids ready (IntKind.i64.wrap (i + (1 : Int))) w
theorem sock_Table_listenerFine.B4_eq (t : Option Addr) (r : Nat) (kids ready i : Int) (w : World) (N1 : Option Addr → Nat → Int → Int → Int → World → Prop)  (R : Bool → World → Prop)  :
    (
  N1 t r kids ready (IntKind.i64.wrap (i + (1 : Int))) w) = kstep Try.prog 164 Try.f63.results.toList (Try.f63.body.getD .skip) (sock_Table_listenerFine.RV R) (kvc Try.prog 164 Try.f63.results.toList (Try.f63.body.getD .skip) (sock_Table_listenerFine.RV R) [([(0, [1, 1, 1, 0, 1, 0, 0]), (2, [1, 1, 1, 0, 1, 0, 0]), (1, [0]), (0, [1, 1, 1, 1])], fun σ w => dP (slotOf σ 0) fun t_ => dK (slotOf σ 3) fun r_ => dI .i64 (slotOf σ 5) fun kids_ => dI .i64 (slotOf σ 6) fun ready_ => dI .i64 (slotOf σ 7) fun i_ => N1 t_ r_ kids_ ready_ i_ w)] 2000) [(0, [1, 1, 1, 0, 1, 0, 0, 1, 1]), (2, [1, 1, 1, 0, 1, 0, 0]), (1, [0]), (0, [1, 1, 1, 1])] [(0, .pointer t), (3, .pointer (some ⟨r, 0, none⟩)), (5, .int .i64 kids), (6, .int .i64 ready), (7, .int .i64 i)] w := by kernel_rfl
theorem sock_Table_listenerFine.B4_sound {R : Bool → World → Prop} {N1 : Option Addr → Nat → Int → Int → Int → World → Prop} (hN1 : ∀ t r kids ready i w, N1 t r kids ready i w → KW Try.prog 63 164 (sock_Table_listenerFine.RV R) ([(0, [1, 1, 1, 0, 1, 0, 0]), (2, [1, 1, 1, 0, 1, 0, 0]), (1, [0]), (0, [1, 1, 1, 1])].map (toItem (Try.f63.body.getD .skip))) [(0, .pointer t), (3, .pointer (some ⟨r, 0, none⟩)), (5, .int .i64 kids), (6, .int .i64 ready), (7, .int .i64 i)] w) (t : Option Addr) (r : Nat) (kids ready i : Int) (w : World) (h : sock_Table_listenerFine.B4 t r kids ready i w N1  R) :
    KW Try.prog 63 164 (sock_Table_listenerFine.RV R) ([(0, [1, 1, 1, 0, 1, 0, 0, 1, 1]), (2, [1, 1, 1, 0, 1, 0, 0]), (1, [0]), (0, [1, 1, 1, 1])].map (toItem (Try.f63.body.getD .skip))) [(0, .pointer t), (3, .pointer (some ⟨r, 0, none⟩)), (5, .int .i64 kids), (6, .int .i64 ready), (7, .int .i64 i)] w := by
  exact block_spec Try.func63 Try.mixed (stops_cons (fun σ w h => by
      obtain ⟨t_, e0, h⟩ := dP_elim h
      obtain ⟨r_, e1, h⟩ := dK_elim h
      obtain ⟨kids_, e2, h⟩ := dI_elim h
      obtain ⟨ready_, e3, h⟩ := dI_elim h
      obtain ⟨i_, e4, h⟩ := dI_elim h
      exact (hN1 t_ r_ kids_ ready_ i_ w h).weaken (Sub.cons (Sub.cons (Sub.cons (Sub.cons (Sub.cons (Sub.nil _) e4) e3) e2) e1) e0)) stops_nil) (Eq.mp (sock_Table_listenerFine.B4_eq t r kids ready i w N1  R ) h)
def sock_Table_listenerFine.B2 (t : Option Addr) (r : Nat) (kids ready i : Int) (t68 : Bool) (w : World) (N1 : Option Addr → Nat → Int → Int → Int → World → Prop)  (R : Bool → World → Prop) : Prop :=
  Bm t68 (
    Pn t fun a =>
    (0 ≤ i ∧ i < ((6 : Nat) : Int)) ∧
    LdB (((Addr.add a (i.toNat * 15)).add 1).add 7) w fun x78 =>
    Bm x78 (
      sock_Table_listenerFine.B4 t r (IntKind.i64.wrap (kids + (1 : Int))) (IntKind.i64.wrap (ready + (1 : Int))) i w N1 R) (
      sock_Table_listenerFine.B4 t r (IntKind.i64.wrap (kids + (1 : Int))) ready i w N1 R)) (
    sock_Table_listenerFine.B4 t r kids ready i w N1 R)
theorem sock_Table_listenerFine.B2_eq (t : Option Addr) (r : Nat) (kids ready i : Int) (t68 : Bool) (w : World) (N1 : Option Addr → Nat → Int → Int → Int → World → Prop)  (R : Bool → World → Prop) (sB4 : Option Addr → Nat → Int → Int → Int → World → Prop) :
    (
  Bm t68 (
    Pn t fun a =>
    (0 ≤ i ∧ i < ((6 : Nat) : Int)) ∧
    LdB (((Addr.add a (i.toNat * 15)).add 1).add 7) w fun x78 =>
    Bm x78 (
      sB4 t r (IntKind.i64.wrap (kids + (1 : Int))) (IntKind.i64.wrap (ready + (1 : Int))) i w) (
      sB4 t r (IntKind.i64.wrap (kids + (1 : Int))) ready i w)) (
    sB4 t r kids ready i w)) = kstep Try.prog 164 Try.f63.results.toList (Try.f63.body.getD .skip) (sock_Table_listenerFine.RV R) (kvc Try.prog 164 Try.f63.results.toList (Try.f63.body.getD .skip) (sock_Table_listenerFine.RV R) [([(0, [1, 1, 1, 0, 1, 0, 0, 1, 1]), (2, [1, 1, 1, 0, 1, 0, 0]), (1, [0]), (0, [1, 1, 1, 1])], fun σ w => dP (slotOf σ 0) fun t_ => dK (slotOf σ 3) fun r_ => dI .i64 (slotOf σ 5) fun kids_ => dI .i64 (slotOf σ 6) fun ready_ => dI .i64 (slotOf σ 7) fun i_ => sB4 t_ r_ kids_ ready_ i_ w)] 2000) [(0, [1, 1, 1, 0, 1, 0, 0, 1, 0, 0, 1]), (1, [1]), (0, [1, 1, 1, 0, 1, 0, 0, 1, 1]), (2, [1, 1, 1, 0, 1, 0, 0]), (1, [0]), (0, [1, 1, 1, 1])] [(0, .pointer t), (3, .pointer (some ⟨r, 0, none⟩)), (5, .int .i64 kids), (6, .int .i64 ready), (7, .int .i64 i), (68, .bool t68)] w := by kernel_rfl
theorem sock_Table_listenerFine.B2_sound {R : Bool → World → Prop} {N1 : Option Addr → Nat → Int → Int → Int → World → Prop} (hN1 : ∀ t r kids ready i w, N1 t r kids ready i w → KW Try.prog 63 164 (sock_Table_listenerFine.RV R) ([(0, [1, 1, 1, 0, 1, 0, 0]), (2, [1, 1, 1, 0, 1, 0, 0]), (1, [0]), (0, [1, 1, 1, 1])].map (toItem (Try.f63.body.getD .skip))) [(0, .pointer t), (3, .pointer (some ⟨r, 0, none⟩)), (5, .int .i64 kids), (6, .int .i64 ready), (7, .int .i64 i)] w) (t : Option Addr) (r : Nat) (kids ready i : Int) (t68 : Bool) (w : World) (h : sock_Table_listenerFine.B2 t r kids ready i t68 w N1  R) :
    KW Try.prog 63 164 (sock_Table_listenerFine.RV R) ([(0, [1, 1, 1, 0, 1, 0, 0, 1, 0, 0, 1]), (1, [1]), (0, [1, 1, 1, 0, 1, 0, 0, 1, 1]), (2, [1, 1, 1, 0, 1, 0, 0]), (1, [0]), (0, [1, 1, 1, 1])].map (toItem (Try.f63.body.getD .skip))) [(0, .pointer t), (3, .pointer (some ⟨r, 0, none⟩)), (5, .int .i64 kids), (6, .int .i64 ready), (7, .int .i64 i), (68, .bool t68)] w := by
  exact block_spec Try.func63 Try.mixed (stops_cons (fun σ w h => by
      obtain ⟨t_, e0, h⟩ := dP_elim h
      obtain ⟨r_, e1, h⟩ := dK_elim h
      obtain ⟨kids_, e2, h⟩ := dI_elim h
      obtain ⟨ready_, e3, h⟩ := dI_elim h
      obtain ⟨i_, e4, h⟩ := dI_elim h
      exact (sock_Table_listenerFine.B4_sound hN1 t_ r_ kids_ ready_ i_ w h).weaken (Sub.cons (Sub.cons (Sub.cons (Sub.cons (Sub.cons (Sub.nil _) e4) e3) e2) e1) e0)) stops_nil) (Eq.mp (sock_Table_listenerFine.B2_eq t r kids ready i t68 w N1  R (fun t_ r_ kids_ ready_ i_ w => sock_Table_listenerFine.B4 t_ r_ kids_ ready_ i_ w N1 R)) h)
def sock_Table_listenerFine.L3b (t : Option Addr) (r : Nat) (k sd q : Int) (w : World) (N2 : Option Addr → Nat → Int → World → Prop) (N3 : Option Addr → Nat → Int → Int → Int → World → Prop) (R : Bool → World → Prop) : Prop :=
  Bm (decide (q < k)) (
    LdI .i64 ⟨r, 13, none⟩ w fun x155 =>
    sock_wrap.Call (IntKind.i64.wrap (x155 + q)) w fun r158 w1 =>
    (0 ≤ r158 ∧ r158 < ((2 : Nat) : Int)) ∧
    LdI .i64 (Addr.add ⟨r, 11, none⟩ (r158.toNat * 1)) w1 fun x161 =>
    Bm (x161 == sd) (
      R false w1) (
      N3 t r k sd (IntKind.i64.wrap (q + (1 : Int))) w1)) (
    N2 t r (IntKind.i64.wrap (k + (1 : Int))) w)
theorem sock_Table_listenerFine.L3b_eq (t : Option Addr) (r : Nat) (k sd q : Int) (w : World) (N2 : Option Addr → Nat → Int → World → Prop) (N3 : Option Addr → Nat → Int → Int → Int → World → Prop) (R : Bool → World → Prop)  :
    (
  Bm (decide (q < k)) (
    LdI .i64 ⟨r, 13, none⟩ w fun x155 =>
    sock_wrap.Call (IntKind.i64.wrap (x155 + q)) w fun r158 w1 =>
    (0 ≤ r158 ∧ r158 < ((2 : Nat) : Int)) ∧
    LdI .i64 (Addr.add ⟨r, 11, none⟩ (r158.toNat * 1)) w1 fun x161 =>
    Bm (x161 == sd) (
      R false w1) (
      N3 t r k sd (IntKind.i64.wrap (q + (1 : Int))) w1)) (
    N2 t r (IntKind.i64.wrap (k + (1 : Int))) w)) = kstep Try.prog 164 Try.f63.results.toList (Try.f63.body.getD .skip) (sock_Table_listenerFine.RV R) (kvc Try.prog 164 Try.f63.results.toList (Try.f63.body.getD .skip) (sock_Table_listenerFine.RV R) [([(0, [1, 1, 1, 1, 1, 0, 1, 0, 0, 1, 0, 0, 1, 1, 1, 1, 0, 0]), (2, [1, 1, 1, 1, 1, 0, 1, 0, 0, 1, 0, 0, 1, 1, 1, 1, 0, 0]), (1, [4]), (1, [3]), (0, [1, 1, 1, 1, 1, 0, 1, 0, 0, 1, 1]), (2, [1, 1, 1, 1, 1, 0, 1, 0, 0]), (1, [2]), (0, [1, 1, 1, 1, 1, 1])], fun σ w => dP (slotOf σ 0) fun t_ => dK (slotOf σ 3) fun r_ => dI .i64 (slotOf σ 8) fun k_ => dI .i64 (slotOf σ 9) fun sd_ => dI .i64 (slotOf σ 11) fun q_ => N3 t_ r_ k_ sd_ q_ w),
    ([(0, [1, 1, 1, 1, 1, 0, 1, 0, 0]), (2, [1, 1, 1, 1, 1, 0, 1, 0, 0]), (1, [2]), (0, [1, 1, 1, 1, 1, 1])], fun σ w => dP (slotOf σ 0) fun t_ => dK (slotOf σ 3) fun r_ => dI .i64 (slotOf σ 8) fun k_ => N2 t_ r_ k_ w)] 2000) [(0, [1, 1, 1, 1, 1, 0, 1, 0, 0, 1, 0, 0, 1, 1, 1, 1, 0, 0]), (2, [1, 1, 1, 1, 1, 0, 1, 0, 0, 1, 0, 0, 1, 1, 1, 1, 0, 0]), (1, [4]), (1, [3]), (0, [1, 1, 1, 1, 1, 0, 1, 0, 0, 1, 1]), (2, [1, 1, 1, 1, 1, 0, 1, 0, 0]), (1, [2]), (0, [1, 1, 1, 1, 1, 1])] [(0, .pointer t), (3, .pointer (some ⟨r, 0, none⟩)), (8, .int .i64 k), (9, .int .i64 sd), (11, .int .i64 q)] w := by kernel_rfl
theorem sock_Table_listenerFine.L3b_sound {R : Bool → World → Prop} {N2 : Option Addr → Nat → Int → World → Prop} (hN2 : ∀ t r k w, N2 t r k w → KW Try.prog 63 164 (sock_Table_listenerFine.RV R) ([(0, [1, 1, 1, 1, 1, 0, 1, 0, 0]), (2, [1, 1, 1, 1, 1, 0, 1, 0, 0]), (1, [2]), (0, [1, 1, 1, 1, 1, 1])].map (toItem (Try.f63.body.getD .skip))) [(0, .pointer t), (3, .pointer (some ⟨r, 0, none⟩)), (8, .int .i64 k)] w) {N3 : Option Addr → Nat → Int → Int → Int → World → Prop} (hN3 : ∀ t r k sd q w, N3 t r k sd q w → KW Try.prog 63 164 (sock_Table_listenerFine.RV R) ([(0, [1, 1, 1, 1, 1, 0, 1, 0, 0, 1, 0, 0, 1, 1, 1, 1, 0, 0]), (2, [1, 1, 1, 1, 1, 0, 1, 0, 0, 1, 0, 0, 1, 1, 1, 1, 0, 0]), (1, [4]), (1, [3]), (0, [1, 1, 1, 1, 1, 0, 1, 0, 0, 1, 1]), (2, [1, 1, 1, 1, 1, 0, 1, 0, 0]), (1, [2]), (0, [1, 1, 1, 1, 1, 1])].map (toItem (Try.f63.body.getD .skip))) [(0, .pointer t), (3, .pointer (some ⟨r, 0, none⟩)), (8, .int .i64 k), (9, .int .i64 sd), (11, .int .i64 q)] w) (t : Option Addr) (r : Nat) (k sd q : Int) (w : World) (h : sock_Table_listenerFine.L3b t r k sd q w N2 N3 R) :
    KW Try.prog 63 164 (sock_Table_listenerFine.RV R) ([(0, [1, 1, 1, 1, 1, 0, 1, 0, 0, 1, 0, 0, 1, 1, 1, 1, 0, 0]), (2, [1, 1, 1, 1, 1, 0, 1, 0, 0, 1, 0, 0, 1, 1, 1, 1, 0, 0]), (1, [4]), (1, [3]), (0, [1, 1, 1, 1, 1, 0, 1, 0, 0, 1, 1]), (2, [1, 1, 1, 1, 1, 0, 1, 0, 0]), (1, [2]), (0, [1, 1, 1, 1, 1, 1])].map (toItem (Try.f63.body.getD .skip))) [(0, .pointer t), (3, .pointer (some ⟨r, 0, none⟩)), (8, .int .i64 k), (9, .int .i64 sd), (11, .int .i64 q)] w := by
  exact block_spec Try.func63 Try.mixed (stops_cons (fun σ w h => by
      obtain ⟨t_, e0, h⟩ := dP_elim h
      obtain ⟨r_, e1, h⟩ := dK_elim h
      obtain ⟨k_, e2, h⟩ := dI_elim h
      obtain ⟨sd_, e3, h⟩ := dI_elim h
      obtain ⟨q_, e4, h⟩ := dI_elim h
      exact (hN3 t_ r_ k_ sd_ q_ w h).weaken (Sub.cons (Sub.cons (Sub.cons (Sub.cons (Sub.cons (Sub.nil _) e4) e3) e2) e1) e0)) (stops_cons (fun σ w h => by
      obtain ⟨t_, e0, h⟩ := dP_elim h
      obtain ⟨r_, e1, h⟩ := dK_elim h
      obtain ⟨k_, e2, h⟩ := dI_elim h
      exact (hN2 t_ r_ k_ w h).weaken (Sub.cons (Sub.cons (Sub.cons (Sub.nil _) e2) e1) e0)) stops_nil)) (Eq.mp (sock_Table_listenerFine.L3b_eq t r k sd q w N2 N3 R ) h)
def sock_Table_listenerFine.L3 (t : Option Addr) (r : Nat) (k sd q : Int) (w : World) (N2 : Option Addr → Nat → Int → World → Prop) (R : Bool → World → Prop) : Prop :=
  ∃ (I : Nat → Option Addr → Nat → Int → Int → Int → World → Prop) (m : Nat), I m t r k sd q w ∧ ∀ m t r k sd q w, I m t r k sd q w → sock_Table_listenerFine.L3b t r k sd q w N2 (fun t' r' k' sd' q' w' => ∃ m', m' < m ∧ I m' t' r' k' sd' q' w') R
theorem sock_Table_listenerFine.L3_sound {R : Bool → World → Prop} {N2 : Option Addr → Nat → Int → World → Prop} (hN2 : ∀ t r k w, N2 t r k w → KW Try.prog 63 164 (sock_Table_listenerFine.RV R) ([(0, [1, 1, 1, 1, 1, 0, 1, 0, 0]), (2, [1, 1, 1, 1, 1, 0, 1, 0, 0]), (1, [2]), (0, [1, 1, 1, 1, 1, 1])].map (toItem (Try.f63.body.getD .skip))) [(0, .pointer t), (3, .pointer (some ⟨r, 0, none⟩)), (8, .int .i64 k)] w) (t : Option Addr) (r : Nat) (k sd q : Int) (w : World) (h : sock_Table_listenerFine.L3 t r k sd q w N2 R) :
    KW Try.prog 63 164 (sock_Table_listenerFine.RV R) ([(0, [1, 1, 1, 1, 1, 0, 1, 0, 0, 1, 0, 0, 1, 1, 1, 1, 0, 0]), (2, [1, 1, 1, 1, 1, 0, 1, 0, 0, 1, 0, 0, 1, 1, 1, 1, 0, 0]), (1, [4]), (1, [3]), (0, [1, 1, 1, 1, 1, 0, 1, 0, 0, 1, 1]), (2, [1, 1, 1, 1, 1, 0, 1, 0, 0]), (1, [2]), (0, [1, 1, 1, 1, 1, 1])].map (toItem (Try.f63.body.getD .skip))) [(0, .pointer t), (3, .pointer (some ⟨r, 0, none⟩)), (8, .int .i64 k), (9, .int .i64 sd), (11, .int .i64 q)] w := by
  obtain ⟨I, m, hBase, hr⟩ := h
  refine KW.loop (fun m σ w => ∃ (t : Option Addr) (r : Nat) (k sd q : Int), σ = [(0, .pointer t), (3, .pointer (some ⟨r, 0, none⟩)), (8, .int .i64 k), (9, .int .i64 sd), (11, .int .i64 q)] ∧ I m t r k sd q w) ?_ m _ w ⟨t, r, k, sd, q, rfl, hBase⟩
  rintro m ih σ w ⟨t, r, k, sd, q, rfl, hI⟩
  exact sock_Table_listenerFine.L3b_sound hN2 (N3 := fun t' r' k' sd' q' w' => ∃ m', m' < m ∧ I m' t' r' k' sd' q' w') (fun t' r' k' sd' q' w' hx => by obtain ⟨m', hlt, hI'⟩ := hx; exact ih m' hlt _ w' ⟨t', r', k', sd', q', rfl, hI'⟩) t r k sd q w (hr m t r k sd q w hI)
def sock_Table_listenerFine.B5 (t : Option Addr) (r : Nat) (k sd : Int) (t148 : Bool) (w : World) (N2 : Option Addr → Nat → Int → World → Prop)  (R : Bool → World → Prop) : Prop :=
  Bm t148 (
    R false w) (
    sock_Table_listenerFine.L3 t r k sd (0 : Int) w N2 R)
theorem sock_Table_listenerFine.B5_eq (t : Option Addr) (r : Nat) (k sd : Int) (t148 : Bool) (w : World) (N2 : Option Addr → Nat → Int → World → Prop)  (R : Bool → World → Prop) (sL3 : Option Addr → Nat → Int → Int → Int → World → Prop) :
    (
  Bm t148 (
    R false w) (
    sL3 t r k sd (0 : Int) w)) = kstep Try.prog 164 Try.f63.results.toList (Try.f63.body.getD .skip) (sock_Table_listenerFine.RV R) (kvc Try.prog 164 Try.f63.results.toList (Try.f63.body.getD .skip) (sock_Table_listenerFine.RV R) [([(0, [1, 1, 1, 1, 1, 0, 1, 0, 0, 1, 0, 0, 1, 1, 1, 1, 0, 0]), (2, [1, 1, 1, 1, 1, 0, 1, 0, 0, 1, 0, 0, 1, 1, 1, 1, 0, 0]), (1, [4]), (1, [3]), (0, [1, 1, 1, 1, 1, 0, 1, 0, 0, 1, 1]), (2, [1, 1, 1, 1, 1, 0, 1, 0, 0]), (1, [2]), (0, [1, 1, 1, 1, 1, 1])], fun σ w => dP (slotOf σ 0) fun t_ => dK (slotOf σ 3) fun r_ => dI .i64 (slotOf σ 8) fun k_ => dI .i64 (slotOf σ 9) fun sd_ => dI .i64 (slotOf σ 11) fun q_ => sL3 t_ r_ k_ sd_ q_ w)] 2000) [(0, [1, 1, 1, 1, 1, 0, 1, 0, 0, 1, 0, 0, 1, 1, 0, 1]), (0, [1, 1, 1, 1, 1, 0, 1, 0, 0, 1, 0, 0, 1, 1, 1]), (1, [3]), (0, [1, 1, 1, 1, 1, 0, 1, 0, 0, 1, 1]), (2, [1, 1, 1, 1, 1, 0, 1, 0, 0]), (1, [2]), (0, [1, 1, 1, 1, 1, 1])] [(0, .pointer t), (3, .pointer (some ⟨r, 0, none⟩)), (8, .int .i64 k), (9, .int .i64 sd), (148, .bool t148)] w := by kernel_rfl
theorem sock_Table_listenerFine.B5_sound {R : Bool → World → Prop} {N2 : Option Addr → Nat → Int → World → Prop} (hN2 : ∀ t r k w, N2 t r k w → KW Try.prog 63 164 (sock_Table_listenerFine.RV R) ([(0, [1, 1, 1, 1, 1, 0, 1, 0, 0]), (2, [1, 1, 1, 1, 1, 0, 1, 0, 0]), (1, [2]), (0, [1, 1, 1, 1, 1, 1])].map (toItem (Try.f63.body.getD .skip))) [(0, .pointer t), (3, .pointer (some ⟨r, 0, none⟩)), (8, .int .i64 k)] w) (t : Option Addr) (r : Nat) (k sd : Int) (t148 : Bool) (w : World) (h : sock_Table_listenerFine.B5 t r k sd t148 w N2  R) :
    KW Try.prog 63 164 (sock_Table_listenerFine.RV R) ([(0, [1, 1, 1, 1, 1, 0, 1, 0, 0, 1, 0, 0, 1, 1, 0, 1]), (0, [1, 1, 1, 1, 1, 0, 1, 0, 0, 1, 0, 0, 1, 1, 1]), (1, [3]), (0, [1, 1, 1, 1, 1, 0, 1, 0, 0, 1, 1]), (2, [1, 1, 1, 1, 1, 0, 1, 0, 0]), (1, [2]), (0, [1, 1, 1, 1, 1, 1])].map (toItem (Try.f63.body.getD .skip))) [(0, .pointer t), (3, .pointer (some ⟨r, 0, none⟩)), (8, .int .i64 k), (9, .int .i64 sd), (148, .bool t148)] w := by
  exact block_spec Try.func63 Try.mixed (stops_cons (fun σ w h => by
      obtain ⟨t_, e0, h⟩ := dP_elim h
      obtain ⟨r_, e1, h⟩ := dK_elim h
      obtain ⟨k_, e2, h⟩ := dI_elim h
      obtain ⟨sd_, e3, h⟩ := dI_elim h
      obtain ⟨q_, e4, h⟩ := dI_elim h
      exact (sock_Table_listenerFine.L3_sound hN2 t_ r_ k_ sd_ q_ w h).weaken (Sub.cons (Sub.cons (Sub.cons (Sub.cons (Sub.cons (Sub.nil _) e4) e3) e2) e1) e0)) stops_nil) (Eq.mp (sock_Table_listenerFine.B5_eq t r k sd t148 w N2  R (fun t_ r_ k_ sd_ q_ w => sock_Table_listenerFine.L3 t_ r_ k_ sd_ q_ w N2 R)) h)
def sock_Table_listenerFine.L2b (t : Option Addr) (r : Nat) (k : Int) (w : World)  (N2 : Option Addr → Nat → Int → World → Prop) (R : Bool → World → Prop) : Prop :=
  LdI .i64 ⟨r, 14, none⟩ w fun x107 =>
  Bm (decide (k < x107)) (
    LdI .i64 ⟨r, 13, none⟩ w fun x112 =>
    sock_wrap.Call (IntKind.i64.wrap (x112 + k)) w fun r115 w1 =>
    (0 ≤ r115 ∧ r115 < ((2 : Nat) : Int)) ∧
    LdI .i64 (Addr.add ⟨r, 11, none⟩ (r115.toNat * 1)) w1 fun x118 =>
    sock_Table_find.Call t x118 w1 fun r121 w2 =>
    Bm (r121 == (-1 : Int)) (
      sock_Table_listenerFine.B5 t r k x118 true w2.drew N2 R) (
      Pn t fun a =>
      (0 ≤ r121 ∧ r121 < ((6 : Nat) : Int)) ∧
      LdI .i64 (((Addr.add a (r121.toNat * 15)).add 1).add 6) w2.drew fun x132 =>
      LdI .i64 ⟨r, 1, none⟩ w2.drew fun x135 =>
      Bm (x132 != x135) (
        sock_Table_listenerFine.B5 t r k x118 true w2.drew N2 R) (
        Pn t fun a_1 =>
        (0 ≤ r121 ∧ r121 < ((6 : Nat) : Int)) ∧
        LdB (((Addr.add a_1 (r121.toNat * 15)).add 1).add 7) w2.drew fun x146 =>
        sock_Table_listenerFine.B5 t r k x118 (!x146) w2.drew N2 R))) (
    R true w)
theorem sock_Table_listenerFine.L2b_eq (t : Option Addr) (r : Nat) (k : Int) (w : World)  (N2 : Option Addr → Nat → Int → World → Prop) (R : Bool → World → Prop) (sB5 : Option Addr → Nat → Int → Int → Bool → World → Prop) :
    (
  LdI .i64 ⟨r, 14, none⟩ w fun x107 =>
  Bm (decide (k < x107)) (
    LdI .i64 ⟨r, 13, none⟩ w fun x112 =>
    sock_wrap.Call (IntKind.i64.wrap (x112 + k)) w fun r115 w1 =>
    (0 ≤ r115 ∧ r115 < ((2 : Nat) : Int)) ∧
    LdI .i64 (Addr.add ⟨r, 11, none⟩ (r115.toNat * 1)) w1 fun x118 =>
    sock_Table_find.Call t x118 w1 fun r121 w2 =>
    Bm (r121 == (-1 : Int)) (
      sB5 t r k x118 true w2.drew) (
      Pn t fun a =>
      (0 ≤ r121 ∧ r121 < ((6 : Nat) : Int)) ∧
      LdI .i64 (((Addr.add a (r121.toNat * 15)).add 1).add 6) w2.drew fun x132 =>
      LdI .i64 ⟨r, 1, none⟩ w2.drew fun x135 =>
      Bm (x132 != x135) (
        sB5 t r k x118 true w2.drew) (
        Pn t fun a_1 =>
        (0 ≤ r121 ∧ r121 < ((6 : Nat) : Int)) ∧
        LdB (((Addr.add a_1 (r121.toNat * 15)).add 1).add 7) w2.drew fun x146 =>
        sB5 t r k x118 (!x146) w2.drew))) (
    R true w)) = kstep Try.prog 164 Try.f63.results.toList (Try.f63.body.getD .skip) (sock_Table_listenerFine.RV R) (kvc Try.prog 164 Try.f63.results.toList (Try.f63.body.getD .skip) (sock_Table_listenerFine.RV R) [([(0, [1, 1, 1, 1, 1, 0, 1, 0, 0, 1, 0, 0, 1, 1, 0, 1]), (0, [1, 1, 1, 1, 1, 0, 1, 0, 0, 1, 0, 0, 1, 1, 1]), (1, [3]), (0, [1, 1, 1, 1, 1, 0, 1, 0, 0, 1, 1]), (2, [1, 1, 1, 1, 1, 0, 1, 0, 0]), (1, [2]), (0, [1, 1, 1, 1, 1, 1])], fun σ w => dP (slotOf σ 0) fun t_ => dK (slotOf σ 3) fun r_ => dI .i64 (slotOf σ 8) fun k_ => dI .i64 (slotOf σ 9) fun sd_ => dB (slotOf σ 148) fun t148_ => sB5 t_ r_ k_ sd_ t148_ w)] 2000) [(0, [1, 1, 1, 1, 1, 0, 1, 0, 0]), (2, [1, 1, 1, 1, 1, 0, 1, 0, 0]), (1, [2]), (0, [1, 1, 1, 1, 1, 1])] [(0, .pointer t), (3, .pointer (some ⟨r, 0, none⟩)), (8, .int .i64 k)] w := by kernel_rfl
theorem sock_Table_listenerFine.L2b_sound {R : Bool → World → Prop} {N2 : Option Addr → Nat → Int → World → Prop} (hN2 : ∀ t r k w, N2 t r k w → KW Try.prog 63 164 (sock_Table_listenerFine.RV R) ([(0, [1, 1, 1, 1, 1, 0, 1, 0, 0]), (2, [1, 1, 1, 1, 1, 0, 1, 0, 0]), (1, [2]), (0, [1, 1, 1, 1, 1, 1])].map (toItem (Try.f63.body.getD .skip))) [(0, .pointer t), (3, .pointer (some ⟨r, 0, none⟩)), (8, .int .i64 k)] w) (t : Option Addr) (r : Nat) (k : Int) (w : World) (h : sock_Table_listenerFine.L2b t r k w  N2 R) :
    KW Try.prog 63 164 (sock_Table_listenerFine.RV R) ([(0, [1, 1, 1, 1, 1, 0, 1, 0, 0]), (2, [1, 1, 1, 1, 1, 0, 1, 0, 0]), (1, [2]), (0, [1, 1, 1, 1, 1, 1])].map (toItem (Try.f63.body.getD .skip))) [(0, .pointer t), (3, .pointer (some ⟨r, 0, none⟩)), (8, .int .i64 k)] w := by
  exact block_spec Try.func63 Try.mixed (stops_cons (fun σ w h => by
      obtain ⟨t_, e0, h⟩ := dP_elim h
      obtain ⟨r_, e1, h⟩ := dK_elim h
      obtain ⟨k_, e2, h⟩ := dI_elim h
      obtain ⟨sd_, e3, h⟩ := dI_elim h
      obtain ⟨t148_, e4, h⟩ := dB_elim h
      exact (sock_Table_listenerFine.B5_sound hN2 t_ r_ k_ sd_ t148_ w h).weaken (Sub.cons (Sub.cons (Sub.cons (Sub.cons (Sub.cons (Sub.nil _) e4) e3) e2) e1) e0)) stops_nil) (Eq.mp (sock_Table_listenerFine.L2b_eq t r k w  N2 R (fun t_ r_ k_ sd_ t148_ w => sock_Table_listenerFine.B5 t_ r_ k_ sd_ t148_ w N2 R)) h)
def sock_Table_listenerFine.L2 (t : Option Addr) (r : Nat) (k : Int) (w : World)  (R : Bool → World → Prop) : Prop :=
  ∃ (I : Nat → Option Addr → Nat → Int → World → Prop) (m : Nat), I m t r k w ∧ ∀ m t r k w, I m t r k w → sock_Table_listenerFine.L2b t r k w  (fun t' r' k' w' => ∃ m', m' < m ∧ I m' t' r' k' w') R
theorem sock_Table_listenerFine.L2_sound {R : Bool → World → Prop}  (t : Option Addr) (r : Nat) (k : Int) (w : World) (h : sock_Table_listenerFine.L2 t r k w  R) :
    KW Try.prog 63 164 (sock_Table_listenerFine.RV R) ([(0, [1, 1, 1, 1, 1, 0, 1, 0, 0]), (2, [1, 1, 1, 1, 1, 0, 1, 0, 0]), (1, [2]), (0, [1, 1, 1, 1, 1, 1])].map (toItem (Try.f63.body.getD .skip))) [(0, .pointer t), (3, .pointer (some ⟨r, 0, none⟩)), (8, .int .i64 k)] w := by
  obtain ⟨I, m, hBase, hr⟩ := h
  refine KW.loop (fun m σ w => ∃ (t : Option Addr) (r : Nat) (k : Int), σ = [(0, .pointer t), (3, .pointer (some ⟨r, 0, none⟩)), (8, .int .i64 k)] ∧ I m t r k w) ?_ m _ w ⟨t, r, k, rfl, hBase⟩
  rintro m ih σ w ⟨t, r, k, rfl, hI⟩
  exact sock_Table_listenerFine.L2b_sound  (N2 := fun t' r' k' w' => ∃ m', m' < m ∧ I m' t' r' k' w') (fun t' r' k' w' hx => by obtain ⟨m', hlt, hI'⟩ := hx; exact ih m' hlt _ w' ⟨t', r', k', rfl, hI'⟩) t r k w (hr m t r k w hI)
def sock_Table_listenerFine.B3 (t : Option Addr) (r : Nat) (t104 : Bool) (w : World)   (R : Bool → World → Prop) : Prop :=
  Bm t104 (
    R false w) (
    sock_Table_listenerFine.L2 t r (0 : Int) w  R)
theorem sock_Table_listenerFine.B3_eq (t : Option Addr) (r : Nat) (t104 : Bool) (w : World)   (R : Bool → World → Prop) (sL2 : Option Addr → Nat → Int → World → Prop) :
    (
  Bm t104 (
    R false w) (
    sL2 t r (0 : Int) w)) = kstep Try.prog 164 Try.f63.results.toList (Try.f63.body.getD .skip) (sock_Table_listenerFine.RV R) (kvc Try.prog 164 Try.f63.results.toList (Try.f63.body.getD .skip) (sock_Table_listenerFine.RV R) [([(0, [1, 1, 1, 1, 1, 0, 1, 0, 0]), (2, [1, 1, 1, 1, 1, 0, 1, 0, 0]), (1, [2]), (0, [1, 1, 1, 1, 1, 1])], fun σ w => dP (slotOf σ 0) fun t_ => dK (slotOf σ 3) fun r_ => dI .i64 (slotOf σ 8) fun k_ => sL2 t_ r_ k_ w)] 2000) [(0, [1, 1, 1, 1, 0, 1]), (0, [1, 1, 1, 1, 1])] [(0, .pointer t), (3, .pointer (some ⟨r, 0, none⟩)), (104, .bool t104)] w := by kernel_rfl
theorem sock_Table_listenerFine.B3_sound {R : Bool → World → Prop}  (t : Option Addr) (r : Nat) (t104 : Bool) (w : World) (h : sock_Table_listenerFine.B3 t r t104 w   R) :
    KW Try.prog 63 164 (sock_Table_listenerFine.RV R) ([(0, [1, 1, 1, 1, 0, 1]), (0, [1, 1, 1, 1, 1])].map (toItem (Try.f63.body.getD .skip))) [(0, .pointer t), (3, .pointer (some ⟨r, 0, none⟩)), (104, .bool t104)] w := by
  exact block_spec Try.func63 Try.mixed (stops_cons (fun σ w h => by
      obtain ⟨t_, e0, h⟩ := dP_elim h
      obtain ⟨r_, e1, h⟩ := dK_elim h
      obtain ⟨k_, e2, h⟩ := dI_elim h
      exact (sock_Table_listenerFine.L2_sound  t_ r_ k_ w h).weaken (Sub.cons (Sub.cons (Sub.cons (Sub.nil _) e2) e1) e0)) stops_nil) (Eq.mp (sock_Table_listenerFine.B3_eq t r t104 w   R (fun t_ r_ k_ w => sock_Table_listenerFine.L2 t_ r_ k_ w  R)) h)
def sock_Table_listenerFine.L1b (t : Option Addr) (r : Nat) (kids ready i : Int) (w : World)  (N1 : Option Addr → Nat → Int → Int → Int → World → Prop) (R : Bool → World → Prop) : Prop :=
  Bm (decide (i < (6 : Int))) (
    Pn t fun a =>
    (0 ≤ i ∧ i < ((6 : Nat) : Int)) ∧
    LdB (Addr.add a (i.toNat * 15)) w.drew fun x54 =>
    Bm x54 (
      Pn t fun a_1 =>
      (0 ≤ i ∧ i < ((6 : Nat) : Int)) ∧
      LdI .i64 (((Addr.add a_1 (i.toNat * 15)).add 1).add 6) w.drew fun x63 =>
      LdI .i64 ⟨r, 1, none⟩ w.drew fun x66 =>
      sock_Table_listenerFine.B2 t r kids ready i (x63 == x66) w.drew N1 R) (
      sock_Table_listenerFine.B2 t r kids ready i false w.drew N1 R)) (
    LdI .i64 ⟨r, 10, none⟩ w fun x83 =>
    Bm (kids != x83) (
      sock_Table_listenerFine.B3 t r true w  R) (
      Bm (decide (kids > (2 : Int))) (
        sock_Table_listenerFine.B3 t r true w  R) (
        LdI .i64 ⟨r, 14, none⟩ w fun x92 =>
        Bm (ready != x92) (
          sock_Table_listenerFine.B3 t r true w  R) (
          LdI .i64 ⟨r, 13, none⟩ w fun x97 =>
          Bm (decide (x97 < (0 : Int))) (
            sock_Table_listenerFine.B3 t r true w  R) (
            LdI .i64 ⟨r, 13, none⟩ w fun x102 =>
            sock_Table_listenerFine.B3 t r (decide (x102 ≥ (2 : Int))) w  R)))))
theorem sock_Table_listenerFine.L1b_eq (t : Option Addr) (r : Nat) (kids ready i : Int) (w : World)  (N1 : Option Addr → Nat → Int → Int → Int → World → Prop) (R : Bool → World → Prop) (sB2 : Option Addr → Nat → Int → Int → Int → Bool → World → Prop) (sB3 : Option Addr → Nat → Bool → World → Prop) :
    (
  Bm (decide (i < (6 : Int))) (
    Pn t fun a =>
    (0 ≤ i ∧ i < ((6 : Nat) : Int)) ∧
    LdB (Addr.add a (i.toNat * 15)) w.drew fun x54 =>
    Bm x54 (
      Pn t fun a_1 =>
      (0 ≤ i ∧ i < ((6 : Nat) : Int)) ∧
      LdI .i64 (((Addr.add a_1 (i.toNat * 15)).add 1).add 6) w.drew fun x63 =>
      LdI .i64 ⟨r, 1, none⟩ w.drew fun x66 =>
      sB2 t r kids ready i (x63 == x66) w.drew) (
      sB2 t r kids ready i false w.drew)) (
    LdI .i64 ⟨r, 10, none⟩ w fun x83 =>
    Bm (kids != x83) (
      sB3 t r true w) (
      Bm (decide (kids > (2 : Int))) (
        sB3 t r true w) (
        LdI .i64 ⟨r, 14, none⟩ w fun x92 =>
        Bm (ready != x92) (
          sB3 t r true w) (
          LdI .i64 ⟨r, 13, none⟩ w fun x97 =>
          Bm (decide (x97 < (0 : Int))) (
            sB3 t r true w) (
            LdI .i64 ⟨r, 13, none⟩ w fun x102 =>
            sB3 t r (decide (x102 ≥ (2 : Int))) w)))))) = kstep Try.prog 164 Try.f63.results.toList (Try.f63.body.getD .skip) (sock_Table_listenerFine.RV R) (kvc Try.prog 164 Try.f63.results.toList (Try.f63.body.getD .skip) (sock_Table_listenerFine.RV R) [([(0, [1, 1, 1, 0, 1, 0, 0, 1, 0, 0, 1]), (1, [1]), (0, [1, 1, 1, 0, 1, 0, 0, 1, 1]), (2, [1, 1, 1, 0, 1, 0, 0]), (1, [0]), (0, [1, 1, 1, 1])], fun σ w => dP (slotOf σ 0) fun t_ => dK (slotOf σ 3) fun r_ => dI .i64 (slotOf σ 5) fun kids_ => dI .i64 (slotOf σ 6) fun ready_ => dI .i64 (slotOf σ 7) fun i_ => dB (slotOf σ 68) fun t68_ => sB2 t_ r_ kids_ ready_ i_ t68_ w),
    ([(0, [1, 1, 1, 1, 0, 1]), (0, [1, 1, 1, 1, 1])], fun σ w => dP (slotOf σ 0) fun t_ => dK (slotOf σ 3) fun r_ => dB (slotOf σ 104) fun t104_ => sB3 t_ r_ t104_ w)] 2000) [(0, [1, 1, 1, 0, 1, 0, 0]), (2, [1, 1, 1, 0, 1, 0, 0]), (1, [0]), (0, [1, 1, 1, 1])] [(0, .pointer t), (3, .pointer (some ⟨r, 0, none⟩)), (5, .int .i64 kids), (6, .int .i64 ready), (7, .int .i64 i)] w := by kernel_rfl
theorem sock_Table_listenerFine.L1b_sound {R : Bool → World → Prop} {N1 : Option Addr → Nat → Int → Int → Int → World → Prop} (hN1 : ∀ t r kids ready i w, N1 t r kids ready i w → KW Try.prog 63 164 (sock_Table_listenerFine.RV R) ([(0, [1, 1, 1, 0, 1, 0, 0]), (2, [1, 1, 1, 0, 1, 0, 0]), (1, [0]), (0, [1, 1, 1, 1])].map (toItem (Try.f63.body.getD .skip))) [(0, .pointer t), (3, .pointer (some ⟨r, 0, none⟩)), (5, .int .i64 kids), (6, .int .i64 ready), (7, .int .i64 i)] w) (t : Option Addr) (r : Nat) (kids ready i : Int) (w : World) (h : sock_Table_listenerFine.L1b t r kids ready i w  N1 R) :
    KW Try.prog 63 164 (sock_Table_listenerFine.RV R) ([(0, [1, 1, 1, 0, 1, 0, 0]), (2, [1, 1, 1, 0, 1, 0, 0]), (1, [0]), (0, [1, 1, 1, 1])].map (toItem (Try.f63.body.getD .skip))) [(0, .pointer t), (3, .pointer (some ⟨r, 0, none⟩)), (5, .int .i64 kids), (6, .int .i64 ready), (7, .int .i64 i)] w := by
  exact block_spec Try.func63 Try.mixed (stops_cons (fun σ w h => by
      obtain ⟨t_, e0, h⟩ := dP_elim h
      obtain ⟨r_, e1, h⟩ := dK_elim h
      obtain ⟨kids_, e2, h⟩ := dI_elim h
      obtain ⟨ready_, e3, h⟩ := dI_elim h
      obtain ⟨i_, e4, h⟩ := dI_elim h
      obtain ⟨t68_, e5, h⟩ := dB_elim h
      exact (sock_Table_listenerFine.B2_sound hN1 t_ r_ kids_ ready_ i_ t68_ w h).weaken (Sub.cons (Sub.cons (Sub.cons (Sub.cons (Sub.cons (Sub.cons (Sub.nil _) e5) e4) e3) e2) e1) e0)) (stops_cons (fun σ w h => by
      obtain ⟨t_, e0, h⟩ := dP_elim h
      obtain ⟨r_, e1, h⟩ := dK_elim h
      obtain ⟨t104_, e2, h⟩ := dB_elim h
      exact (sock_Table_listenerFine.B3_sound  t_ r_ t104_ w h).weaken (Sub.cons (Sub.cons (Sub.cons (Sub.nil _) e2) e1) e0)) stops_nil)) (Eq.mp (sock_Table_listenerFine.L1b_eq t r kids ready i w  N1 R (fun t_ r_ kids_ ready_ i_ t68_ w => sock_Table_listenerFine.B2 t_ r_ kids_ ready_ i_ t68_ w N1 R) (fun t_ r_ t104_ w => sock_Table_listenerFine.B3 t_ r_ t104_ w  R)) h)
def sock_Table_listenerFine.L1 (t : Option Addr) (r : Nat) (kids ready i : Int) (w : World)  (R : Bool → World → Prop) : Prop :=
  ∃ (I : Nat → Option Addr → Nat → Int → Int → Int → World → Prop) (m : Nat), I m t r kids ready i w ∧ ∀ m t r kids ready i w, I m t r kids ready i w → sock_Table_listenerFine.L1b t r kids ready i w  (fun t' r' kids' ready' i' w' => ∃ m', m' < m ∧ I m' t' r' kids' ready' i' w') R
theorem sock_Table_listenerFine.L1_sound {R : Bool → World → Prop}  (t : Option Addr) (r : Nat) (kids ready i : Int) (w : World) (h : sock_Table_listenerFine.L1 t r kids ready i w  R) :
    KW Try.prog 63 164 (sock_Table_listenerFine.RV R) ([(0, [1, 1, 1, 0, 1, 0, 0]), (2, [1, 1, 1, 0, 1, 0, 0]), (1, [0]), (0, [1, 1, 1, 1])].map (toItem (Try.f63.body.getD .skip))) [(0, .pointer t), (3, .pointer (some ⟨r, 0, none⟩)), (5, .int .i64 kids), (6, .int .i64 ready), (7, .int .i64 i)] w := by
  obtain ⟨I, m, hBase, hr⟩ := h
  refine KW.loop (fun m σ w => ∃ (t : Option Addr) (r : Nat) (kids ready i : Int), σ = [(0, .pointer t), (3, .pointer (some ⟨r, 0, none⟩)), (5, .int .i64 kids), (6, .int .i64 ready), (7, .int .i64 i)] ∧ I m t r kids ready i w) ?_ m _ w ⟨t, r, kids, ready, i, rfl, hBase⟩
  rintro m ih σ w ⟨t, r, kids, ready, i, rfl, hI⟩
  exact sock_Table_listenerFine.L1b_sound  (N1 := fun t' r' kids' ready' i' w' => ∃ m', m' < m ∧ I m' t' r' kids' ready' i' w') (fun t' r' kids' ready' i' w' hx => by obtain ⟨m', hlt, hI'⟩ := hx; exact ih m' hlt _ w' ⟨t', r', kids', ready', i', rfl, hI'⟩) t r kids ready i w (hr m t r kids ready i w hI)
def sock_Table_listenerFine.B1 (t : Option Addr) (r : Nat) (t43 : Bool) (w : World)   (R : Bool → World → Prop) : Prop :=
  Bm t43 (
    R false w) (
    sock_Table_listenerFine.L1 t r (0 : Int) (0 : Int) (0 : Int) w  R)
theorem sock_Table_listenerFine.B1_eq (t : Option Addr) (r : Nat) (t43 : Bool) (w : World)   (R : Bool → World → Prop) (sL1 : Option Addr → Nat → Int → Int → Int → World → Prop) :
    (
  Bm t43 (
    R false w) (
    sL1 t r (0 : Int) (0 : Int) (0 : Int) w)) = kstep Try.prog 164 Try.f63.results.toList (Try.f63.body.getD .skip) (sock_Table_listenerFine.RV R) (kvc Try.prog 164 Try.f63.results.toList (Try.f63.body.getD .skip) (sock_Table_listenerFine.RV R) [([(0, [1, 1, 1, 0, 1, 0, 0]), (2, [1, 1, 1, 0, 1, 0, 0]), (1, [0]), (0, [1, 1, 1, 1])], fun σ w => dP (slotOf σ 0) fun t_ => dK (slotOf σ 3) fun r_ => dI .i64 (slotOf σ 5) fun kids_ => dI .i64 (slotOf σ 6) fun ready_ => dI .i64 (slotOf σ 7) fun i_ => sL1 t_ r_ kids_ ready_ i_ w)] 2000) [(0, [1, 0, 1]), (0, [1, 1])] [(0, .pointer t), (3, .pointer (some ⟨r, 0, none⟩)), (43, .bool t43)] w := by kernel_rfl
theorem sock_Table_listenerFine.B1_sound {R : Bool → World → Prop}  (t : Option Addr) (r : Nat) (t43 : Bool) (w : World) (h : sock_Table_listenerFine.B1 t r t43 w   R) :
    KW Try.prog 63 164 (sock_Table_listenerFine.RV R) ([(0, [1, 0, 1]), (0, [1, 1])].map (toItem (Try.f63.body.getD .skip))) [(0, .pointer t), (3, .pointer (some ⟨r, 0, none⟩)), (43, .bool t43)] w := by
  exact block_spec Try.func63 Try.mixed (stops_cons (fun σ w h => by
      obtain ⟨t_, e0, h⟩ := dP_elim h
      obtain ⟨r_, e1, h⟩ := dK_elim h
      obtain ⟨kids_, e2, h⟩ := dI_elim h
      obtain ⟨ready_, e3, h⟩ := dI_elim h
      obtain ⟨i_, e4, h⟩ := dI_elim h
      exact (sock_Table_listenerFine.L1_sound  t_ r_ kids_ ready_ i_ w h).weaken (Sub.cons (Sub.cons (Sub.cons (Sub.cons (Sub.cons (Sub.nil _) e4) e3) e2) e1) e0)) stops_nil) (Eq.mp (sock_Table_listenerFine.B1_eq t r t43 w   R (fun t_ r_ kids_ ready_ i_ w => sock_Table_listenerFine.L1 t_ r_ kids_ ready_ i_ w  R)) h)
def sock_Table_listenerFine.B0 (t : Option Addr) (r_0 : Bool) (r_1 r_2 r_3 r_4 r_5 r_6 r_7 : Int) (r_8 : Bool) (r_9 r_10 r_11 r_12 r_13 r_14 : Int) (w : World)   (R : Bool → World → Prop) : Prop :=
  New (.cells #[.bool r_0, .int .i64 r_1, .int .i64 r_2, .int .i64 r_3, .int .i64 r_4, .int .i64 r_5, .int .i64 r_6, .int .i64 r_7, .bool r_8, .int .i64 r_9, .int .i64 r_10, .int .i64 r_11, .int .i64 r_12, .int .i64 r_13, .int .i64 r_14] 43) w fun r_ w1 =>
  LdI .i64 ⟨r_, 6, none⟩ w1 fun x14 =>
  Bm (x14 != (-1 : Int)) (
    sock_Table_listenerFine.B1 t r_ true w1  R) (
    LdI .i64 ⟨r_, 4, none⟩ w1 fun x19 =>
    Bm (x19 != (0 : Int)) (
      sock_Table_listenerFine.B1 t r_ true w1  R) (
      LdI .i64 ⟨r_, 5, none⟩ w1 fun x25 =>
      Bm (x25 != (0 : Int)) (
        sock_Table_listenerFine.B1 t r_ true w1  R) (
        LdI .i64 ⟨r_, 7, none⟩ w1 fun x31 =>
        Bm (x31 != (0 : Int)) (
          sock_Table_listenerFine.B1 t r_ true w1  R) (
          LdB ⟨r_, 8, none⟩ w1 fun x37 =>
          Bm x37 (
            sock_Table_listenerFine.B1 t r_ true w1  R) (
            LdI .i64 ⟨r_, 9, none⟩ w1 fun x41 =>
            sock_Table_listenerFine.B1 t r_ (x41 != (-1 : Int)) w1  R)))))
theorem sock_Table_listenerFine.B0_eq (t : Option Addr) (r_0 : Bool) (r_1 r_2 r_3 r_4 r_5 r_6 r_7 : Int) (r_8 : Bool) (r_9 r_10 r_11 r_12 r_13 r_14 : Int) (w : World)   (R : Bool → World → Prop) (sB1 : Option Addr → Nat → Bool → World → Prop) :
    (
  New (.cells #[.bool r_0, .int .i64 r_1, .int .i64 r_2, .int .i64 r_3, .int .i64 r_4, .int .i64 r_5, .int .i64 r_6, .int .i64 r_7, .bool r_8, .int .i64 r_9, .int .i64 r_10, .int .i64 r_11, .int .i64 r_12, .int .i64 r_13, .int .i64 r_14] 43) w fun r_ w1 =>
  LdI .i64 ⟨r_, 6, none⟩ w1 fun x14 =>
  Bm (x14 != (-1 : Int)) (
    sB1 t r_ true w1) (
    LdI .i64 ⟨r_, 4, none⟩ w1 fun x19 =>
    Bm (x19 != (0 : Int)) (
      sB1 t r_ true w1) (
      LdI .i64 ⟨r_, 5, none⟩ w1 fun x25 =>
      Bm (x25 != (0 : Int)) (
        sB1 t r_ true w1) (
        LdI .i64 ⟨r_, 7, none⟩ w1 fun x31 =>
        Bm (x31 != (0 : Int)) (
          sB1 t r_ true w1) (
          LdB ⟨r_, 8, none⟩ w1 fun x37 =>
          Bm x37 (
            sB1 t r_ true w1) (
            LdI .i64 ⟨r_, 9, none⟩ w1 fun x41 =>
            sB1 t r_ (x41 != (-1 : Int)) w1)))))) = kstep Try.prog 164 Try.f63.results.toList (Try.f63.body.getD .skip) (sock_Table_listenerFine.RV R) (kvc Try.prog 164 Try.f63.results.toList (Try.f63.body.getD .skip) (sock_Table_listenerFine.RV R) [([(0, [1, 0, 1]), (0, [1, 1])], fun σ w => dP (slotOf σ 0) fun t_ => dK (slotOf σ 3) fun r_ => dB (slotOf σ 43) fun t43_ => sB1 t_ r_ t43_ w)] 2000) [(0, [])] [(0, .pointer t), (1, .agg #[.bool r_0, .int .i64 r_1, .int .i64 r_2, .int .i64 r_3, .int .i64 r_4, .int .i64 r_5, .int .i64 r_6, .int .i64 r_7, .bool r_8, .int .i64 r_9, .int .i64 r_10, .int .i64 r_11, .int .i64 r_12, .int .i64 r_13, .int .i64 r_14])] w := by kernel_rfl
theorem sock_Table_listenerFine.B0_sound {R : Bool → World → Prop}  (t : Option Addr) (r_0 : Bool) (r_1 r_2 r_3 r_4 r_5 r_6 r_7 : Int) (r_8 : Bool) (r_9 r_10 r_11 r_12 r_13 r_14 : Int) (w : World) (h : sock_Table_listenerFine.B0 t r_0 r_1 r_2 r_3 r_4 r_5 r_6 r_7 r_8 r_9 r_10 r_11 r_12 r_13 r_14 w   R) :
    KW Try.prog 63 164 (sock_Table_listenerFine.RV R) ([(0, [])].map (toItem (Try.f63.body.getD .skip))) [(0, .pointer t), (1, .agg #[.bool r_0, .int .i64 r_1, .int .i64 r_2, .int .i64 r_3, .int .i64 r_4, .int .i64 r_5, .int .i64 r_6, .int .i64 r_7, .bool r_8, .int .i64 r_9, .int .i64 r_10, .int .i64 r_11, .int .i64 r_12, .int .i64 r_13, .int .i64 r_14])] w := by
  exact block_spec Try.func63 Try.mixed (stops_cons (fun σ w h => by
      obtain ⟨t_, e0, h⟩ := dP_elim h
      obtain ⟨r_, e1, h⟩ := dK_elim h
      obtain ⟨t43_, e2, h⟩ := dB_elim h
      exact (sock_Table_listenerFine.B1_sound  t_ r_ t43_ w h).weaken (Sub.cons (Sub.cons (Sub.cons (Sub.nil _) e2) e1) e0)) stops_nil) (Eq.mp (sock_Table_listenerFine.B0_eq t r_0 r_1 r_2 r_3 r_4 r_5 r_6 r_7 r_8 r_9 r_10 r_11 r_12 r_13 r_14 w   R (fun t_ r_ t43_ w => sock_Table_listenerFine.B1 t_ r_ t43_ w  R)) h)
theorem sock_Table_listenerFine.sound (t : Option Addr) (r_0 : Bool) (r_1 r_2 r_3 r_4 r_5 r_6 r_7 : Int) (r_8 : Bool) (r_9 r_10 r_11 r_12 r_13 r_14 : Int) (w : World) (R : Bool → World → Prop) (h : sock_Table_listenerFine.B0 t r_0 r_1 r_2 r_3 r_4 r_5 r_6 r_7 r_8 r_9 r_10 r_11 r_12 r_13 r_14 w R) : sock_Table_listenerFine.Call t r_0 r_1 r_2 r_3 r_4 r_5 r_6 r_7 r_8 r_9 r_10 r_11 r_12 r_13 r_14 w R := by
  have hc := calls_of_block (args := #[.pointer t, .agg #[.bool r_0, .int .i64 r_1, .int .i64 r_2, .int .i64 r_3, .int .i64 r_4, .int .i64 r_5, .int .i64 r_6, .int .i64 r_7, .bool r_8, .int .i64 r_9, .int .i64 r_10, .int .i64 r_11, .int .i64 r_12, .int .i64 r_13, .int .i64 r_14]]) Try.func63 (body := (Try.f63.body.getD .skip)) (by kernel_rfl) (by kernel_rfl) (args_slot _) (sock_Table_listenerFine.B0_sound t r_0 r_1 r_2 r_3 r_4 r_5 r_6 r_7 r_8 r_9 r_10 r_11 r_12 r_13 r_14 w h)
  exact hc.mono fun e w' he => by
    obtain ⟨v, rfl, hv⟩ := he
    exact sock_Table_listenerFine.RV_elim hv
def sock_Table_connFine.B1 (t : Option Addr) (r : Nat) (t43 : Bool) (w : World)   (R : Bool → World → Prop) : Prop :=
  Bm t43 (
    R false w) (
    LdI .i64 ⟨r, 7, none⟩ w fun x46 =>
    Bm (x46 == (0 : Int)) (
      LdB ⟨r, 8, none⟩ w fun x50 =>
      R (!x50) w) (
      LdI .i64 ⟨r, 3, none⟩ w fun x55 =>
      sock_Table_listenerRow.Call t x55 w fun r56 w1 =>
      Bm (r56 != (-1 : Int)) (
        Pn t fun a =>
        (0 ≤ r56 ∧ r56 < ((6 : Nat) : Int)) ∧
        LdI .i64 ((Addr.add a (r56.toNat * 15)).add 1) w1.drew fun x67 =>
        LdI .i64 ⟨r, 7, none⟩ w1.drew fun x70 =>
        R (x67 == x70) w1.drew) (
        R false w1.drew)))
theorem sock_Table_connFine.B1_eq (t : Option Addr) (r : Nat) (t43 : Bool) (w : World)   (R : Bool → World → Prop)  :
    (
  Bm t43 (
    R false w) (
    LdI .i64 ⟨r, 7, none⟩ w fun x46 =>
    Bm (x46 == (0 : Int)) (
      LdB ⟨r, 8, none⟩ w fun x50 =>
      R (!x50) w) (
      LdI .i64 ⟨r, 3, none⟩ w fun x55 =>
      sock_Table_listenerRow.Call t x55 w fun r56 w1 =>
      Bm (r56 != (-1 : Int)) (
        Pn t fun a =>
        (0 ≤ r56 ∧ r56 < ((6 : Nat) : Int)) ∧
        LdI .i64 ((Addr.add a (r56.toNat * 15)).add 1) w1.drew fun x67 =>
        LdI .i64 ⟨r, 7, none⟩ w1.drew fun x70 =>
        R (x67 == x70) w1.drew) (
        R false w1.drew)))) = kstep Try.prog 73 Try.f64.results.toList (Try.f64.body.getD .skip) (sock_Table_connFine.RV R) (kvc Try.prog 73 Try.f64.results.toList (Try.f64.body.getD .skip) (sock_Table_connFine.RV R) [] 2000) [(0, [1, 1, 0, 1]), (0, [1, 1, 1])] [(0, .pointer t), (3, .pointer (some ⟨r, 0, none⟩)), (43, .bool t43)] w := by kernel_rfl
theorem sock_Table_connFine.B1_sound {R : Bool → World → Prop}  (t : Option Addr) (r : Nat) (t43 : Bool) (w : World) (h : sock_Table_connFine.B1 t r t43 w   R) :
    KW Try.prog 64 73 (sock_Table_connFine.RV R) ([(0, [1, 1, 0, 1]), (0, [1, 1, 1])].map (toItem (Try.f64.body.getD .skip))) [(0, .pointer t), (3, .pointer (some ⟨r, 0, none⟩)), (43, .bool t43)] w := by
  exact block_spec Try.func64 Try.mixed stops_nil (Eq.mp (sock_Table_connFine.B1_eq t r t43 w   R ) h)
def sock_Table_connFine.B0 (t : Option Addr) (r_0 : Bool) (r_1 r_2 r_3 r_4 r_5 r_6 r_7 : Int) (r_8 : Bool) (r_9 r_10 r_11 r_12 r_13 r_14 : Int) (w : World)   (R : Bool → World → Prop) : Prop :=
  New (.cells #[.bool r_0, .int .i64 r_1, .int .i64 r_2, .int .i64 r_3, .int .i64 r_4, .int .i64 r_5, .int .i64 r_6, .int .i64 r_7, .bool r_8, .int .i64 r_9, .int .i64 r_10, .int .i64 r_11, .int .i64 r_12, .int .i64 r_13, .int .i64 r_14] 43) w fun r_ w1 =>
  LdI .i64 ⟨r_, 2, none⟩ w1 fun x8 =>
  Bm (x8 != (2 : Int)) (
    R false w1) (
    LdI .i64 ⟨r_, 3, none⟩ w1 fun x12 =>
    Bm (decide (x12 < (1 : Int))) (
      sock_Table_connFine.B1 t r_ true w1  R) (
      LdI .i64 ⟨r_, 3, none⟩ w1 fun x17 =>
      Bm (decide (x17 > (15 : Int))) (
        sock_Table_connFine.B1 t r_ true w1  R) (
        LdI .i64 ⟨r_, 4, none⟩ w1 fun x23 =>
        Bm (decide (x23 < (1 : Int))) (
          sock_Table_connFine.B1 t r_ true w1  R) (
          LdI .i64 ⟨r_, 4, none⟩ w1 fun x29 =>
          Bm (decide (x29 > (255 : Int))) (
            sock_Table_connFine.B1 t r_ true w1  R) (
            LdI .i64 ⟨r_, 5, none⟩ w1 fun x35 =>
            Bm (decide (x35 < (1 : Int))) (
              sock_Table_connFine.B1 t r_ true w1  R) (
              LdI .i64 ⟨r_, 5, none⟩ w1 fun x41 =>
              sock_Table_connFine.B1 t r_ (decide (x41 > (15 : Int))) w1  R))))))
theorem sock_Table_connFine.B0_eq (t : Option Addr) (r_0 : Bool) (r_1 r_2 r_3 r_4 r_5 r_6 r_7 : Int) (r_8 : Bool) (r_9 r_10 r_11 r_12 r_13 r_14 : Int) (w : World)   (R : Bool → World → Prop) (sB1 : Option Addr → Nat → Bool → World → Prop) :
    (
  New (.cells #[.bool r_0, .int .i64 r_1, .int .i64 r_2, .int .i64 r_3, .int .i64 r_4, .int .i64 r_5, .int .i64 r_6, .int .i64 r_7, .bool r_8, .int .i64 r_9, .int .i64 r_10, .int .i64 r_11, .int .i64 r_12, .int .i64 r_13, .int .i64 r_14] 43) w fun r_ w1 =>
  LdI .i64 ⟨r_, 2, none⟩ w1 fun x8 =>
  Bm (x8 != (2 : Int)) (
    R false w1) (
    LdI .i64 ⟨r_, 3, none⟩ w1 fun x12 =>
    Bm (decide (x12 < (1 : Int))) (
      sB1 t r_ true w1) (
      LdI .i64 ⟨r_, 3, none⟩ w1 fun x17 =>
      Bm (decide (x17 > (15 : Int))) (
        sB1 t r_ true w1) (
        LdI .i64 ⟨r_, 4, none⟩ w1 fun x23 =>
        Bm (decide (x23 < (1 : Int))) (
          sB1 t r_ true w1) (
          LdI .i64 ⟨r_, 4, none⟩ w1 fun x29 =>
          Bm (decide (x29 > (255 : Int))) (
            sB1 t r_ true w1) (
            LdI .i64 ⟨r_, 5, none⟩ w1 fun x35 =>
            Bm (decide (x35 < (1 : Int))) (
              sB1 t r_ true w1) (
              LdI .i64 ⟨r_, 5, none⟩ w1 fun x41 =>
              sB1 t r_ (decide (x41 > (15 : Int))) w1))))))) = kstep Try.prog 73 Try.f64.results.toList (Try.f64.body.getD .skip) (sock_Table_connFine.RV R) (kvc Try.prog 73 Try.f64.results.toList (Try.f64.body.getD .skip) (sock_Table_connFine.RV R) [([(0, [1, 1, 0, 1]), (0, [1, 1, 1])], fun σ w => dP (slotOf σ 0) fun t_ => dK (slotOf σ 3) fun r_ => dB (slotOf σ 43) fun t43_ => sB1 t_ r_ t43_ w)] 2000) [(0, [])] [(0, .pointer t), (1, .agg #[.bool r_0, .int .i64 r_1, .int .i64 r_2, .int .i64 r_3, .int .i64 r_4, .int .i64 r_5, .int .i64 r_6, .int .i64 r_7, .bool r_8, .int .i64 r_9, .int .i64 r_10, .int .i64 r_11, .int .i64 r_12, .int .i64 r_13, .int .i64 r_14])] w := by kernel_rfl
theorem sock_Table_connFine.B0_sound {R : Bool → World → Prop}  (t : Option Addr) (r_0 : Bool) (r_1 r_2 r_3 r_4 r_5 r_6 r_7 : Int) (r_8 : Bool) (r_9 r_10 r_11 r_12 r_13 r_14 : Int) (w : World) (h : sock_Table_connFine.B0 t r_0 r_1 r_2 r_3 r_4 r_5 r_6 r_7 r_8 r_9 r_10 r_11 r_12 r_13 r_14 w   R) :
    KW Try.prog 64 73 (sock_Table_connFine.RV R) ([(0, [])].map (toItem (Try.f64.body.getD .skip))) [(0, .pointer t), (1, .agg #[.bool r_0, .int .i64 r_1, .int .i64 r_2, .int .i64 r_3, .int .i64 r_4, .int .i64 r_5, .int .i64 r_6, .int .i64 r_7, .bool r_8, .int .i64 r_9, .int .i64 r_10, .int .i64 r_11, .int .i64 r_12, .int .i64 r_13, .int .i64 r_14])] w := by
  exact block_spec Try.func64 Try.mixed (stops_cons (fun σ w h => by
      obtain ⟨t_, e0, h⟩ := dP_elim h
      obtain ⟨r_, e1, h⟩ := dK_elim h
      obtain ⟨t43_, e2, h⟩ := dB_elim h
      exact (sock_Table_connFine.B1_sound  t_ r_ t43_ w h).weaken (Sub.cons (Sub.cons (Sub.cons (Sub.nil _) e2) e1) e0)) stops_nil) (Eq.mp (sock_Table_connFine.B0_eq t r_0 r_1 r_2 r_3 r_4 r_5 r_6 r_7 r_8 r_9 r_10 r_11 r_12 r_13 r_14 w   R (fun t_ r_ t43_ w => sock_Table_connFine.B1 t_ r_ t43_ w  R)) h)
theorem sock_Table_connFine.sound (t : Option Addr) (r_0 : Bool) (r_1 r_2 r_3 r_4 r_5 r_6 r_7 : Int) (r_8 : Bool) (r_9 r_10 r_11 r_12 r_13 r_14 : Int) (w : World) (R : Bool → World → Prop) (h : sock_Table_connFine.B0 t r_0 r_1 r_2 r_3 r_4 r_5 r_6 r_7 r_8 r_9 r_10 r_11 r_12 r_13 r_14 w R) : sock_Table_connFine.Call t r_0 r_1 r_2 r_3 r_4 r_5 r_6 r_7 r_8 r_9 r_10 r_11 r_12 r_13 r_14 w R := by
  have hc := calls_of_block (args := #[.pointer t, .agg #[.bool r_0, .int .i64 r_1, .int .i64 r_2, .int .i64 r_3, .int .i64 r_4, .int .i64 r_5, .int .i64 r_6, .int .i64 r_7, .bool r_8, .int .i64 r_9, .int .i64 r_10, .int .i64 r_11, .int .i64 r_12, .int .i64 r_13, .int .i64 r_14]]) Try.func64 (body := (Try.f64.body.getD .skip)) (by kernel_rfl) (by kernel_rfl) (args_slot _) (sock_Table_connFine.B0_sound t r_0 r_1 r_2 r_3 r_4 r_5 r_6 r_7 r_8 r_9 r_10 r_11 r_12 r_13 r_14 w h)
  exact hc.mono fun e w' he => by
    obtain ⟨v, rfl, hv⟩ := he
    exact sock_Table_connFine.RV_elim hv
end Go.Proofs.Qxb6500427a
