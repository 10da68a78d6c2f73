import Derived.Test.Qxb6500427aSig
set_option maxRecDepth 100000
set_option linter.unusedVariables false
open Go.Vc
namespace Go.Proofs.Qxb6500427a
def sock_Table_Child.B3 (t : Option Addr) (lport rhost rport l s : Int) (t51 : Bool) (w : World)   (R : Int → Int → World → Prop) : Prop :=
  Bm t51 (
    R (0 : Int) (11 : Int) w) (
    Pn t fun a =>
    (0 ≤ l ∧ l < ((6 : Nat) : Int)) ∧
    LdI .i64 ((Addr.add a (l.toNat * 15)).add 1) w fun x64 =>
    sock_Table_conn.Call t lport rhost rport s x64 w fun r65 w1 =>
    Bm (r65 == (0 : Int)) (
      R (0 : Int) (11 : Int) w1) (
      Pn t fun a_1 =>
      (0 ≤ l ∧ l < ((6 : Nat) : Int)) ∧
      LdI .i64 ((Addr.add a_1 (l.toNat * 15)).add 10) w1.drew fun x74 =>
      Pn t fun a_2 =>
      (0 ≤ l ∧ l < ((6 : Nat) : Int)) ∧
      Sts [.int .i64 (IntKind.i64.wrap (x74 + (1 : Int)))] ((Addr.add a_2 (l.toNat * 15)).add 10) 0 w1.drew fun w2 =>
      R r65 (0 : Int) w2))
theorem sock_Table_Child.B3_eq (t : Option Addr) (lport rhost rport l s : Int) (t51 : Bool) (w : World)   (R : Int → Int → World → Prop)  :
    (
  Bm t51 (
    R (0 : Int) (11 : Int) w) (
    Pn t fun a =>
    (0 ≤ l ∧ l < ((6 : Nat) : Int)) ∧
    LdI .i64 ((Addr.add a (l.toNat * 15)).add 1) w fun x64 =>
    sock_Table_conn.Call t lport rhost rport s x64 w fun r65 w1 =>
    Bm (r65 == (0 : Int)) (
      R (0 : Int) (11 : Int) w1) (
      Pn t fun a_1 =>
      (0 ≤ l ∧ l < ((6 : Nat) : Int)) ∧
      LdI .i64 ((Addr.add a_1 (l.toNat * 15)).add 10) w1.drew fun x74 =>
      Pn t fun a_2 =>
      (0 ≤ l ∧ l < ((6 : Nat) : Int)) ∧
      Sts [.int .i64 (IntKind.i64.wrap (x74 + (1 : Int)))] ((Addr.add a_2 (l.toNat * 15)).add 10) 0 w1.drew fun w2 =>
      R r65 (0 : Int) w2))) = kstep Try.prog 81 Try.f46.results.toList (Try.f46.body.getD .skip) (sock_Table_Child.RV R) (kvc Try.prog 81 Try.f46.results.toList (Try.f46.body.getD .skip) (sock_Table_Child.RV R) [] 2000) [(0, [1, 1, 1, 1, 1, 1, 1, 1, 0, 1]), (0, [1, 1, 1, 1, 1, 1, 1, 1, 1])] [(0, .pointer t), (1, .int .i64 lport), (2, .int .i64 rhost), (3, .int .i64 rport), (10, .int .i64 l), (12, .int .i64 s), (51, .bool t51)] w := by kernel_rfl
theorem sock_Table_Child.B3_sound {R : Int → Int → World → Prop}  (t : Option Addr) (lport rhost rport l s : Int) (t51 : Bool) (w : World) (h : sock_Table_Child.B3 t lport rhost rport l s t51 w   R) :
    KW Try.prog 46 81 (sock_Table_Child.RV R) ([(0, [1, 1, 1, 1, 1, 1, 1, 1, 0, 1]), (0, [1, 1, 1, 1, 1, 1, 1, 1, 1])].map (toItem (Try.f46.body.getD .skip))) [(0, .pointer t), (1, .int .i64 lport), (2, .int .i64 rhost), (3, .int .i64 rport), (10, .int .i64 l), (12, .int .i64 s), (51, .bool t51)] w := by
  exact block_spec Try.func46 Try.mixed stops_nil (Eq.mp (sock_Table_Child.B3_eq t lport rhost rport l s t51 w   R ) h)
def sock_Table_Child.B2 (t : Option Addr) (lport rhost rport l : Int) (t30 : Bool) (w : World)   (R : Int → Int → World → Prop) : Prop :=
  Bm t30 (
    R (0 : Int) (22 : Int) w) (
    sock_Table_Lookup.Call t lport rhost rport w fun r35 w1 =>
    Bm (r35 != (0 : Int)) (
      R (0 : Int) (23 : Int) w1) (
      sock_Table_lowBlock.Call t w1 fun r39 w2 =>
      Pn t fun a =>
      (0 ≤ l ∧ l < ((6 : Nat) : Int)) ∧
      LdI .i64 ((Addr.add a (l.toNat * 15)).add 10) w2 fun x46 =>
      Bm (decide (x46 ≥ (2 : Int))) (
        sock_Table_Child.B3 t lport rhost rport l r39 true w2  R) (
        sock_Table_Child.B3 t lport rhost rport l r39 (r39 == (-1 : Int)) w2  R)))
theorem sock_Table_Child.B2_eq (t : Option Addr) (lport rhost rport l : Int) (t30 : Bool) (w : World)   (R : Int → Int → World → Prop) (sB3 : Option Addr → Int → Int → Int → Int → Int → Bool → World → Prop) :
    (
  Bm t30 (
    R (0 : Int) (22 : Int) w) (
    sock_Table_Lookup.Call t lport rhost rport w fun r35 w1 =>
    Bm (r35 != (0 : Int)) (
      R (0 : Int) (23 : Int) w1) (
      sock_Table_lowBlock.Call t w1 fun r39 w2 =>
      Pn t fun a =>
      (0 ≤ l ∧ l < ((6 : Nat) : Int)) ∧
      LdI .i64 ((Addr.add a (l.toNat * 15)).add 10) w2 fun x46 =>
      Bm (decide (x46 ≥ (2 : Int))) (
        sB3 t lport rhost rport l r39 true w2) (
        sB3 t lport rhost rport l r39 (r39 == (-1 : Int)) w2)))) = kstep Try.prog 81 Try.f46.results.toList (Try.f46.body.getD .skip) (sock_Table_Child.RV R) (kvc Try.prog 81 Try.f46.results.toList (Try.f46.body.getD .skip) (sock_Table_Child.RV R) [([(0, [1, 1, 1, 1, 1, 1, 1, 1, 0, 1]), (0, [1, 1, 1, 1, 1, 1, 1, 1, 1])], fun σ w => dP (slotOf σ 0) fun t_ => dI .i64 (slotOf σ 1) fun lport_ => dI .i64 (slotOf σ 2) fun rhost_ => dI .i64 (slotOf σ 3) fun rport_ => dI .i64 (slotOf σ 10) fun l_ => dI .i64 (slotOf σ 12) fun s_ => dB (slotOf σ 51) fun t51_ => sB3 t_ lport_ rhost_ rport_ l_ s_ t51_ w)] 2000) [(0, [1, 1, 1, 1, 0, 1]), (0, [1, 1, 1, 1, 1])] [(0, .pointer t), (1, .int .i64 lport), (2, .int .i64 rhost), (3, .int .i64 rport), (10, .int .i64 l), (30, .bool t30)] w := by kernel_rfl
theorem sock_Table_Child.B2_sound {R : Int → Int → World → Prop}  (t : Option Addr) (lport rhost rport l : Int) (t30 : Bool) (w : World) (h : sock_Table_Child.B2 t lport rhost rport l t30 w   R) :
    KW Try.prog 46 81 (sock_Table_Child.RV R) ([(0, [1, 1, 1, 1, 0, 1]), (0, [1, 1, 1, 1, 1])].map (toItem (Try.f46.body.getD .skip))) [(0, .pointer t), (1, .int .i64 lport), (2, .int .i64 rhost), (3, .int .i64 rport), (10, .int .i64 l), (30, .bool t30)] w := by
  exact block_spec Try.func46 Try.mixed (stops_cons (fun σ w h => by
      obtain ⟨t_, e0, h⟩ := dP_elim h
      obtain ⟨lport_, e1, h⟩ := dI_elim h
      obtain ⟨rhost_, e2, h⟩ := dI_elim h
      obtain ⟨rport_, e3, h⟩ := dI_elim h
      obtain ⟨l_, e4, h⟩ := dI_elim h
      obtain ⟨s_, e5, h⟩ := dI_elim h
      obtain ⟨t51_, e6, h⟩ := dB_elim h
      exact (sock_Table_Child.B3_sound  t_ lport_ rhost_ rport_ l_ s_ t51_ w h).weaken (Sub.cons (Sub.cons (Sub.cons (Sub.cons (Sub.cons (Sub.cons (Sub.cons (Sub.nil _) e6) e5) e4) e3) e2) e1) e0)) stops_nil) (Eq.mp (sock_Table_Child.B2_eq t lport rhost rport l t30 w   R (fun t_ lport_ rhost_ rport_ l_ s_ t51_ w => sock_Table_Child.B3 t_ lport_ rhost_ rport_ l_ s_ t51_ w  R)) h)
def sock_Table_Child.B1 (t : Option Addr) (lport rhost rport l : Int) (t24 : Bool) (w : World)   (R : Int → Int → World → Prop) : Prop :=
  Bm t24 (
    R (0 : Int) (5 : Int) w) (
    Bm (decide (rport < (1 : Int))) (
      sock_Table_Child.B2 t lport rhost rport l true w  R) (
      sock_Table_Child.B2 t lport rhost rport l (decide (rport > (15 : Int))) w  R))
theorem sock_Table_Child.B1_eq (t : Option Addr) (lport rhost rport l : Int) (t24 : Bool) (w : World)   (R : Int → Int → World → Prop) (sB2 : Option Addr → Int → Int → Int → Int → Bool → World → Prop) :
    (
  Bm t24 (
    R (0 : Int) (5 : Int) w) (
    Bm (decide (rport < (1 : Int))) (
      sB2 t lport rhost rport l true w) (
      sB2 t lport rhost rport l (decide (rport > (15 : Int))) w))) = kstep Try.prog 81 Try.f46.results.toList (Try.f46.body.getD .skip) (sock_Table_Child.RV R) (kvc Try.prog 81 Try.f46.results.toList (Try.f46.body.getD .skip) (sock_Table_Child.RV R) [([(0, [1, 1, 1, 1, 0, 1]), (0, [1, 1, 1, 1, 1])], fun σ w => dP (slotOf σ 0) fun t_ => dI .i64 (slotOf σ 1) fun lport_ => dI .i64 (slotOf σ 2) fun rhost_ => dI .i64 (slotOf σ 3) fun rport_ => dI .i64 (slotOf σ 10) fun l_ => dB (slotOf σ 30) fun t30_ => sB2 t_ lport_ rhost_ rport_ l_ t30_ w)] 2000) [(0, [1, 1, 1, 0, 1]), (0, [1, 1, 1, 1])] [(0, .pointer t), (1, .int .i64 lport), (2, .int .i64 rhost), (3, .int .i64 rport), (10, .int .i64 l), (24, .bool t24)] w := by kernel_rfl
theorem sock_Table_Child.B1_sound {R : Int → Int → World → Prop}  (t : Option Addr) (lport rhost rport l : Int) (t24 : Bool) (w : World) (h : sock_Table_Child.B1 t lport rhost rport l t24 w   R) :
    KW Try.prog 46 81 (sock_Table_Child.RV R) ([(0, [1, 1, 1, 0, 1]), (0, [1, 1, 1, 1])].map (toItem (Try.f46.body.getD .skip))) [(0, .pointer t), (1, .int .i64 lport), (2, .int .i64 rhost), (3, .int .i64 rport), (10, .int .i64 l), (24, .bool t24)] w := by
  exact block_spec Try.func46 Try.mixed (stops_cons (fun σ w h => by
      obtain ⟨t_, e0, h⟩ := dP_elim h
      obtain ⟨lport_, e1, h⟩ := dI_elim h
      obtain ⟨rhost_, e2, h⟩ := dI_elim h
      obtain ⟨rport_, e3, h⟩ := dI_elim h
      obtain ⟨l_, e4, h⟩ := dI_elim h
      obtain ⟨t30_, e5, h⟩ := dB_elim h
      exact (sock_Table_Child.B2_sound  t_ lport_ rhost_ rport_ l_ t30_ w h).weaken (Sub.cons (Sub.cons (Sub.cons (Sub.cons (Sub.cons (Sub.cons (Sub.nil _) e5) e4) e3) e2) e1) e0)) stops_nil) (Eq.mp (sock_Table_Child.B1_eq t lport rhost rport l t24 w   R (fun t_ lport_ rhost_ rport_ l_ t30_ w => sock_Table_Child.B2 t_ lport_ rhost_ rport_ l_ t30_ w  R)) h)
def sock_Table_Child.B0 (t : Option Addr) (lport rhost rport : Int) (w : World)   (R : Int → Int → World → Prop) : Prop :=
  sock_Table_listenerRow.Call t lport w fun r16 w1 =>
  Bm (r16 == (-1 : Int)) (
    R (0 : Int) (21 : Int) w1) (
    Bm (decide (rhost < (1 : Int))) (
      sock_Table_Child.B1 t lport rhost rport r16 true w1  R) (
      sock_Table_Child.B1 t lport rhost rport r16 (decide (rhost > (255 : Int))) w1  R))
theorem sock_Table_Child.B0_eq (t : Option Addr) (lport rhost rport : Int) (w : World)   (R : Int → Int → World → Prop) (sB1 : Option Addr → Int → Int → Int → Int → Bool → World → Prop) :
    (
  sock_Table_listenerRow.Call t lport w fun r16 w1 =>
  Bm (r16 == (-1 : Int)) (
    R (0 : Int) (21 : Int) w1) (
    Bm (decide (rhost < (1 : Int))) (
      sB1 t lport rhost rport r16 true w1) (
      sB1 t lport rhost rport r16 (decide (rhost > (255 : Int))) w1))) = kstep Try.prog 81 Try.f46.results.toList (Try.f46.body.getD .skip) (sock_Table_Child.RV R) (kvc Try.prog 81 Try.f46.results.toList (Try.f46.body.getD .skip) (sock_Table_Child.RV R) [([(0, [1, 1, 1, 0, 1]), (0, [1, 1, 1, 1])], fun σ w => dP (slotOf σ 0) fun t_ => dI .i64 (slotOf σ 1) fun lport_ => dI .i64 (slotOf σ 2) fun rhost_ => dI .i64 (slotOf σ 3) fun rport_ => dI .i64 (slotOf σ 10) fun l_ => dB (slotOf σ 24) fun t24_ => sB1 t_ lport_ rhost_ rport_ l_ t24_ w)] 2000) [(0, [])] [(0, .pointer t), (1, .int .i64 lport), (2, .int .i64 rhost), (3, .int .i64 rport)] w := by kernel_rfl
theorem sock_Table_Child.B0_sound {R : Int → Int → World → Prop}  (t : Option Addr) (lport rhost rport : Int) (w : World) (h : sock_Table_Child.B0 t lport rhost rport w   R) :
    KW Try.prog 46 81 (sock_Table_Child.RV R) ([(0, [])].map (toItem (Try.f46.body.getD .skip))) [(0, .pointer t), (1, .int .i64 lport), (2, .int .i64 rhost), (3, .int .i64 rport)] w := by
  exact block_spec Try.func46 Try.mixed (stops_cons (fun σ w h => by
      obtain ⟨t_, e0, h⟩ := dP_elim h
      obtain ⟨lport_, e1, h⟩ := dI_elim h
      obtain ⟨rhost_, e2, h⟩ := dI_elim h
      obtain ⟨rport_, e3, h⟩ := dI_elim h
      obtain ⟨l_, e4, h⟩ := dI_elim h
      obtain ⟨t24_, e5, h⟩ := dB_elim h
      exact (sock_Table_Child.B1_sound  t_ lport_ rhost_ rport_ l_ t24_ w h).weaken (Sub.cons (Sub.cons (Sub.cons (Sub.cons (Sub.cons (Sub.cons (Sub.nil _) e5) e4) e3) e2) e1) e0)) stops_nil) (Eq.mp (sock_Table_Child.B0_eq t lport rhost rport w   R (fun t_ lport_ rhost_ rport_ l_ t24_ w => sock_Table_Child.B1 t_ lport_ rhost_ rport_ l_ t24_ w  R)) h)
theorem sock_Table_Child.sound (t : Option Addr) (lport rhost rport : Int) (w : World) (R : Int → Int → World → Prop) (h : sock_Table_Child.B0 t lport rhost rport w R) : sock_Table_Child.Call t lport rhost rport w R := by
  have hc := calls_of_block (args := #[.pointer t, .int .i64 lport, .int .i64 rhost, .int .i64 rport]) Try.func46 (body := (Try.f46.body.getD .skip)) (by kernel_rfl) (by kernel_rfl) (args_slot _) (sock_Table_Child.B0_sound t lport rhost rport w h)
  exact hc.mono fun e w' he => by
    obtain ⟨v, rfl, hv⟩ := he
    exact sock_Table_Child.RV_elim hv
def sockm_Table_Child.B3 (t : Option Addr) (lport rhost rport l n i : Int) (w : World) (N1 : Option Addr → Int → Int → Int → Int → Int → Int → World → Prop)  (R : Int → Int → World → Prop) : Prop :=
  N1 t lport rhost rport l n (IntKind.i64.wrap (i + (1 : Int))) w
theorem sockm_Table_Child.B3_eq (t : Option Addr) (lport rhost rport l n i : Int) (w : World) (N1 : Option Addr → Int → Int → Int → Int → Int → Int → World → Prop)  (R : Int → Int → World → Prop)  :
    (
  N1 t lport rhost rport l n (IntKind.i64.wrap (i + (1 : Int))) w) = kstep Try.prog 75 Try.f47.results.toList (Try.f47.body.getD .skip) (sockm_Table_Child.RV R) (kvc Try.prog 75 Try.f47.results.toList (Try.f47.body.getD .skip) (sockm_Table_Child.RV R) [([(0, [1, 1, 1, 1, 1, 1, 1, 0, 1, 0, 0]), (2, [1, 1, 1, 1, 1, 1, 1, 0, 1, 0, 0]), (1, [0]), (0, [1, 1, 1, 1, 1, 1, 1, 1])], fun σ w => dP (slotOf σ 0) fun t_ => dI .i64 (slotOf σ 1) fun lport_ => dI .i64 (slotOf σ 2) fun rhost_ => dI .i64 (slotOf σ 3) fun rport_ => dI .i64 (slotOf σ 10) fun l_ => dI .i64 (slotOf σ 11) fun n_ => dI .i64 (slotOf σ 12) fun i_ => N1 t_ lport_ rhost_ rport_ l_ n_ i_ w)] 2000) [(0, [1, 1, 1, 1, 1, 1, 1, 0, 1, 0, 0, 1, 1]), (2, [1, 1, 1, 1, 1, 1, 1, 0, 1, 0, 0]), (1, [0]), (0, [1, 1, 1, 1, 1, 1, 1, 1])] [(0, .pointer t), (1, .int .i64 lport), (2, .int .i64 rhost), (3, .int .i64 rport), (10, .int .i64 l), (11, .int .i64 n), (12, .int .i64 i)] w := by kernel_rfl
theorem sockm_Table_Child.B3_sound {R : Int → Int → World → Prop} {N1 : Option Addr → Int → Int → Int → Int → Int → Int → World → Prop} (hN1 : ∀ t lport rhost rport l n i w, N1 t lport rhost rport l n i w → KW Try.prog 47 75 (sockm_Table_Child.RV R) ([(0, [1, 1, 1, 1, 1, 1, 1, 0, 1, 0, 0]), (2, [1, 1, 1, 1, 1, 1, 1, 0, 1, 0, 0]), (1, [0]), (0, [1, 1, 1, 1, 1, 1, 1, 1])].map (toItem (Try.f47.body.getD .skip))) [(0, .pointer t), (1, .int .i64 lport), (2, .int .i64 rhost), (3, .int .i64 rport), (10, .int .i64 l), (11, .int .i64 n), (12, .int .i64 i)] w) (t : Option Addr) (lport rhost rport l n i : Int) (w : World) (h : sockm_Table_Child.B3 t lport rhost rport l n i w N1  R) :
    KW Try.prog 47 75 (sockm_Table_Child.RV R) ([(0, [1, 1, 1, 1, 1, 1, 1, 0, 1, 0, 0, 1, 1]), (2, [1, 1, 1, 1, 1, 1, 1, 0, 1, 0, 0]), (1, [0]), (0, [1, 1, 1, 1, 1, 1, 1, 1])].map (toItem (Try.f47.body.getD .skip))) [(0, .pointer t), (1, .int .i64 lport), (2, .int .i64 rhost), (3, .int .i64 rport), (10, .int .i64 l), (11, .int .i64 n), (12, .int .i64 i)] w := by
  exact block_spec Try.func47 Try.mixed (stops_cons (fun σ w h => by
      obtain ⟨t_, e0, h⟩ := dP_elim h
      obtain ⟨lport_, e1, h⟩ := dI_elim h
      obtain ⟨rhost_, e2, h⟩ := dI_elim h
      obtain ⟨rport_, e3, h⟩ := dI_elim h
      obtain ⟨l_, e4, h⟩ := dI_elim h
      obtain ⟨n_, e5, h⟩ := dI_elim h
      obtain ⟨i_, e6, h⟩ := dI_elim h
      exact (hN1 t_ lport_ rhost_ rport_ l_ n_ i_ w h).weaken (Sub.cons (Sub.cons (Sub.cons (Sub.cons (Sub.cons (Sub.cons (Sub.cons (Sub.nil _) e6) e5) e4) e3) e2) e1) e0)) stops_nil) (Eq.mp (sockm_Table_Child.B3_eq t lport rhost rport l n i w N1  R ) h)
def sockm_Table_Child.B4 (t : Option Addr) (lport rhost rport l s : Int) (t66 : Bool) (w : World)   (R : Int → Int → World → Prop) : Prop :=
  Bm t66 (
    R (0 : Int) (11 : Int) w) (
    sockm_Table_add.Call t (0 : Int) (2 : Int) lport rhost rport s l false w fun r74 w1 =>
    R r74 (0 : Int) w1)
theorem sockm_Table_Child.B4_eq (t : Option Addr) (lport rhost rport l s : Int) (t66 : Bool) (w : World)   (R : Int → Int → World → Prop)  :
    (
  Bm t66 (
    R (0 : Int) (11 : Int) w) (
    sockm_Table_add.Call t (0 : Int) (2 : Int) lport rhost rport s l false w fun r74 w1 =>
    R r74 (0 : Int) w1)) = kstep Try.prog 75 Try.f47.results.toList (Try.f47.body.getD .skip) (sockm_Table_Child.RV R) (kvc Try.prog 75 Try.f47.results.toList (Try.f47.body.getD .skip) (sockm_Table_Child.RV R) [] 2000) [(0, [1, 1, 1, 1, 1, 1, 1, 1, 1, 0, 1]), (0, [1, 1, 1, 1, 1, 1, 1, 1, 1, 1])] [(0, .pointer t), (1, .int .i64 lport), (2, .int .i64 rhost), (3, .int .i64 rport), (10, .int .i64 l), (13, .int .i64 s), (66, .bool t66)] w := by kernel_rfl
theorem sockm_Table_Child.B4_sound {R : Int → Int → World → Prop}  (t : Option Addr) (lport rhost rport l s : Int) (t66 : Bool) (w : World) (h : sockm_Table_Child.B4 t lport rhost rport l s t66 w   R) :
    KW Try.prog 47 75 (sockm_Table_Child.RV R) ([(0, [1, 1, 1, 1, 1, 1, 1, 1, 1, 0, 1]), (0, [1, 1, 1, 1, 1, 1, 1, 1, 1, 1])].map (toItem (Try.f47.body.getD .skip))) [(0, .pointer t), (1, .int .i64 lport), (2, .int .i64 rhost), (3, .int .i64 rport), (10, .int .i64 l), (13, .int .i64 s), (66, .bool t66)] w := by
  exact block_spec Try.func47 Try.mixed stops_nil (Eq.mp (sockm_Table_Child.B4_eq t lport rhost rport l s t66 w   R ) h)
def sockm_Table_Child.L1b (t : Option Addr) (lport rhost rport l n i : Int) (w : World)  (N1 : Option Addr → Int → Int → Int → Int → Int → Int → World → Prop) (R : Int → Int → World → Prop) : Prop :=
  Pn t fun a =>
  LdL a w fun x41_b x41_l x41_c =>
  Bm (decide (i < ((x41_l : Nat) : Int))) (
    Pn t fun a_1 =>
    LdL a_1 w fun x49_b x49_l x49_c =>
    Pn x49_b fun a_2 =>
    (0 ≤ i ∧ i < ((x49_l : Nat) : Int)) ∧
    LdI .i64 ((Addr.add a_2 (i.toNat * 9)).add 6) w fun x54 =>
    Bm (x54 == l) (
      sockm_Table_Child.B3 t lport rhost rport l (IntKind.i64.wrap (n + (1 : Int))) i w N1 R) (
      sockm_Table_Child.B3 t lport rhost rport l n i w N1 R)) (
    sockm_Table_freeSlot.Call t w fun r60 w1 =>
    Bm (decide (n ≥ (2 : Int))) (
      sockm_Table_Child.B4 t lport rhost rport l r60 true w1  R) (
      sockm_Table_Child.B4 t lport rhost rport l r60 (decide (r60 < (0 : Int))) w1  R))
theorem sockm_Table_Child.L1b_eq (t : Option Addr) (lport rhost rport l n i : Int) (w : World)  (N1 : Option Addr → Int → Int → Int → Int → Int → Int → World → Prop) (R : Int → Int → World → Prop) (sB3 : Option Addr → Int → Int → Int → Int → Int → Int → World → Prop) (sB4 : Option Addr → Int → Int → Int → Int → Int → Bool → World → Prop) :
    (
  Pn t fun a =>
  LdL a w fun x41_b x41_l x41_c =>
  Bm (decide (i < ((x41_l : Nat) : Int))) (
    Pn t fun a_1 =>
    LdL a_1 w fun x49_b x49_l x49_c =>
    Pn x49_b fun a_2 =>
    (0 ≤ i ∧ i < ((x49_l : Nat) : Int)) ∧
    LdI .i64 ((Addr.add a_2 (i.toNat * 9)).add 6) w fun x54 =>
    Bm (x54 == l) (
      sB3 t lport rhost rport l (IntKind.i64.wrap (n + (1 : Int))) i w) (
      sB3 t lport rhost rport l n i w)) (
    sockm_Table_freeSlot.Call t w fun r60 w1 =>
    Bm (decide (n ≥ (2 : Int))) (
      sB4 t lport rhost rport l r60 true w1) (
      sB4 t lport rhost rport l r60 (decide (r60 < (0 : Int))) w1))) = kstep Try.prog 75 Try.f47.results.toList (Try.f47.body.getD .skip) (sockm_Table_Child.RV R) (kvc Try.prog 75 Try.f47.results.toList (Try.f47.body.getD .skip) (sockm_Table_Child.RV R) [([(0, [1, 1, 1, 1, 1, 1, 1, 0, 1, 0, 0, 1, 1]), (2, [1, 1, 1, 1, 1, 1, 1, 0, 1, 0, 0]), (1, [0]), (0, [1, 1, 1, 1, 1, 1, 1, 1])], fun σ w => dP (slotOf σ 0) fun t_ => dI .i64 (slotOf σ 1) fun lport_ => dI .i64 (slotOf σ 2) fun rhost_ => dI .i64 (slotOf σ 3) fun rport_ => dI .i64 (slotOf σ 10) fun l_ => dI .i64 (slotOf σ 11) fun n_ => dI .i64 (slotOf σ 12) fun i_ => sB3 t_ lport_ rhost_ rport_ l_ n_ i_ w),
    ([(0, [1, 1, 1, 1, 1, 1, 1, 1, 1, 0, 1]), (0, [1, 1, 1, 1, 1, 1, 1, 1, 1, 1])], fun σ w => dP (slotOf σ 0) fun t_ => dI .i64 (slotOf σ 1) fun lport_ => dI .i64 (slotOf σ 2) fun rhost_ => dI .i64 (slotOf σ 3) fun rport_ => dI .i64 (slotOf σ 10) fun l_ => dI .i64 (slotOf σ 13) fun s_ => dB (slotOf σ 66) fun t66_ => sB4 t_ lport_ rhost_ rport_ l_ s_ t66_ w)] 2000) [(0, [1, 1, 1, 1, 1, 1, 1, 0, 1, 0, 0]), (2, [1, 1, 1, 1, 1, 1, 1, 0, 1, 0, 0]), (1, [0]), (0, [1, 1, 1, 1, 1, 1, 1, 1])] [(0, .pointer t), (1, .int .i64 lport), (2, .int .i64 rhost), (3, .int .i64 rport), (10, .int .i64 l), (11, .int .i64 n), (12, .int .i64 i)] w := by kernel_rfl
theorem sockm_Table_Child.L1b_sound {R : Int → Int → World → Prop} {N1 : Option Addr → Int → Int → Int → Int → Int → Int → World → Prop} (hN1 : ∀ t lport rhost rport l n i w, N1 t lport rhost rport l n i w → KW Try.prog 47 75 (sockm_Table_Child.RV R) ([(0, [1, 1, 1, 1, 1, 1, 1, 0, 1, 0, 0]), (2, [1, 1, 1, 1, 1, 1, 1, 0, 1, 0, 0]), (1, [0]), (0, [1, 1, 1, 1, 1, 1, 1, 1])].map (toItem (Try.f47.body.getD .skip))) [(0, .pointer t), (1, .int .i64 lport), (2, .int .i64 rhost), (3, .int .i64 rport), (10, .int .i64 l), (11, .int .i64 n), (12, .int .i64 i)] w) (t : Option Addr) (lport rhost rport l n i : Int) (w : World) (h : sockm_Table_Child.L1b t lport rhost rport l n i w  N1 R) :
    KW Try.prog 47 75 (sockm_Table_Child.RV R) ([(0, [1, 1, 1, 1, 1, 1, 1, 0, 1, 0, 0]), (2, [1, 1, 1, 1, 1, 1, 1, 0, 1, 0, 0]), (1, [0]), (0, [1, 1, 1, 1, 1, 1, 1, 1])].map (toItem (Try.f47.body.getD .skip))) [(0, .pointer t), (1, .int .i64 lport), (2, .int .i64 rhost), (3, .int .i64 rport), (10, .int .i64 l), (11, .int .i64 n), (12, .int .i64 i)] w := by
  exact block_spec Try.func47 Try.mixed (stops_cons (fun σ w h => by
      obtain ⟨t_, e0, h⟩ := dP_elim h
      obtain ⟨lport_, e1, h⟩ := dI_elim h
      obtain ⟨rhost_, e2, h⟩ := dI_elim h
      obtain ⟨rport_, e3, h⟩ := dI_elim h
      obtain ⟨l_, e4, h⟩ := dI_elim h
      obtain ⟨n_, e5, h⟩ := dI_elim h
      obtain ⟨i_, e6, h⟩ := dI_elim h
      exact (sockm_Table_Child.B3_sound hN1 t_ lport_ rhost_ rport_ l_ n_ i_ w h).weaken (Sub.cons (Sub.cons (Sub.cons (Sub.cons (Sub.cons (Sub.cons (Sub.cons (Sub.nil _) e6) e5) e4) e3) e2) e1) e0)) (stops_cons (fun σ w h => by
      obtain ⟨t_, e0, h⟩ := dP_elim h
      obtain ⟨lport_, e1, h⟩ := dI_elim h
      obtain ⟨rhost_, e2, h⟩ := dI_elim h
      obtain ⟨rport_, e3, h⟩ := dI_elim h
      obtain ⟨l_, e4, h⟩ := dI_elim h
      obtain ⟨s_, e5, h⟩ := dI_elim h
      obtain ⟨t66_, e6, h⟩ := dB_elim h
      exact (sockm_Table_Child.B4_sound  t_ lport_ rhost_ rport_ l_ s_ t66_ w h).weaken (Sub.cons (Sub.cons (Sub.cons (Sub.cons (Sub.cons (Sub.cons (Sub.cons (Sub.nil _) e6) e5) e4) e3) e2) e1) e0)) stops_nil)) (Eq.mp (sockm_Table_Child.L1b_eq t lport rhost rport l n i w  N1 R (fun t_ lport_ rhost_ rport_ l_ n_ i_ w => sockm_Table_Child.B3 t_ lport_ rhost_ rport_ l_ n_ i_ w N1 R) (fun t_ lport_ rhost_ rport_ l_ s_ t66_ w => sockm_Table_Child.B4 t_ lport_ rhost_ rport_ l_ s_ t66_ w  R)) h)
def sockm_Table_Child.L1 (t : Option Addr) (lport rhost rport l n i : Int) (w : World)  (R : Int → Int → World → Prop) : Prop :=
  ∃ (I : Nat → Option Addr → Int → Int → Int → Int → Int → Int → World → Prop) (m : Nat), I m t lport rhost rport l n i w ∧ ∀ m t lport rhost rport l n i w, I m t lport rhost rport l n i w → sockm_Table_Child.L1b t lport rhost rport l n i w  (fun t' lport' rhost' rport' l' n' i' w' => ∃ m', m' < m ∧ I m' t' lport' rhost' rport' l' n' i' w') R
theorem sockm_Table_Child.L1_sound {R : Int → Int → World → Prop}  (t : Option Addr) (lport rhost rport l n i : Int) (w : World) (h : sockm_Table_Child.L1 t lport rhost rport l n i w  R) :
    KW Try.prog 47 75 (sockm_Table_Child.RV R) ([(0, [1, 1, 1, 1, 1, 1, 1, 0, 1, 0, 0]), (2, [1, 1, 1, 1, 1, 1, 1, 0, 1, 0, 0]), (1, [0]), (0, [1, 1, 1, 1, 1, 1, 1, 1])].map (toItem (Try.f47.body.getD .skip))) [(0, .pointer t), (1, .int .i64 lport), (2, .int .i64 rhost), (3, .int .i64 rport), (10, .int .i64 l), (11, .int .i64 n), (12, .int .i64 i)] w := by
  obtain ⟨I, m, hBase, hr⟩ := h
  refine KW.loop (fun m σ w => ∃ (t : Option Addr) (lport rhost rport l n i : Int), σ = [(0, .pointer t), (1, .int .i64 lport), (2, .int .i64 rhost), (3, .int .i64 rport), (10, .int .i64 l), (11, .int .i64 n), (12, .int .i64 i)] ∧ I m t lport rhost rport l n i w) ?_ m _ w ⟨t, lport, rhost, rport, l, n, i, rfl, hBase⟩
  rintro m ih σ w ⟨t, lport, rhost, rport, l, n, i, rfl, hI⟩
  exact sockm_Table_Child.L1b_sound  (N1 := fun t' lport' rhost' rport' l' n' i' w' => ∃ m', m' < m ∧ I m' t' lport' rhost' rport' l' n' i' w') (fun t' lport' rhost' rport' l' n' i' w' hx => by obtain ⟨m', hlt, hI'⟩ := hx; exact ih m' hlt _ w' ⟨t', lport', rhost', rport', l', n', i', rfl, hI'⟩) t lport rhost rport l n i w (hr m t lport rhost rport l n i w hI)
def sockm_Table_Child.B2 (t : Option Addr) (lport rhost rport l : Int) (t30 : Bool) (w : World)   (R : Int → Int → World → Prop) : Prop :=
  Bm t30 (
    R (0 : Int) (22 : Int) w) (
    sockm_Table_Lookup.Call t lport rhost rport w fun r35 w1 =>
    Bm (r35 != (0 : Int)) (
      R (0 : Int) (23 : Int) w1) (
      sockm_Table_Child.L1 t lport rhost rport l (0 : Int) (0 : Int) w1  R))
theorem sockm_Table_Child.B2_eq (t : Option Addr) (lport rhost rport l : Int) (t30 : Bool) (w : World)   (R : Int → Int → World → Prop) (sL1 : Option Addr → Int → Int → Int → Int → Int → Int → World → Prop) :
    (
  Bm t30 (
    R (0 : Int) (22 : Int) w) (
    sockm_Table_Lookup.Call t lport rhost rport w fun r35 w1 =>
    Bm (r35 != (0 : Int)) (
      R (0 : Int) (23 : Int) w1) (
      sL1 t lport rhost rport l (0 : Int) (0 : Int) w1))) = kstep Try.prog 75 Try.f47.results.toList (Try.f47.body.getD .skip) (sockm_Table_Child.RV R) (kvc Try.prog 75 Try.f47.results.toList (Try.f47.body.getD .skip) (sockm_Table_Child.RV R) [([(0, [1, 1, 1, 1, 1, 1, 1, 0, 1, 0, 0]), (2, [1, 1, 1, 1, 1, 1, 1, 0, 1, 0, 0]), (1, [0]), (0, [1, 1, 1, 1, 1, 1, 1, 1])], fun σ w => dP (slotOf σ 0) fun t_ => dI .i64 (slotOf σ 1) fun lport_ => dI .i64 (slotOf σ 2) fun rhost_ => dI .i64 (slotOf σ 3) fun rport_ => dI .i64 (slotOf σ 10) fun l_ => dI .i64 (slotOf σ 11) fun n_ => dI .i64 (slotOf σ 12) fun i_ => sL1 t_ lport_ rhost_ rport_ l_ n_ i_ w)] 2000) [(0, [1, 1, 1, 1, 0, 1]), (0, [1, 1, 1, 1, 1])] [(0, .pointer t), (1, .int .i64 lport), (2, .int .i64 rhost), (3, .int .i64 rport), (10, .int .i64 l), (30, .bool t30)] w := by kernel_rfl
theorem sockm_Table_Child.B2_sound {R : Int → Int → World → Prop}  (t : Option Addr) (lport rhost rport l : Int) (t30 : Bool) (w : World) (h : sockm_Table_Child.B2 t lport rhost rport l t30 w   R) :
    KW Try.prog 47 75 (sockm_Table_Child.RV R) ([(0, [1, 1, 1, 1, 0, 1]), (0, [1, 1, 1, 1, 1])].map (toItem (Try.f47.body.getD .skip))) [(0, .pointer t), (1, .int .i64 lport), (2, .int .i64 rhost), (3, .int .i64 rport), (10, .int .i64 l), (30, .bool t30)] w := by
  exact block_spec Try.func47 Try.mixed (stops_cons (fun σ w h => by
      obtain ⟨t_, e0, h⟩ := dP_elim h
      obtain ⟨lport_, e1, h⟩ := dI_elim h
      obtain ⟨rhost_, e2, h⟩ := dI_elim h
      obtain ⟨rport_, e3, h⟩ := dI_elim h
      obtain ⟨l_, e4, h⟩ := dI_elim h
      obtain ⟨n_, e5, h⟩ := dI_elim h
      obtain ⟨i_, e6, h⟩ := dI_elim h
      exact (sockm_Table_Child.L1_sound  t_ lport_ rhost_ rport_ l_ n_ i_ w h).weaken (Sub.cons (Sub.cons (Sub.cons (Sub.cons (Sub.cons (Sub.cons (Sub.cons (Sub.nil _) e6) e5) e4) e3) e2) e1) e0)) stops_nil) (Eq.mp (sockm_Table_Child.B2_eq t lport rhost rport l t30 w   R (fun t_ lport_ rhost_ rport_ l_ n_ i_ w => sockm_Table_Child.L1 t_ lport_ rhost_ rport_ l_ n_ i_ w  R)) h)
def sockm_Table_Child.B1 (t : Option Addr) (lport rhost rport l : Int) (t24 : Bool) (w : World)   (R : Int → Int → World → Prop) : Prop :=
  Bm t24 (
    R (0 : Int) (5 : Int) w) (
    Bm (decide (rport < (1 : Int))) (
      sockm_Table_Child.B2 t lport rhost rport l true w  R) (
      sockm_Table_Child.B2 t lport rhost rport l (decide (rport > (15 : Int))) w  R))
theorem sockm_Table_Child.B1_eq (t : Option Addr) (lport rhost rport l : Int) (t24 : Bool) (w : World)   (R : Int → Int → World → Prop) (sB2 : Option Addr → Int → Int → Int → Int → Bool → World → Prop) :
    (
  Bm t24 (
    R (0 : Int) (5 : Int) w) (
    Bm (decide (rport < (1 : Int))) (
      sB2 t lport rhost rport l true w) (
      sB2 t lport rhost rport l (decide (rport > (15 : Int))) w))) = kstep Try.prog 75 Try.f47.results.toList (Try.f47.body.getD .skip) (sockm_Table_Child.RV R) (kvc Try.prog 75 Try.f47.results.toList (Try.f47.body.getD .skip) (sockm_Table_Child.RV R) [([(0, [1, 1, 1, 1, 0, 1]), (0, [1, 1, 1, 1, 1])], fun σ w => dP (slotOf σ 0) fun t_ => dI .i64 (slotOf σ 1) fun lport_ => dI .i64 (slotOf σ 2) fun rhost_ => dI .i64 (slotOf σ 3) fun rport_ => dI .i64 (slotOf σ 10) fun l_ => dB (slotOf σ 30) fun t30_ => sB2 t_ lport_ rhost_ rport_ l_ t30_ w)] 2000) [(0, [1, 1, 1, 0, 1]), (0, [1, 1, 1, 1])] [(0, .pointer t), (1, .int .i64 lport), (2, .int .i64 rhost), (3, .int .i64 rport), (10, .int .i64 l), (24, .bool t24)] w := by kernel_rfl
theorem sockm_Table_Child.B1_sound {R : Int → Int → World → Prop}  (t : Option Addr) (lport rhost rport l : Int) (t24 : Bool) (w : World) (h : sockm_Table_Child.B1 t lport rhost rport l t24 w   R) :
    KW Try.prog 47 75 (sockm_Table_Child.RV R) ([(0, [1, 1, 1, 0, 1]), (0, [1, 1, 1, 1])].map (toItem (Try.f47.body.getD .skip))) [(0, .pointer t), (1, .int .i64 lport), (2, .int .i64 rhost), (3, .int .i64 rport), (10, .int .i64 l), (24, .bool t24)] w := by
  exact block_spec Try.func47 Try.mixed (stops_cons (fun σ w h => by
      obtain ⟨t_, e0, h⟩ := dP_elim h
      obtain ⟨lport_, e1, h⟩ := dI_elim h
      obtain ⟨rhost_, e2, h⟩ := dI_elim h
      obtain ⟨rport_, e3, h⟩ := dI_elim h
      obtain ⟨l_, e4, h⟩ := dI_elim h
      obtain ⟨t30_, e5, h⟩ := dB_elim h
      exact (sockm_Table_Child.B2_sound  t_ lport_ rhost_ rport_ l_ t30_ w h).weaken (Sub.cons (Sub.cons (Sub.cons (Sub.cons (Sub.cons (Sub.cons (Sub.nil _) e5) e4) e3) e2) e1) e0)) stops_nil) (Eq.mp (sockm_Table_Child.B1_eq t lport rhost rport l t24 w   R (fun t_ lport_ rhost_ rport_ l_ t30_ w => sockm_Table_Child.B2 t_ lport_ rhost_ rport_ l_ t30_ w  R)) h)
def sockm_Table_Child.B0 (t : Option Addr) (lport rhost rport : Int) (w : World)   (R : Int → Int → World → Prop) : Prop :=
  sockm_Table_Listener.Call t lport w fun r16 w1 =>
  Bm (r16 == (0 : Int)) (
    R (0 : Int) (21 : Int) w1) (
    Bm (decide (rhost < (1 : Int))) (
      sockm_Table_Child.B1 t lport rhost rport r16 true w1  R) (
      sockm_Table_Child.B1 t lport rhost rport r16 (decide (rhost > (255 : Int))) w1  R))
theorem sockm_Table_Child.B0_eq (t : Option Addr) (lport rhost rport : Int) (w : World)   (R : Int → Int → World → Prop) (sB1 : Option Addr → Int → Int → Int → Int → Bool → World → Prop) :
    (
  sockm_Table_Listener.Call t lport w fun r16 w1 =>
  Bm (r16 == (0 : Int)) (
    R (0 : Int) (21 : Int) w1) (
    Bm (decide (rhost < (1 : Int))) (
      sB1 t lport rhost rport r16 true w1) (
      sB1 t lport rhost rport r16 (decide (rhost > (255 : Int))) w1))) = kstep Try.prog 75 Try.f47.results.toList (Try.f47.body.getD .skip) (sockm_Table_Child.RV R) (kvc Try.prog 75 Try.f47.results.toList (Try.f47.body.getD .skip) (sockm_Table_Child.RV R) [([(0, [1, 1, 1, 0, 1]), (0, [1, 1, 1, 1])], fun σ w => dP (slotOf σ 0) fun t_ => dI .i64 (slotOf σ 1) fun lport_ => dI .i64 (slotOf σ 2) fun rhost_ => dI .i64 (slotOf σ 3) fun rport_ => dI .i64 (slotOf σ 10) fun l_ => dB (slotOf σ 24) fun t24_ => sB1 t_ lport_ rhost_ rport_ l_ t24_ w)] 2000) [(0, [])] [(0, .pointer t), (1, .int .i64 lport), (2, .int .i64 rhost), (3, .int .i64 rport)] w := by kernel_rfl
theorem sockm_Table_Child.B0_sound {R : Int → Int → World → Prop}  (t : Option Addr) (lport rhost rport : Int) (w : World) (h : sockm_Table_Child.B0 t lport rhost rport w   R) :
    KW Try.prog 47 75 (sockm_Table_Child.RV R) ([(0, [])].map (toItem (Try.f47.body.getD .skip))) [(0, .pointer t), (1, .int .i64 lport), (2, .int .i64 rhost), (3, .int .i64 rport)] w := by
  exact block_spec Try.func47 Try.mixed (stops_cons (fun σ w h => by
      obtain ⟨t_, e0, h⟩ := dP_elim h
      obtain ⟨lport_, e1, h⟩ := dI_elim h
      obtain ⟨rhost_, e2, h⟩ := dI_elim h
      obtain ⟨rport_, e3, h⟩ := dI_elim h
      obtain ⟨l_, e4, h⟩ := dI_elim h
      obtain ⟨t24_, e5, h⟩ := dB_elim h
      exact (sockm_Table_Child.B1_sound  t_ lport_ rhost_ rport_ l_ t24_ w h).weaken (Sub.cons (Sub.cons (Sub.cons (Sub.cons (Sub.cons (Sub.cons (Sub.nil _) e5) e4) e3) e2) e1) e0)) stops_nil) (Eq.mp (sockm_Table_Child.B0_eq t lport rhost rport w   R (fun t_ lport_ rhost_ rport_ l_ t24_ w => sockm_Table_Child.B1 t_ lport_ rhost_ rport_ l_ t24_ w  R)) h)
theorem sockm_Table_Child.sound (t : Option Addr) (lport rhost rport : Int) (w : World) (R : Int → Int → World → Prop) (h : sockm_Table_Child.B0 t lport rhost rport w R) : sockm_Table_Child.Call t lport rhost rport w R := by
  have hc := calls_of_block (args := #[.pointer t, .int .i64 lport, .int .i64 rhost, .int .i64 rport]) Try.func47 (body := (Try.f47.body.getD .skip)) (by kernel_rfl) (by kernel_rfl) (args_slot _) (sockm_Table_Child.B0_sound t lport rhost rport w h)
  exact hc.mono fun e w' he => by
    obtain ⟨v, rfl, hv⟩ := he
    exact sockm_Table_Child.RV_elim hv
def sock_Table_Ready.B1 (t : Option Addr) (sd i : Int) (t22 : Bool) (w : World)   (R : Int → World → Prop) : Prop :=
  Bm t22 (
    R (21 : Int) w) (
    Pn t fun a =>
    (0 ≤ i ∧ i < ((6 : Nat) : Int)) ∧
    LdB (((Addr.add a (i.toNat * 15)).add 1).add 7) w fun x30 =>
    Bm x30 (
      R (13 : Int) w) (
      Pn t fun a_1 =>
      (0 ≤ i ∧ i < ((6 : Nat) : Int)) ∧
      LdI .i64 (((Addr.add a_1 (i.toNat * 15)).add 1).add 2) w fun x39 =>
      sock_Table_listenerRow.Call t x39 w fun r40 w1 =>
      Bm (r40 == (-1 : Int)) (
        R (21 : Int) w1) (
        Pn t fun a_2 =>
        (0 ≤ i ∧ i < ((6 : Nat) : Int)) ∧
        Sts [.bool true] (((Addr.add a_2 (i.toNat * 15)).add 1).add 7) 0 w1 fun w2 =>
        sock_Table_enqueue.Call t r40 sd w2 fun w3 =>
        R (0 : Int) w3)))
theorem sock_Table_Ready.B1_eq (t : Option Addr) (sd i : Int) (t22 : Bool) (w : World)   (R : Int → World → Prop)  :
    (
  Bm t22 (
    R (21 : Int) w) (
    Pn t fun a =>
    (0 ≤ i ∧ i < ((6 : Nat) : Int)) ∧
    LdB (((Addr.add a (i.toNat * 15)).add 1).add 7) w fun x30 =>
    Bm x30 (
      R (13 : Int) w) (
      Pn t fun a_1 =>
      (0 ≤ i ∧ i < ((6 : Nat) : Int)) ∧
      LdI .i64 (((Addr.add a_1 (i.toNat * 15)).add 1).add 2) w fun x39 =>
      sock_Table_listenerRow.Call t x39 w fun r40 w1 =>
      Bm (r40 == (-1 : Int)) (
        R (21 : Int) w1) (
        Pn t fun a_2 =>
        (0 ≤ i ∧ i < ((6 : Nat) : Int)) ∧
        Sts [.bool true] (((Addr.add a_2 (i.toNat * 15)).add 1).add 7) 0 w1 fun w2 =>
        sock_Table_enqueue.Call t r40 sd w2 fun w3 =>
        R (0 : Int) w3)))) = kstep Try.prog 54 Try.f48.results.toList (Try.f48.body.getD .skip) (sock_Table_Ready.RV R) (kvc Try.prog 54 Try.f48.results.toList (Try.f48.body.getD .skip) (sock_Table_Ready.RV R) [] 2000) [(0, [1, 1, 0, 1]), (0, [1, 1, 1])] [(0, .pointer t), (1, .int .i64 sd), (5, .int .i64 i), (22, .bool t22)] w := by kernel_rfl
theorem sock_Table_Ready.B1_sound {R : Int → World → Prop}  (t : Option Addr) (sd i : Int) (t22 : Bool) (w : World) (h : sock_Table_Ready.B1 t sd i t22 w   R) :
    KW Try.prog 48 54 (sock_Table_Ready.RV R) ([(0, [1, 1, 0, 1]), (0, [1, 1, 1])].map (toItem (Try.f48.body.getD .skip))) [(0, .pointer t), (1, .int .i64 sd), (5, .int .i64 i), (22, .bool t22)] w := by
  exact block_spec Try.func48 Try.mixed stops_nil (Eq.mp (sock_Table_Ready.B1_eq t sd i t22 w   R ) h)
def sock_Table_Ready.B0 (t : Option Addr) (sd : Int) (w : World)   (R : Int → World → Prop) : Prop :=
  sock_Table_find.Call t sd w fun r9 w1 =>
  Bm (r9 == (-1 : Int)) (
    sock_Table_Ready.B1 t sd r9 true w1  R) (
    Pn t fun a =>
    (0 ≤ r9 ∧ r9 < ((6 : Nat) : Int)) ∧
    LdI .i64 (((Addr.add a (r9.toNat * 15)).add 1).add 6) w1 fun x20 =>
    sock_Table_Ready.B1 t sd r9 (x20 == (0 : Int)) w1  R)
theorem sock_Table_Ready.B0_eq (t : Option Addr) (sd : Int) (w : World)   (R : Int → World → Prop) (sB1 : Option Addr → Int → Int → Bool → World → Prop) :
    (
  sock_Table_find.Call t sd w fun r9 w1 =>
  Bm (r9 == (-1 : Int)) (
    sB1 t sd r9 true w1) (
    Pn t fun a =>
    (0 ≤ r9 ∧ r9 < ((6 : Nat) : Int)) ∧
    LdI .i64 (((Addr.add a (r9.toNat * 15)).add 1).add 6) w1 fun x20 =>
    sB1 t sd r9 (x20 == (0 : Int)) w1)) = kstep Try.prog 54 Try.f48.results.toList (Try.f48.body.getD .skip) (sock_Table_Ready.RV R) (kvc Try.prog 54 Try.f48.results.toList (Try.f48.body.getD .skip) (sock_Table_Ready.RV R) [([(0, [1, 1, 0, 1]), (0, [1, 1, 1])], fun σ w => dP (slotOf σ 0) fun t_ => dI .i64 (slotOf σ 1) fun sd_ => dI .i64 (slotOf σ 5) fun i_ => dB (slotOf σ 22) fun t22_ => sB1 t_ sd_ i_ t22_ w)] 2000) [(0, [])] [(0, .pointer t), (1, .int .i64 sd)] w := by kernel_rfl
theorem sock_Table_Ready.B0_sound {R : Int → World → Prop}  (t : Option Addr) (sd : Int) (w : World) (h : sock_Table_Ready.B0 t sd w   R) :
    KW Try.prog 48 54 (sock_Table_Ready.RV R) ([(0, [])].map (toItem (Try.f48.body.getD .skip))) [(0, .pointer t), (1, .int .i64 sd)] w := by
  exact block_spec Try.func48 Try.mixed (stops_cons (fun σ w h => by
      obtain ⟨t_, e0, h⟩ := dP_elim h
      obtain ⟨sd_, e1, h⟩ := dI_elim h
      obtain ⟨i_, e2, h⟩ := dI_elim h
      obtain ⟨t22_, e3, h⟩ := dB_elim h
      exact (sock_Table_Ready.B1_sound  t_ sd_ i_ t22_ w h).weaken (Sub.cons (Sub.cons (Sub.cons (Sub.cons (Sub.nil _) e3) e2) e1) e0)) stops_nil) (Eq.mp (sock_Table_Ready.B0_eq t sd w   R (fun t_ sd_ i_ t22_ w => sock_Table_Ready.B1 t_ sd_ i_ t22_ w  R)) h)
theorem sock_Table_Ready.sound (t : Option Addr) (sd : Int) (w : World) (R : Int → World → Prop) (h : sock_Table_Ready.B0 t sd w R) : sock_Table_Ready.Call t sd w R := by
  have hc := calls_of_block (args := #[.pointer t, .int .i64 sd]) Try.func48 (body := (Try.f48.body.getD .skip)) (by kernel_rfl) (by kernel_rfl) (args_slot _) (sock_Table_Ready.B0_sound t sd w h)
  exact hc.mono fun e w' he => by
    obtain ⟨v, rfl, hv⟩ := he
    exact sock_Table_Ready.RV_elim hv
def sockm_Table_Ready.B1 (t : Option Addr) (i : Int) (t22 : Bool) (w : World)   (R : Int → World → Prop) : Prop :=
  Bm t22 (
    R (21 : Int) w) (
    Pn t fun a =>
    LdL a w fun x26_b x26_l x26_c =>
    Pn x26_b fun a_1 =>
    (0 ≤ i ∧ i < ((x26_l : Nat) : Int)) ∧
    LdB ((Addr.add a_1 (i.toNat * 9)).add 7) w fun x31 =>
    Bm x31 (
      R (13 : Int) w) (
      Pn t fun a_2 =>
      LdL a_2 w fun x35_b x35_l x35_c =>
      Pn x35_b fun a_3 =>
      (0 ≤ i ∧ i < ((x35_l : Nat) : Int)) ∧
      Sts [.bool true] ((Addr.add a_3 (i.toNat * 9)).add 7) 0 w fun w1 =>
      Pn t fun a_4 =>
      LdI .i64 (a_4.add 3) w1 fun x43 =>
      Pn t fun a_5 =>
      Sts [.int .i64 (IntKind.i64.wrap (x43 + (1 : Int)))] (a_5.add 3) 0 w1 fun w2 =>
      Pn t fun a_6 =>
      LdL a_6 w2.drew fun x50_b x50_l x50_c =>
      Pn t fun a_7 =>
      LdI .i64 (a_7.add 3) w2.drew fun x55 =>
      Pn x50_b fun a_8 =>
      (0 ≤ i ∧ i < ((x50_l : Nat) : Int)) ∧
      Sts [.int .i64 x55] ((Addr.add a_8 (i.toNat * 9)).add 8) 0 w2.drew fun w3 =>
      R (0 : Int) w3))
theorem sockm_Table_Ready.B1_eq (t : Option Addr) (i : Int) (t22 : Bool) (w : World)   (R : Int → World → Prop)  :
    (
  Bm t22 (
    R (21 : Int) w) (
    Pn t fun a =>
    LdL a w fun x26_b x26_l x26_c =>
    Pn x26_b fun a_1 =>
    (0 ≤ i ∧ i < ((x26_l : Nat) : Int)) ∧
    LdB ((Addr.add a_1 (i.toNat * 9)).add 7) w fun x31 =>
    Bm x31 (
      R (13 : Int) w) (
      Pn t fun a_2 =>
      LdL a_2 w fun x35_b x35_l x35_c =>
      Pn x35_b fun a_3 =>
      (0 ≤ i ∧ i < ((x35_l : Nat) : Int)) ∧
      Sts [.bool true] ((Addr.add a_3 (i.toNat * 9)).add 7) 0 w fun w1 =>
      Pn t fun a_4 =>
      LdI .i64 (a_4.add 3) w1 fun x43 =>
      Pn t fun a_5 =>
      Sts [.int .i64 (IntKind.i64.wrap (x43 + (1 : Int)))] (a_5.add 3) 0 w1 fun w2 =>
      Pn t fun a_6 =>
      LdL a_6 w2.drew fun x50_b x50_l x50_c =>
      Pn t fun a_7 =>
      LdI .i64 (a_7.add 3) w2.drew fun x55 =>
      Pn x50_b fun a_8 =>
      (0 ≤ i ∧ i < ((x50_l : Nat) : Int)) ∧
      Sts [.int .i64 x55] ((Addr.add a_8 (i.toNat * 9)).add 8) 0 w2.drew fun w3 =>
      R (0 : Int) w3))) = kstep Try.prog 58 Try.f49.results.toList (Try.f49.body.getD .skip) (sockm_Table_Ready.RV R) (kvc Try.prog 58 Try.f49.results.toList (Try.f49.body.getD .skip) (sockm_Table_Ready.RV R) [] 2000) [(0, [1, 1, 0, 1]), (0, [1, 1, 1])] [(0, .pointer t), (5, .int .i64 i), (22, .bool t22)] w := by kernel_rfl
theorem sockm_Table_Ready.B1_sound {R : Int → World → Prop}  (t : Option Addr) (i : Int) (t22 : Bool) (w : World) (h : sockm_Table_Ready.B1 t i t22 w   R) :
    KW Try.prog 49 58 (sockm_Table_Ready.RV R) ([(0, [1, 1, 0, 1]), (0, [1, 1, 1])].map (toItem (Try.f49.body.getD .skip))) [(0, .pointer t), (5, .int .i64 i), (22, .bool t22)] w := by
  exact block_spec Try.func49 Try.mixed stops_nil (Eq.mp (sockm_Table_Ready.B1_eq t i t22 w   R ) h)
def sockm_Table_Ready.B0 (t : Option Addr) (sd : Int) (w : World)   (R : Int → World → Prop) : Prop :=
  sockm_Table_at.Call t sd w fun r8 w1 =>
  Bm (decide (r8 < (0 : Int))) (
    sockm_Table_Ready.B1 t r8 true w1  R) (
    Pn t fun a =>
    LdL a w1 fun x15_b x15_l x15_c =>
    Pn x15_b fun a_1 =>
    (0 ≤ r8 ∧ r8 < ((x15_l : Nat) : Int)) ∧
    LdI .i64 ((Addr.add a_1 (r8.toNat * 9)).add 6) w1 fun x20 =>
    sockm_Table_Ready.B1 t r8 (x20 == (0 : Int)) w1  R)
theorem sockm_Table_Ready.B0_eq (t : Option Addr) (sd : Int) (w : World)   (R : Int → World → Prop) (sB1 : Option Addr → Int → Bool → World → Prop) :
    (
  sockm_Table_at.Call t sd w fun r8 w1 =>
  Bm (decide (r8 < (0 : Int))) (
    sB1 t r8 true w1) (
    Pn t fun a =>
    LdL a w1 fun x15_b x15_l x15_c =>
    Pn x15_b fun a_1 =>
    (0 ≤ r8 ∧ r8 < ((x15_l : Nat) : Int)) ∧
    LdI .i64 ((Addr.add a_1 (r8.toNat * 9)).add 6) w1 fun x20 =>
    sB1 t r8 (x20 == (0 : Int)) w1)) = kstep Try.prog 58 Try.f49.results.toList (Try.f49.body.getD .skip) (sockm_Table_Ready.RV R) (kvc Try.prog 58 Try.f49.results.toList (Try.f49.body.getD .skip) (sockm_Table_Ready.RV R) [([(0, [1, 1, 0, 1]), (0, [1, 1, 1])], fun σ w => dP (slotOf σ 0) fun t_ => dI .i64 (slotOf σ 5) fun i_ => dB (slotOf σ 22) fun t22_ => sB1 t_ i_ t22_ w)] 2000) [(0, [])] [(0, .pointer t), (1, .int .i64 sd)] w := by kernel_rfl
theorem sockm_Table_Ready.B0_sound {R : Int → World → Prop}  (t : Option Addr) (sd : Int) (w : World) (h : sockm_Table_Ready.B0 t sd w   R) :
    KW Try.prog 49 58 (sockm_Table_Ready.RV R) ([(0, [])].map (toItem (Try.f49.body.getD .skip))) [(0, .pointer t), (1, .int .i64 sd)] w := by
  exact block_spec Try.func49 Try.mixed (stops_cons (fun σ w h => by
      obtain ⟨t_, e0, h⟩ := dP_elim h
      obtain ⟨i_, e1, h⟩ := dI_elim h
      obtain ⟨t22_, e2, h⟩ := dB_elim h
      exact (sockm_Table_Ready.B1_sound  t_ i_ t22_ w h).weaken (Sub.cons (Sub.cons (Sub.cons (Sub.nil _) e2) e1) e0)) stops_nil) (Eq.mp (sockm_Table_Ready.B0_eq t sd w   R (fun t_ i_ t22_ w => sockm_Table_Ready.B1 t_ i_ t22_ w  R)) h)
theorem sockm_Table_Ready.sound (t : Option Addr) (sd : Int) (w : World) (R : Int → World → Prop) (h : sockm_Table_Ready.B0 t sd w R) : sockm_Table_Ready.Call t sd w R := by
  have hc := calls_of_block (args := #[.pointer t, .int .i64 sd]) Try.func49 (body := (Try.f49.body.getD .skip)) (by kernel_rfl) (by kernel_rfl) (args_slot _) (sockm_Table_Ready.B0_sound t sd w h)
  exact hc.mono fun e w' he => by
    obtain ⟨v, rfl, hv⟩ := he
    exact sockm_Table_Ready.RV_elim hv
def sock_Table_Accept.B1 (t : Option Addr) (l : Int) (t24 : Bool) (w : World)   (R : Int → Int → World → Prop) : Prop :=
  Bm t24 (
    R (0 : Int) (21 : Int) w) (
    Pn t fun a =>
    (0 ≤ l ∧ l < ((6 : Nat) : Int)) ∧
    LdI .i64 ((Addr.add a (l.toNat * 15)).add 14) w fun x31 =>
    Bm (x31 == (0 : Int)) (
      R (0 : Int) (14 : Int) w) (
      sock_Table_dequeue.Call t l w fun r35 w1 =>
      Pn t fun a_1 =>
      (0 ≤ l ∧ l < ((6 : Nat) : Int)) ∧
      LdI .i64 ((Addr.add a_1 (l.toNat * 15)).add 10) w1.drew fun x42 =>
      Pn t fun a_2 =>
      (0 ≤ l ∧ l < ((6 : Nat) : Int)) ∧
      Sts [.int .i64 (IntKind.i64.wrap (x42 - (1 : Int)))] ((Addr.add a_2 (l.toNat * 15)).add 10) 0 w1.drew fun w2 =>
      sock_Table_find.Call t r35 w2 fun r50 w3 =>
      Bm (r50 != (-1 : Int)) (
        Pn t fun a_3 =>
        (0 ≤ r50 ∧ r50 < ((6 : Nat) : Int)) ∧
        Sts [.int .i64 (0 : Int)] (((Addr.add a_3 (r50.toNat * 15)).add 1).add 6) 0 w3 fun w4 =>
        Pn t fun a_4 =>
        (0 ≤ r50 ∧ r50 < ((6 : Nat) : Int)) ∧
        Sts [.bool false] (((Addr.add a_4 (r50.toNat * 15)).add 1).add 7) 0 w4 fun w5 =>
        R r35 (0 : Int) w5) (
        R r35 (0 : Int) w3)))
theorem sock_Table_Accept.B1_eq (t : Option Addr) (l : Int) (t24 : Bool) (w : World)   (R : Int → Int → World → Prop)  :
    (
  Bm t24 (
    R (0 : Int) (21 : Int) w) (
    Pn t fun a =>
    (0 ≤ l ∧ l < ((6 : Nat) : Int)) ∧
    LdI .i64 ((Addr.add a (l.toNat * 15)).add 14) w fun x31 =>
    Bm (x31 == (0 : Int)) (
      R (0 : Int) (14 : Int) w) (
      sock_Table_dequeue.Call t l w fun r35 w1 =>
      Pn t fun a_1 =>
      (0 ≤ l ∧ l < ((6 : Nat) : Int)) ∧
      LdI .i64 ((Addr.add a_1 (l.toNat * 15)).add 10) w1.drew fun x42 =>
      Pn t fun a_2 =>
      (0 ≤ l ∧ l < ((6 : Nat) : Int)) ∧
      Sts [.int .i64 (IntKind.i64.wrap (x42 - (1 : Int)))] ((Addr.add a_2 (l.toNat * 15)).add 10) 0 w1.drew fun w2 =>
      sock_Table_find.Call t r35 w2 fun r50 w3 =>
      Bm (r50 != (-1 : Int)) (
        Pn t fun a_3 =>
        (0 ≤ r50 ∧ r50 < ((6 : Nat) : Int)) ∧
        Sts [.int .i64 (0 : Int)] (((Addr.add a_3 (r50.toNat * 15)).add 1).add 6) 0 w3 fun w4 =>
        Pn t fun a_4 =>
        (0 ≤ r50 ∧ r50 < ((6 : Nat) : Int)) ∧
        Sts [.bool false] (((Addr.add a_4 (r50.toNat * 15)).add 1).add 7) 0 w4 fun w5 =>
        R r35 (0 : Int) w5) (
        R r35 (0 : Int) w3)))) = kstep Try.prog 68 Try.f50.results.toList (Try.f50.body.getD .skip) (sock_Table_Accept.RV R) (kvc Try.prog 68 Try.f50.results.toList (Try.f50.body.getD .skip) (sock_Table_Accept.RV R) [] 2000) [(0, [1, 1, 0, 1]), (0, [1, 1, 1])] [(0, .pointer t), (6, .int .i64 l), (24, .bool t24)] w := by kernel_rfl
theorem sock_Table_Accept.B1_sound {R : Int → Int → World → Prop}  (t : Option Addr) (l : Int) (t24 : Bool) (w : World) (h : sock_Table_Accept.B1 t l t24 w   R) :
    KW Try.prog 50 68 (sock_Table_Accept.RV R) ([(0, [1, 1, 0, 1]), (0, [1, 1, 1])].map (toItem (Try.f50.body.getD .skip))) [(0, .pointer t), (6, .int .i64 l), (24, .bool t24)] w := by
  exact block_spec Try.func50 Try.mixed stops_nil (Eq.mp (sock_Table_Accept.B1_eq t l t24 w   R ) h)
def sock_Table_Accept.B0 (t : Option Addr) (lsd : Int) (w : World)   (R : Int → Int → World → Prop) : Prop :=
  sock_Table_find.Call t lsd w fun r11 w1 =>
  Bm (r11 == (-1 : Int)) (
    sock_Table_Accept.B1 t r11 true w1  R) (
    Pn t fun a =>
    (0 ≤ r11 ∧ r11 < ((6 : Nat) : Int)) ∧
    LdI .i64 (((Addr.add a (r11.toNat * 15)).add 1).add 1) w1 fun x22 =>
    sock_Table_Accept.B1 t r11 (x22 != (1 : Int)) w1  R)
theorem sock_Table_Accept.B0_eq (t : Option Addr) (lsd : Int) (w : World)   (R : Int → Int → World → Prop) (sB1 : Option Addr → Int → Bool → World → Prop) :
    (
  sock_Table_find.Call t lsd w fun r11 w1 =>
  Bm (r11 == (-1 : Int)) (
    sB1 t r11 true w1) (
    Pn t fun a =>
    (0 ≤ r11 ∧ r11 < ((6 : Nat) : Int)) ∧
    LdI .i64 (((Addr.add a (r11.toNat * 15)).add 1).add 1) w1 fun x22 =>
    sB1 t r11 (x22 != (1 : Int)) w1)) = kstep Try.prog 68 Try.f50.results.toList (Try.f50.body.getD .skip) (sock_Table_Accept.RV R) (kvc Try.prog 68 Try.f50.results.toList (Try.f50.body.getD .skip) (sock_Table_Accept.RV R) [([(0, [1, 1, 0, 1]), (0, [1, 1, 1])], fun σ w => dP (slotOf σ 0) fun t_ => dI .i64 (slotOf σ 6) fun l_ => dB (slotOf σ 24) fun t24_ => sB1 t_ l_ t24_ w)] 2000) [(0, [])] [(0, .pointer t), (1, .int .i64 lsd)] w := by kernel_rfl
theorem sock_Table_Accept.B0_sound {R : Int → Int → World → Prop}  (t : Option Addr) (lsd : Int) (w : World) (h : sock_Table_Accept.B0 t lsd w   R) :
    KW Try.prog 50 68 (sock_Table_Accept.RV R) ([(0, [])].map (toItem (Try.f50.body.getD .skip))) [(0, .pointer t), (1, .int .i64 lsd)] w := by
  exact block_spec Try.func50 Try.mixed (stops_cons (fun σ w h => by
      obtain ⟨t_, e0, h⟩ := dP_elim h
      obtain ⟨l_, e1, h⟩ := dI_elim h
      obtain ⟨t24_, e2, h⟩ := dB_elim h
      exact (sock_Table_Accept.B1_sound  t_ l_ t24_ w h).weaken (Sub.cons (Sub.cons (Sub.cons (Sub.nil _) e2) e1) e0)) stops_nil) (Eq.mp (sock_Table_Accept.B0_eq t lsd w   R (fun t_ l_ t24_ w => sock_Table_Accept.B1 t_ l_ t24_ w  R)) h)
theorem sock_Table_Accept.sound (t : Option Addr) (lsd : Int) (w : World) (R : Int → Int → World → Prop) (h : sock_Table_Accept.B0 t lsd w R) : sock_Table_Accept.Call t lsd w R := by
  have hc := calls_of_block (args := #[.pointer t, .int .i64 lsd]) Try.func50 (body := (Try.f50.body.getD .skip)) (by kernel_rfl) (by kernel_rfl) (args_slot _) (sock_Table_Accept.B0_sound t lsd w h)
  exact hc.mono fun e w' he => by
    obtain ⟨v, rfl, hv⟩ := he
    exact sock_Table_Accept.RV_elim hv
def sockm_Table_Accept.B1 (t : Option Addr) (lsd : Int) (t25 : Bool) (w : World)   (R : Int → Int → World → Prop) : Prop :=
  Bm t25 (
    R (0 : Int) (21 : Int) w) (
    sockm_Table_Queue.Call t lsd w fun r28_b r28_l r28_c w1 =>
    Bm (((r28_l : Nat) : Int) == (0 : Int)) (
      R (0 : Int) (14 : Int) w1) (
      Pn r28_b fun a =>
      (0 ≤ (0 : Int) ∧ (0 : Int) < ((r28_l : Nat) : Int)) ∧
      LdI .i64 a w1 fun x35 =>
      sockm_Table_at.Call t x35 w1 fun r36 w2 =>
      Pn t fun a_1 =>
      LdL a_1 w2.drew fun x40_b x40_l x40_c =>
      Pn t fun a_2 =>
      LdL a_2 w2.drew fun x45_b x45_l x45_c =>
      Pn x40_b fun a_3 =>
      (0 ≤ r36 ∧ r36 < ((x40_l : Nat) : Int)) ∧
      Sts [.int .i64 (0 : Int)] ((Addr.add a_3 (r36.toNat * 9)).add 6) 0 w2.drew fun w3 =>
      Pn x45_b fun a_4 =>
      (0 ≤ r36 ∧ r36 < ((x45_l : Nat) : Int)) ∧
      Sts [.bool false] ((Addr.add a_4 (r36.toNat * 9)).add 7) 0 w3 fun w4 =>
      Pn r28_b fun a_5 =>
      (0 ≤ (0 : Int) ∧ (0 : Int) < ((r28_l : Nat) : Int)) ∧
      LdI .i64 a_5 w4 fun x55 =>
      R x55 (0 : Int) w4))
theorem sockm_Table_Accept.B1_eq (t : Option Addr) (lsd : Int) (t25 : Bool) (w : World)   (R : Int → Int → World → Prop)  :
    (
  Bm t25 (
    R (0 : Int) (21 : Int) w) (
    sockm_Table_Queue.Call t lsd w fun r28_b r28_l r28_c w1 =>
    Bm (((r28_l : Nat) : Int) == (0 : Int)) (
      R (0 : Int) (14 : Int) w1) (
      Pn r28_b fun a =>
      (0 ≤ (0 : Int) ∧ (0 : Int) < ((r28_l : Nat) : Int)) ∧
      LdI .i64 a w1 fun x35 =>
      sockm_Table_at.Call t x35 w1 fun r36 w2 =>
      Pn t fun a_1 =>
      LdL a_1 w2.drew fun x40_b x40_l x40_c =>
      Pn t fun a_2 =>
      LdL a_2 w2.drew fun x45_b x45_l x45_c =>
      Pn x40_b fun a_3 =>
      (0 ≤ r36 ∧ r36 < ((x40_l : Nat) : Int)) ∧
      Sts [.int .i64 (0 : Int)] ((Addr.add a_3 (r36.toNat * 9)).add 6) 0 w2.drew fun w3 =>
      Pn x45_b fun a_4 =>
      (0 ≤ r36 ∧ r36 < ((x45_l : Nat) : Int)) ∧
      Sts [.bool false] ((Addr.add a_4 (r36.toNat * 9)).add 7) 0 w3 fun w4 =>
      Pn r28_b fun a_5 =>
      (0 ≤ (0 : Int) ∧ (0 : Int) < ((r28_l : Nat) : Int)) ∧
      LdI .i64 a_5 w4 fun x55 =>
      R x55 (0 : Int) w4))) = kstep Try.prog 56 Try.f51.results.toList (Try.f51.body.getD .skip) (sockm_Table_Accept.RV R) (kvc Try.prog 56 Try.f51.results.toList (Try.f51.body.getD .skip) (sockm_Table_Accept.RV R) [] 2000) [(0, [1, 1, 0, 1]), (0, [1, 1, 1])] [(0, .pointer t), (1, .int .i64 lsd), (25, .bool t25)] w := by kernel_rfl
theorem sockm_Table_Accept.B1_sound {R : Int → Int → World → Prop}  (t : Option Addr) (lsd : Int) (t25 : Bool) (w : World) (h : sockm_Table_Accept.B1 t lsd t25 w   R) :
    KW Try.prog 51 56 (sockm_Table_Accept.RV R) ([(0, [1, 1, 0, 1]), (0, [1, 1, 1])].map (toItem (Try.f51.body.getD .skip))) [(0, .pointer t), (1, .int .i64 lsd), (25, .bool t25)] w := by
  exact block_spec Try.func51 Try.mixed stops_nil (Eq.mp (sockm_Table_Accept.B1_eq t lsd t25 w   R ) h)
def sockm_Table_Accept.B0 (t : Option Addr) (lsd : Int) (w : World)   (R : Int → Int → World → Prop) : Prop :=
  sockm_Table_at.Call t lsd w fun r11 w1 =>
  Bm (decide (r11 < (0 : Int))) (
    sockm_Table_Accept.B1 t lsd true w1  R) (
    Pn t fun a =>
    LdL a w1 fun x18_b x18_l x18_c =>
    Pn x18_b fun a_1 =>
    (0 ≤ r11 ∧ r11 < ((x18_l : Nat) : Int)) ∧
    LdI .i64 ((Addr.add a_1 (r11.toNat * 9)).add 1) w1 fun x23 =>
    sockm_Table_Accept.B1 t lsd (x23 != (1 : Int)) w1  R)
theorem sockm_Table_Accept.B0_eq (t : Option Addr) (lsd : Int) (w : World)   (R : Int → Int → World → Prop) (sB1 : Option Addr → Int → Bool → World → Prop) :
    (
  sockm_Table_at.Call t lsd w fun r11 w1 =>
  Bm (decide (r11 < (0 : Int))) (
    sB1 t lsd true w1) (
    Pn t fun a =>
    LdL a w1 fun x18_b x18_l x18_c =>
    Pn x18_b fun a_1 =>
    (0 ≤ r11 ∧ r11 < ((x18_l : Nat) : Int)) ∧
    LdI .i64 ((Addr.add a_1 (r11.toNat * 9)).add 1) w1 fun x23 =>
    sB1 t lsd (x23 != (1 : Int)) w1)) = kstep Try.prog 56 Try.f51.results.toList (Try.f51.body.getD .skip) (sockm_Table_Accept.RV R) (kvc Try.prog 56 Try.f51.results.toList (Try.f51.body.getD .skip) (sockm_Table_Accept.RV R) [([(0, [1, 1, 0, 1]), (0, [1, 1, 1])], fun σ w => dP (slotOf σ 0) fun t_ => dI .i64 (slotOf σ 1) fun lsd_ => dB (slotOf σ 25) fun t25_ => sB1 t_ lsd_ t25_ w)] 2000) [(0, [])] [(0, .pointer t), (1, .int .i64 lsd)] w := by kernel_rfl
theorem sockm_Table_Accept.B0_sound {R : Int → Int → World → Prop}  (t : Option Addr) (lsd : Int) (w : World) (h : sockm_Table_Accept.B0 t lsd w   R) :
    KW Try.prog 51 56 (sockm_Table_Accept.RV R) ([(0, [])].map (toItem (Try.f51.body.getD .skip))) [(0, .pointer t), (1, .int .i64 lsd)] w := by
  exact block_spec Try.func51 Try.mixed (stops_cons (fun σ w h => by
      obtain ⟨t_, e0, h⟩ := dP_elim h
      obtain ⟨lsd_, e1, h⟩ := dI_elim h
      obtain ⟨t25_, e2, h⟩ := dB_elim h
      exact (sockm_Table_Accept.B1_sound  t_ lsd_ t25_ w h).weaken (Sub.cons (Sub.cons (Sub.cons (Sub.nil _) e2) e1) e0)) stops_nil) (Eq.mp (sockm_Table_Accept.B0_eq t lsd w   R (fun t_ lsd_ t25_ w => sockm_Table_Accept.B1 t_ lsd_ t25_ w  R)) h)
theorem sockm_Table_Accept.sound (t : Option Addr) (lsd : Int) (w : World) (R : Int → Int → World → Prop) (h : sockm_Table_Accept.B0 t lsd w R) : sockm_Table_Accept.Call t lsd w R := by
  have hc := calls_of_block (args := #[.pointer t, .int .i64 lsd]) Try.func51 (body := (Try.f51.body.getD .skip)) (by kernel_rfl) (by kernel_rfl) (args_slot _) (sockm_Table_Accept.B0_sound t lsd w h)
  exact hc.mono fun e w' he => by
    obtain ⟨v, rfl, hv⟩ := he
    exact sockm_Table_Accept.RV_elim hv
def sock_Table_Free.B2 (t : Option Addr) (sd i k : Int) (w : World) (N1 : Option Addr → Int → Int → Int → World → Prop)  (R : Int → World → Prop) : Prop :=
  N1 t sd i (IntKind.i64.wrap (k + (1 : Int))) w
theorem sock_Table_Free.B2_eq (t : Option Addr) (sd i k : Int) (w : World) (N1 : Option Addr → Int → Int → Int → World → Prop)  (R : Int → World → Prop)  :
    (
  N1 t sd i (IntKind.i64.wrap (k + (1 : Int))) w) = kstep Try.prog 103 Try.f52.results.toList (Try.f52.body.getD .skip) (sock_Table_Free.RV R) (kvc Try.prog 103 Try.f52.results.toList (Try.f52.body.getD .skip) (sock_Table_Free.RV R) [([(0, [1, 1, 1, 0, 1, 0, 1, 1, 1, 0, 0]), (2, [1, 1, 1, 0, 1, 0, 1, 1, 1, 0, 0]), (1, [0]), (0, [1, 1, 1, 1])], fun σ w => dP (slotOf σ 0) fun t_ => dI .i64 (slotOf σ 1) fun sd_ => dI .i64 (slotOf σ 5) fun i_ => dI .i64 (slotOf σ 6) fun k_ => N1 t_ sd_ i_ k_ w)] 2000) [(0, [1, 1, 1, 0, 1, 0, 1, 1, 1, 0, 0, 1, 1]), (2, [1, 1, 1, 0, 1, 0, 1, 1, 1, 0, 0]), (1, [0]), (0, [1, 1, 1, 1])] [(0, .pointer t), (1, .int .i64 sd), (5, .int .i64 i), (6, .int .i64 k)] w := by kernel_rfl
theorem sock_Table_Free.B2_sound {R : Int → World → Prop} {N1 : Option Addr → Int → Int → Int → World → Prop} (hN1 : ∀ t sd i k w, N1 t sd i k w → KW Try.prog 52 103 (sock_Table_Free.RV R) ([(0, [1, 1, 1, 0, 1, 0, 1, 1, 1, 0, 0]), (2, [1, 1, 1, 0, 1, 0, 1, 1, 1, 0, 0]), (1, [0]), (0, [1, 1, 1, 1])].map (toItem (Try.f52.body.getD .skip))) [(0, .pointer t), (1, .int .i64 sd), (5, .int .i64 i), (6, .int .i64 k)] w) (t : Option Addr) (sd i k : Int) (w : World) (h : sock_Table_Free.B2 t sd i k w N1  R) :
    KW Try.prog 52 103 (sock_Table_Free.RV R) ([(0, [1, 1, 1, 0, 1, 0, 1, 1, 1, 0, 0, 1, 1]), (2, [1, 1, 1, 0, 1, 0, 1, 1, 1, 0, 0]), (1, [0]), (0, [1, 1, 1, 1])].map (toItem (Try.f52.body.getD .skip))) [(0, .pointer t), (1, .int .i64 sd), (5, .int .i64 i), (6, .int .i64 k)] w := by
  exact block_spec Try.func52 Try.mixed (stops_cons (fun σ w h => by
      obtain ⟨t_, e0, h⟩ := dP_elim h
      obtain ⟨sd_, e1, h⟩ := dI_elim h
      obtain ⟨i_, e2, h⟩ := dI_elim h
      obtain ⟨k_, e3, h⟩ := dI_elim h
      exact (hN1 t_ sd_ i_ k_ w h).weaken (Sub.cons (Sub.cons (Sub.cons (Sub.cons (Sub.nil _) e3) e2) e1) e0)) stops_nil) (Eq.mp (sock_Table_Free.B2_eq t sd i k w N1  R ) h)
def sock_Table_Free.B1 (t : Option Addr) (sd i k : Int) (t62 : Bool) (w : World) (N1 : Option Addr → Int → Int → Int → World → Prop)  (R : Int → World → Prop) : Prop :=
  Bm t62 (
    Pn t fun a =>
    (0 ≤ k ∧ k < ((6 : Nat) : Int)) ∧
    Sts [.int .i64 (0 : Int)] (((Addr.add a (k.toNat * 15)).add 1).add 6) 0 w fun w1 =>
    Pn t fun a_1 =>
    (0 ≤ k ∧ k < ((6 : Nat) : Int)) ∧
    Sts [.bool false] (((Addr.add a_1 (k.toNat * 15)).add 1).add 7) 0 w1 fun w2 =>
    sock_Table_Free.B2 t sd i k w2 N1 R) (
    sock_Table_Free.B2 t sd i k w N1 R)
theorem sock_Table_Free.B1_eq (t : Option Addr) (sd i k : Int) (t62 : Bool) (w : World) (N1 : Option Addr → Int → Int → Int → World → Prop)  (R : Int → World → Prop) (sB2 : Option Addr → Int → Int → Int → World → Prop) :
    (
  Bm t62 (
    Pn t fun a =>
    (0 ≤ k ∧ k < ((6 : Nat) : Int)) ∧
    Sts [.int .i64 (0 : Int)] (((Addr.add a (k.toNat * 15)).add 1).add 6) 0 w fun w1 =>
    Pn t fun a_1 =>
    (0 ≤ k ∧ k < ((6 : Nat) : Int)) ∧
    Sts [.bool false] (((Addr.add a_1 (k.toNat * 15)).add 1).add 7) 0 w1 fun w2 =>
    sB2 t sd i k w2) (
    sB2 t sd i k w)) = kstep Try.prog 103 Try.f52.results.toList (Try.f52.body.getD .skip) (sock_Table_Free.RV R) (kvc Try.prog 103 Try.f52.results.toList (Try.f52.body.getD .skip) (sock_Table_Free.RV R) [([(0, [1, 1, 1, 0, 1, 0, 1, 1, 1, 0, 0, 1, 1]), (2, [1, 1, 1, 0, 1, 0, 1, 1, 1, 0, 0]), (1, [0]), (0, [1, 1, 1, 1])], fun σ w => dP (slotOf σ 0) fun t_ => dI .i64 (slotOf σ 1) fun sd_ => dI .i64 (slotOf σ 5) fun i_ => dI .i64 (slotOf σ 6) fun k_ => sB2 t_ sd_ i_ k_ w)] 2000) [(0, [1, 1, 1, 0, 1, 0, 1, 1, 1, 0, 0, 1, 0, 0, 1]), (1, [1]), (0, [1, 1, 1, 0, 1, 0, 1, 1, 1, 0, 0, 1, 1]), (2, [1, 1, 1, 0, 1, 0, 1, 1, 1, 0, 0]), (1, [0]), (0, [1, 1, 1, 1])] [(0, .pointer t), (1, .int .i64 sd), (5, .int .i64 i), (6, .int .i64 k), (62, .bool t62)] w := by kernel_rfl
theorem sock_Table_Free.B1_sound {R : Int → World → Prop} {N1 : Option Addr → Int → Int → Int → World → Prop} (hN1 : ∀ t sd i k w, N1 t sd i k w → KW Try.prog 52 103 (sock_Table_Free.RV R) ([(0, [1, 1, 1, 0, 1, 0, 1, 1, 1, 0, 0]), (2, [1, 1, 1, 0, 1, 0, 1, 1, 1, 0, 0]), (1, [0]), (0, [1, 1, 1, 1])].map (toItem (Try.f52.body.getD .skip))) [(0, .pointer t), (1, .int .i64 sd), (5, .int .i64 i), (6, .int .i64 k)] w) (t : Option Addr) (sd i k : Int) (t62 : Bool) (w : World) (h : sock_Table_Free.B1 t sd i k t62 w N1  R) :
    KW Try.prog 52 103 (sock_Table_Free.RV R) ([(0, [1, 1, 1, 0, 1, 0, 1, 1, 1, 0, 0, 1, 0, 0, 1]), (1, [1]), (0, [1, 1, 1, 0, 1, 0, 1, 1, 1, 0, 0, 1, 1]), (2, [1, 1, 1, 0, 1, 0, 1, 1, 1, 0, 0]), (1, [0]), (0, [1, 1, 1, 1])].map (toItem (Try.f52.body.getD .skip))) [(0, .pointer t), (1, .int .i64 sd), (5, .int .i64 i), (6, .int .i64 k), (62, .bool t62)] w := by
  exact block_spec Try.func52 Try.mixed (stops_cons (fun σ w h => by
      obtain ⟨t_, e0, h⟩ := dP_elim h
      obtain ⟨sd_, e1, h⟩ := dI_elim h
      obtain ⟨i_, e2, h⟩ := dI_elim h
      obtain ⟨k_, e3, h⟩ := dI_elim h
      exact (sock_Table_Free.B2_sound hN1 t_ sd_ i_ k_ w h).weaken (Sub.cons (Sub.cons (Sub.cons (Sub.cons (Sub.nil _) e3) e2) e1) e0)) stops_nil) (Eq.mp (sock_Table_Free.B1_eq t sd i k t62 w N1  R (fun t_ sd_ i_ k_ w => sock_Table_Free.B2 t_ sd_ i_ k_ w N1 R)) h)
def sock_Table_Free.L1b (t : Option Addr) (sd i k : Int) (w : World)  (N1 : Option Addr → Int → Int → Int → World → Prop) (R : Int → World → Prop) : Prop :=
  Bm (decide (k < (6 : Int))) (
    Pn t fun a =>
    (0 ≤ k ∧ k < ((6 : Nat) : Int)) ∧
    LdB (Addr.add a (k.toNat * 15)) w fun x50 =>
    Bm x50 (
      Pn t fun a_1 =>
      (0 ≤ k ∧ k < ((6 : Nat) : Int)) ∧
      LdI .i64 (((Addr.add a_1 (k.toNat * 15)).add 1).add 6) w fun x59 =>
      sock_Table_Free.B1 t sd i k (x59 == sd) w N1 R) (
      sock_Table_Free.B1 t sd i k false w N1 R)) (
    sock_Table_give.Call t i w fun w1 =>
    R (0 : Int) w1)
theorem sock_Table_Free.L1b_eq (t : Option Addr) (sd i k : Int) (w : World)  (N1 : Option Addr → Int → Int → Int → World → Prop) (R : Int → World → Prop) (sB1 : Option Addr → Int → Int → Int → Bool → World → Prop) :
    (
  Bm (decide (k < (6 : Int))) (
    Pn t fun a =>
    (0 ≤ k ∧ k < ((6 : Nat) : Int)) ∧
    LdB (Addr.add a (k.toNat * 15)) w fun x50 =>
    Bm x50 (
      Pn t fun a_1 =>
      (0 ≤ k ∧ k < ((6 : Nat) : Int)) ∧
      LdI .i64 (((Addr.add a_1 (k.toNat * 15)).add 1).add 6) w fun x59 =>
      sB1 t sd i k (x59 == sd) w) (
      sB1 t sd i k false w)) (
    sock_Table_give.Call t i w fun w1 =>
    R (0 : Int) w1)) = kstep Try.prog 103 Try.f52.results.toList (Try.f52.body.getD .skip) (sock_Table_Free.RV R) (kvc Try.prog 103 Try.f52.results.toList (Try.f52.body.getD .skip) (sock_Table_Free.RV R) [([(0, [1, 1, 1, 0, 1, 0, 1, 1, 1, 0, 0, 1, 0, 0, 1]), (1, [1]), (0, [1, 1, 1, 0, 1, 0, 1, 1, 1, 0, 0, 1, 1]), (2, [1, 1, 1, 0, 1, 0, 1, 1, 1, 0, 0]), (1, [0]), (0, [1, 1, 1, 1])], fun σ w => dP (slotOf σ 0) fun t_ => dI .i64 (slotOf σ 1) fun sd_ => dI .i64 (slotOf σ 5) fun i_ => dI .i64 (slotOf σ 6) fun k_ => dB (slotOf σ 62) fun t62_ => sB1 t_ sd_ i_ k_ t62_ w)] 2000) [(0, [1, 1, 1, 0, 1, 0, 1, 1, 1, 0, 0]), (2, [1, 1, 1, 0, 1, 0, 1, 1, 1, 0, 0]), (1, [0]), (0, [1, 1, 1, 1])] [(0, .pointer t), (1, .int .i64 sd), (5, .int .i64 i), (6, .int .i64 k)] w := by kernel_rfl
theorem sock_Table_Free.L1b_sound {R : Int → World → Prop} {N1 : Option Addr → Int → Int → Int → World → Prop} (hN1 : ∀ t sd i k w, N1 t sd i k w → KW Try.prog 52 103 (sock_Table_Free.RV R) ([(0, [1, 1, 1, 0, 1, 0, 1, 1, 1, 0, 0]), (2, [1, 1, 1, 0, 1, 0, 1, 1, 1, 0, 0]), (1, [0]), (0, [1, 1, 1, 1])].map (toItem (Try.f52.body.getD .skip))) [(0, .pointer t), (1, .int .i64 sd), (5, .int .i64 i), (6, .int .i64 k)] w) (t : Option Addr) (sd i k : Int) (w : World) (h : sock_Table_Free.L1b t sd i k w  N1 R) :
    KW Try.prog 52 103 (sock_Table_Free.RV R) ([(0, [1, 1, 1, 0, 1, 0, 1, 1, 1, 0, 0]), (2, [1, 1, 1, 0, 1, 0, 1, 1, 1, 0, 0]), (1, [0]), (0, [1, 1, 1, 1])].map (toItem (Try.f52.body.getD .skip))) [(0, .pointer t), (1, .int .i64 sd), (5, .int .i64 i), (6, .int .i64 k)] w := by
  exact block_spec Try.func52 Try.mixed (stops_cons (fun σ w h => by
      obtain ⟨t_, e0, h⟩ := dP_elim h
      obtain ⟨sd_, e1, h⟩ := dI_elim h
      obtain ⟨i_, e2, h⟩ := dI_elim h
      obtain ⟨k_, e3, h⟩ := dI_elim h
      obtain ⟨t62_, e4, h⟩ := dB_elim h
      exact (sock_Table_Free.B1_sound hN1 t_ sd_ i_ k_ t62_ w h).weaken (Sub.cons (Sub.cons (Sub.cons (Sub.cons (Sub.cons (Sub.nil _) e4) e3) e2) e1) e0)) stops_nil) (Eq.mp (sock_Table_Free.L1b_eq t sd i k w  N1 R (fun t_ sd_ i_ k_ t62_ w => sock_Table_Free.B1 t_ sd_ i_ k_ t62_ w N1 R)) h)
def sock_Table_Free.L1 (t : Option Addr) (sd i k : Int) (w : World)  (R : Int → World → Prop) : Prop :=
  ∃ (I : Nat → Option Addr → Int → Int → Int → World → Prop) (m : Nat), I m t sd i k w ∧ ∀ m t sd i k w, I m t sd i k w → sock_Table_Free.L1b t sd i k w  (fun t' sd' i' k' w' => ∃ m', m' < m ∧ I m' t' sd' i' k' w') R
theorem sock_Table_Free.L1_sound {R : Int → World → Prop}  (t : Option Addr) (sd i k : Int) (w : World) (h : sock_Table_Free.L1 t sd i k w  R) :
    KW Try.prog 52 103 (sock_Table_Free.RV R) ([(0, [1, 1, 1, 0, 1, 0, 1, 1, 1, 0, 0]), (2, [1, 1, 1, 0, 1, 0, 1, 1, 1, 0, 0]), (1, [0]), (0, [1, 1, 1, 1])].map (toItem (Try.f52.body.getD .skip))) [(0, .pointer t), (1, .int .i64 sd), (5, .int .i64 i), (6, .int .i64 k)] w := by
  obtain ⟨I, m, hBase, hr⟩ := h
  refine KW.loop (fun m σ w => ∃ (t : Option Addr) (sd i k : Int), σ = [(0, .pointer t), (1, .int .i64 sd), (5, .int .i64 i), (6, .int .i64 k)] ∧ I m t sd i k w) ?_ m _ w ⟨t, sd, i, k, rfl, hBase⟩
  rintro m ih σ w ⟨t, sd, i, k, rfl, hI⟩
  exact sock_Table_Free.L1b_sound  (N1 := fun t' sd' i' k' w' => ∃ m', m' < m ∧ I m' t' sd' i' k' w') (fun t' sd' i' k' w' hx => by obtain ⟨m', hlt, hI'⟩ := hx; exact ih m' hlt _ w' ⟨t', sd', i', k', rfl, hI'⟩) t sd i k w (hr m t sd i k w hI)
def sock_Table_Free.B0 (t : Option Addr) (sd : Int) (w : World)   (R : Int → World → Prop) : Prop :=
  sock_Table_find.Call t sd w fun r9 w1 =>
  Bm (r9 == (-1 : Int)) (
    R (21 : Int) w1) (
    Pn t fun a =>
    (0 ≤ r9 ∧ r9 < ((6 : Nat) : Int)) ∧
    LdI .i64 (((Addr.add a (r9.toNat * 15)).add 1).add 1) w1 fun x19 =>
    Bm (x19 == (1 : Int)) (
      Pn t fun a_1 =>
      (0 ≤ r9 ∧ r9 < ((6 : Nat) : Int)) ∧
      LdI .i64 (((Addr.add a_1 (r9.toNat * 15)).add 1).add 2) w1.drew fun x29 =>
      Pn t fun a_2 =>
      (0 ≤ x29 ∧ x29 < ((8 : Nat) : Int)) ∧
      Sts [.int .i64 (-1 : Int)] (Addr.add (a_2.add 95) (x29.toNat * 1)) 0 w1.drew fun w2 =>
      Pn t fun a_3 =>
      LdI .i64 (a_3.add 104) w2 fun x36 =>
      Pn t fun a_4 =>
      Sts [.int .i64 (IntKind.i64.wrap (x36 - (1 : Int)))] (a_4.add 104) 0 w2 fun w3 =>
      sock_Table_Free.L1 t sd r9 (0 : Int) w3  R) (
      sock_Table_unlink.Call t r9 w1 fun w4 =>
      Pn t fun a_5 =>
      LdI .u8 (a_5.add 103) w4.drew fun x83 =>
      Pn t fun a_6 =>
      (0 ≤ r9 ∧ r9 < ((6 : Nat) : Int)) ∧
      LdI .i64 (((Addr.add a_6 (r9.toNat * 15)).add 1).add 5) w4.drew fun x91 =>
      sock_bitOf.Call x91 w4.drew fun r92 w5 =>
      w5.cell? (a_5.add 103) = some (.int .u8 x83) ∧
      Pn t fun a_7 =>
      Sts [.int .u8 (IntKind.u8.wrap (BitVec.ofInt IntKind.u8.bits x83 &&& BitVec.ofInt IntKind.u8.bits (IntKind.u8.wrap (BitVec.ofInt IntKind.u8.bits (if IntKind.u8.signed then -1 else IntKind.u8.max) ^^^ BitVec.ofInt IntKind.u8.bits r92).toNat)).toNat)] (a_7.add 103) 0 w5 fun w6 =>
      sock_Table_orphan.Call t r9 w6 fun w7 =>
      sock_Table_give.Call t r9 w7 fun w8 =>
      R (0 : Int) w8))
theorem sock_Table_Free.B0_eq (t : Option Addr) (sd : Int) (w : World)   (R : Int → World → Prop) (sL1 : Option Addr → Int → Int → Int → World → Prop) :
    (
  sock_Table_find.Call t sd w fun r9 w1 =>
  Bm (r9 == (-1 : Int)) (
    R (21 : Int) w1) (
    Pn t fun a =>
    (0 ≤ r9 ∧ r9 < ((6 : Nat) : Int)) ∧
    LdI .i64 (((Addr.add a (r9.toNat * 15)).add 1).add 1) w1 fun x19 =>
    Bm (x19 == (1 : Int)) (
      Pn t fun a_1 =>
      (0 ≤ r9 ∧ r9 < ((6 : Nat) : Int)) ∧
      LdI .i64 (((Addr.add a_1 (r9.toNat * 15)).add 1).add 2) w1.drew fun x29 =>
      Pn t fun a_2 =>
      (0 ≤ x29 ∧ x29 < ((8 : Nat) : Int)) ∧
      Sts [.int .i64 (-1 : Int)] (Addr.add (a_2.add 95) (x29.toNat * 1)) 0 w1.drew fun w2 =>
      Pn t fun a_3 =>
      LdI .i64 (a_3.add 104) w2 fun x36 =>
      Pn t fun a_4 =>
      Sts [.int .i64 (IntKind.i64.wrap (x36 - (1 : Int)))] (a_4.add 104) 0 w2 fun w3 =>
      sL1 t sd r9 (0 : Int) w3) (
      sock_Table_unlink.Call t r9 w1 fun w4 =>
      Pn t fun a_5 =>
      LdI .u8 (a_5.add 103) w4.drew fun x83 =>
      Pn t fun a_6 =>
      (0 ≤ r9 ∧ r9 < ((6 : Nat) : Int)) ∧
      LdI .i64 (((Addr.add a_6 (r9.toNat * 15)).add 1).add 5) w4.drew fun x91 =>
      sock_bitOf.Call x91 w4.drew fun r92 w5 =>
      w5.cell? (a_5.add 103) = some (.int .u8 x83) ∧
      Pn t fun a_7 =>
      Sts [.int .u8 (IntKind.u8.wrap (BitVec.ofInt IntKind.u8.bits x83 &&& BitVec.ofInt IntKind.u8.bits (IntKind.u8.wrap (BitVec.ofInt IntKind.u8.bits (if IntKind.u8.signed then -1 else IntKind.u8.max) ^^^ BitVec.ofInt IntKind.u8.bits r92).toNat)).toNat)] (a_7.add 103) 0 w5 fun w6 =>
      sock_Table_orphan.Call t r9 w6 fun w7 =>
      sock_Table_give.Call t r9 w7 fun w8 =>
      R (0 : Int) w8))) = kstep Try.prog 103 Try.f52.results.toList (Try.f52.body.getD .skip) (sock_Table_Free.RV R) (kvc Try.prog 103 Try.f52.results.toList (Try.f52.body.getD .skip) (sock_Table_Free.RV R) [([(0, [1, 1, 1, 0, 1, 0, 1, 1, 1, 0, 0]), (2, [1, 1, 1, 0, 1, 0, 1, 1, 1, 0, 0]), (1, [0]), (0, [1, 1, 1, 1])], fun σ w => dP (slotOf σ 0) fun t_ => dI .i64 (slotOf σ 1) fun sd_ => dI .i64 (slotOf σ 5) fun i_ => dI .i64 (slotOf σ 6) fun k_ => sL1 t_ sd_ i_ k_ w)] 2000) [(0, [])] [(0, .pointer t), (1, .int .i64 sd)] w := by kernel_rfl
theorem sock_Table_Free.B0_sound {R : Int → World → Prop}  (t : Option Addr) (sd : Int) (w : World) (h : sock_Table_Free.B0 t sd w   R) :
    KW Try.prog 52 103 (sock_Table_Free.RV R) ([(0, [])].map (toItem (Try.f52.body.getD .skip))) [(0, .pointer t), (1, .int .i64 sd)] w := by
  exact block_spec Try.func52 Try.mixed (stops_cons (fun σ w h => by
      obtain ⟨t_, e0, h⟩ := dP_elim h
      obtain ⟨sd_, e1, h⟩ := dI_elim h
      obtain ⟨i_, e2, h⟩ := dI_elim h
      obtain ⟨k_, e3, h⟩ := dI_elim h
      exact (sock_Table_Free.L1_sound  t_ sd_ i_ k_ w h).weaken (Sub.cons (Sub.cons (Sub.cons (Sub.cons (Sub.nil _) e3) e2) e1) e0)) stops_nil) (Eq.mp (sock_Table_Free.B0_eq t sd w   R (fun t_ sd_ i_ k_ w => sock_Table_Free.L1 t_ sd_ i_ k_ w  R)) h)
theorem sock_Table_Free.sound (t : Option Addr) (sd : Int) (w : World) (R : Int → World → Prop) (h : sock_Table_Free.B0 t sd w R) : sock_Table_Free.Call t sd w R := by
  have hc := calls_of_block (args := #[.pointer t, .int .i64 sd]) Try.func52 (body := (Try.f52.body.getD .skip)) (by kernel_rfl) (by kernel_rfl) (args_slot _) (sock_Table_Free.B0_sound t sd w h)
  exact hc.mono fun e w' he => by
    obtain ⟨v, rfl, hv⟩ := he
    exact sock_Table_Free.RV_elim hv
end Go.Proofs.Qxb6500427a
