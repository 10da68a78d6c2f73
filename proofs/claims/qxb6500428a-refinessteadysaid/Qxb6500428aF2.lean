import Derived.Test.Qxb6500428aSig
set_option maxRecDepth 100000
set_option linter.unusedVariables false
open Go.Vc
namespace Go.Proofs.Qxb6500428a
def electm_Elect_Heard.B2 (e : Option Addr) (from0 : Int) (t30 : Bool) (w : World)   (R : Bool → World → Prop) : Prop :=
  Bm t30 (
    R false w) (
    Pn e fun a =>
    Sts [.int .i64 (0 : Int)] (a.add 3) 0 w fun w1 =>
    Pn e fun a_1 =>
    Sts [.int .i64 from0] (a_1.add 4) 0 w1 fun w2 =>
    Pn e fun a_2 =>
    Sts [.int .i64 (0 : Int)] (a_2.add 5) 0 w2 fun w3 =>
    Pn e fun a_3 =>
    Sts [.bool false, .bool false, .bool false] (a_3.add 6) 0 w3 fun w4 =>
    R true w4)
theorem electm_Elect_Heard.B2_eq (e : Option Addr) (from0 : Int) (t30 : Bool) (w : World)   (R : Bool → World → Prop)  :
    (
  Bm t30 (
    R false w) (
    Pn e fun a =>
    Sts [.int .i64 (0 : Int)] (a.add 3) 0 w fun w1 =>
    Pn e fun a_1 =>
    Sts [.int .i64 from0] (a_1.add 4) 0 w1 fun w2 =>
    Pn e fun a_2 =>
    Sts [.int .i64 (0 : Int)] (a_2.add 5) 0 w2 fun w3 =>
    Pn e fun a_3 =>
    Sts [.bool false, .bool false, .bool false] (a_3.add 6) 0 w3 fun w4 =>
    R true w4)) = kstep Try.prog 45 Try.f19.results.toList (Try.f19.body.getD .skip) (electm_Elect_Heard.RV R) (kvc Try.prog 45 Try.f19.results.toList (Try.f19.body.getD .skip) (electm_Elect_Heard.RV R) [] 2000) [(0, [1, 1, 1, 0, 1]), (0, [1, 1, 1, 1])] [(0, .pointer e), (1, .int .i64 from0), (30, .bool t30)] w := by kernel_rfl
theorem electm_Elect_Heard.B2_sound {R : Bool → World → Prop}  (e : Option Addr) (from0 : Int) (t30 : Bool) (w : World) (h : electm_Elect_Heard.B2 e from0 t30 w   R) :
    KW Try.prog 19 45 (electm_Elect_Heard.RV R) ([(0, [1, 1, 1, 0, 1]), (0, [1, 1, 1, 1])].map (toItem (Try.f19.body.getD .skip))) [(0, .pointer e), (1, .int .i64 from0), (30, .bool t30)] w := by
  exact block_spec Try.func19 Try.mixed stops_nil (Eq.mp (electm_Elect_Heard.B2_eq e from0 t30 w   R ) h)
def electm_Elect_Heard.B1 (e : Option Addr) (from0 term : Int) (t14 : Bool) (w : World)   (R : Bool → World → Prop) : Prop :=
  Bm t14 (
    R false w) (
    electm_Elect_See.Call e term w fun r17 w1 =>
    Pn e fun a =>
    LdI .i64 (a.add 1) w1 fun x22 =>
    Bm (decide (term < x22)) (
      electm_Elect_Heard.B2 e from0 true w1  R) (
      Pn e fun a_1 =>
      LdI .i64 (a_1.add 3) w1 fun x28 =>
      electm_Elect_Heard.B2 e from0 (x28 == (2 : Int)) w1  R))
theorem electm_Elect_Heard.B1_eq (e : Option Addr) (from0 term : Int) (t14 : Bool) (w : World)   (R : Bool → World → Prop) (sB2 : Option Addr → Int → Bool → World → Prop) :
    (
  Bm t14 (
    R false w) (
    electm_Elect_See.Call e term w fun r17 w1 =>
    Pn e fun a =>
    LdI .i64 (a.add 1) w1 fun x22 =>
    Bm (decide (term < x22)) (
      sB2 e from0 true w1) (
      Pn e fun a_1 =>
      LdI .i64 (a_1.add 3) w1 fun x28 =>
      sB2 e from0 (x28 == (2 : Int)) w1))) = kstep Try.prog 45 Try.f19.results.toList (Try.f19.body.getD .skip) (electm_Elect_Heard.RV R) (kvc Try.prog 45 Try.f19.results.toList (Try.f19.body.getD .skip) (electm_Elect_Heard.RV R) [([(0, [1, 1, 1, 0, 1]), (0, [1, 1, 1, 1])], fun σ w => dP (slotOf σ 0) fun e_ => dI .i64 (slotOf σ 1) fun from0_ => dB (slotOf σ 30) fun t30_ => sB2 e_ from0_ t30_ w)] 2000) [(0, [1, 0, 1]), (0, [1, 1])] [(0, .pointer e), (1, .int .i64 from0), (2, .int .i64 term), (14, .bool t14)] w := by kernel_rfl
theorem electm_Elect_Heard.B1_sound {R : Bool → World → Prop}  (e : Option Addr) (from0 term : Int) (t14 : Bool) (w : World) (h : electm_Elect_Heard.B1 e from0 term t14 w   R) :
    KW Try.prog 19 45 (electm_Elect_Heard.RV R) ([(0, [1, 0, 1]), (0, [1, 1])].map (toItem (Try.f19.body.getD .skip))) [(0, .pointer e), (1, .int .i64 from0), (2, .int .i64 term), (14, .bool t14)] w := by
  exact block_spec Try.func19 Try.mixed (stops_cons (fun σ w h => by
      obtain ⟨e_, e0, h⟩ := dP_elim h
      obtain ⟨from0_, e1, h⟩ := dI_elim h
      obtain ⟨t30_, e2, h⟩ := dB_elim h
      exact (electm_Elect_Heard.B2_sound  e_ from0_ t30_ w h).weaken (Sub.cons (Sub.cons (Sub.cons (Sub.nil _) e2) e1) e0)) stops_nil) (Eq.mp (electm_Elect_Heard.B1_eq e from0 term t14 w   R (fun e_ from0_ t30_ w => electm_Elect_Heard.B2 e_ from0_ t30_ w  R)) h)
def electm_Elect_Heard.B0 (e : Option Addr) (from0 term : Int) (w : World)   (R : Bool → World → Prop) : Prop :=
  electm_Elect_peer.Call e from0 w fun r9 w1 =>
  Bm (!r9) (
    electm_Elect_Heard.B1 e from0 term true w1  R) (
    electm_Elect_Heard.B1 e from0 term (decide (term > (72057594037927936 : Int))) w1  R)
theorem electm_Elect_Heard.B0_eq (e : Option Addr) (from0 term : Int) (w : World)   (R : Bool → World → Prop) (sB1 : Option Addr → Int → Int → Bool → World → Prop) :
    (
  electm_Elect_peer.Call e from0 w fun r9 w1 =>
  Bm (!r9) (
    sB1 e from0 term true w1) (
    sB1 e from0 term (decide (term > (72057594037927936 : Int))) w1)) = kstep Try.prog 45 Try.f19.results.toList (Try.f19.body.getD .skip) (electm_Elect_Heard.RV R) (kvc Try.prog 45 Try.f19.results.toList (Try.f19.body.getD .skip) (electm_Elect_Heard.RV R) [([(0, [1, 0, 1]), (0, [1, 1])], fun σ w => dP (slotOf σ 0) fun e_ => dI .i64 (slotOf σ 1) fun from0_ => dI .i64 (slotOf σ 2) fun term_ => dB (slotOf σ 14) fun t14_ => sB1 e_ from0_ term_ t14_ w)] 2000) [(0, [])] [(0, .pointer e), (1, .int .i64 from0), (2, .int .i64 term)] w := by kernel_rfl
theorem electm_Elect_Heard.B0_sound {R : Bool → World → Prop}  (e : Option Addr) (from0 term : Int) (w : World) (h : electm_Elect_Heard.B0 e from0 term w   R) :
    KW Try.prog 19 45 (electm_Elect_Heard.RV R) ([(0, [])].map (toItem (Try.f19.body.getD .skip))) [(0, .pointer e), (1, .int .i64 from0), (2, .int .i64 term)] w := by
  exact block_spec Try.func19 Try.mixed (stops_cons (fun σ w h => by
      obtain ⟨e_, e0, h⟩ := dP_elim h
      obtain ⟨from0_, e1, h⟩ := dI_elim h
      obtain ⟨term_, e2, h⟩ := dI_elim h
      obtain ⟨t14_, e3, h⟩ := dB_elim h
      exact (electm_Elect_Heard.B1_sound  e_ from0_ term_ t14_ w h).weaken (Sub.cons (Sub.cons (Sub.cons (Sub.cons (Sub.nil _) e3) e2) e1) e0)) stops_nil) (Eq.mp (electm_Elect_Heard.B0_eq e from0 term w   R (fun e_ from0_ term_ t14_ w => electm_Elect_Heard.B1 e_ from0_ term_ t14_ w  R)) h)
theorem electm_Elect_Heard.sound (e : Option Addr) (from0 term : Int) (w : World) (R : Bool → World → Prop) (h : electm_Elect_Heard.B0 e from0 term w R) : electm_Elect_Heard.Call e from0 term w R := by
  have hc := calls_of_block (args := #[.pointer e, .int .i64 from0, .int .i64 term]) Try.func19 (body := (Try.f19.body.getD .skip)) (by kernel_rfl) (by kernel_rfl) (args_slot _) (electm_Elect_Heard.B0_sound e from0 term w h)
  exact hc.mono fun e w' he => by
    obtain ⟨v, rfl, hv⟩ := he
    exact electm_Elect_Heard.RV_elim hv
def electm_Elect_Leader.B0 (e : Option Addr) (w : World)   (R : Int → World → Prop) : Prop :=
  Pn e fun a =>
  LdI .i64 (a.add 4) w fun x6 =>
  R x6 w
theorem electm_Elect_Leader.B0_eq (e : Option Addr) (w : World)   (R : Int → World → Prop)  :
    (
  Pn e fun a =>
  LdI .i64 (a.add 4) w fun x6 =>
  R x6 w) = kstep Try.prog 7 Try.f20.results.toList (Try.f20.body.getD .skip) (electm_Elect_Leader.RV R) (kvc Try.prog 7 Try.f20.results.toList (Try.f20.body.getD .skip) (electm_Elect_Leader.RV R) [] 2000) [(0, [])] [(0, .pointer e)] w := by kernel_rfl
theorem electm_Elect_Leader.B0_sound {R : Int → World → Prop}  (e : Option Addr) (w : World) (h : electm_Elect_Leader.B0 e w   R) :
    KW Try.prog 20 7 (electm_Elect_Leader.RV R) ([(0, [])].map (toItem (Try.f20.body.getD .skip))) [(0, .pointer e)] w := by
  exact block_spec Try.func20 Try.mixed stops_nil (Eq.mp (electm_Elect_Leader.B0_eq e w   R ) h)
theorem electm_Elect_Leader.sound (e : Option Addr) (w : World) (R : Int → World → Prop) (h : electm_Elect_Leader.B0 e w R) : electm_Elect_Leader.Call e w R := by
  have hc := calls_of_block (args := #[.pointer e]) Try.func20 (body := (Try.f20.body.getD .skip)) (by kernel_rfl) (by kernel_rfl) (args_slot _) (electm_Elect_Leader.B0_sound e w h)
  exact hc.mono fun e w' he => by
    obtain ⟨v, rfl, hv⟩ := he
    exact electm_Elect_Leader.RV_elim hv
def electm_Elect_Restore.B1 (e : Option Addr) (term vote : Int) (t20 : Bool) (w : World)   (R : Int → World → Prop) : Prop :=
  Bm t20 (
    R (1 : Int) w) (
    Pn e fun a =>
    Sts [.int .i64 term] (a.add 1) 0 w fun w1 =>
    Pn e fun a_1 =>
    Sts [.int .i64 vote] (a_1.add 2) 0 w1 fun w2 =>
    Pn e fun a_2 =>
    Sts [.int .i64 (0 : Int)] (a_2.add 3) 0 w2 fun w3 =>
    Pn e fun a_3 =>
    Sts [.int .i64 (-1 : Int)] (a_3.add 4) 0 w3 fun w4 =>
    Pn e fun a_4 =>
    Sts [.int .i64 (0 : Int)] (a_4.add 5) 0 w4 fun w5 =>
    Pn e fun a_5 =>
    Sts [.bool false, .bool false, .bool false] (a_5.add 6) 0 w5 fun w6 =>
    R (0 : Int) w6)
theorem electm_Elect_Restore.B1_eq (e : Option Addr) (term vote : Int) (t20 : Bool) (w : World)   (R : Int → World → Prop)  :
    (
  Bm t20 (
    R (1 : Int) w) (
    Pn e fun a =>
    Sts [.int .i64 term] (a.add 1) 0 w fun w1 =>
    Pn e fun a_1 =>
    Sts [.int .i64 vote] (a_1.add 2) 0 w1 fun w2 =>
    Pn e fun a_2 =>
    Sts [.int .i64 (0 : Int)] (a_2.add 3) 0 w2 fun w3 =>
    Pn e fun a_3 =>
    Sts [.int .i64 (-1 : Int)] (a_3.add 4) 0 w3 fun w4 =>
    Pn e fun a_4 =>
    Sts [.int .i64 (0 : Int)] (a_4.add 5) 0 w4 fun w5 =>
    Pn e fun a_5 =>
    Sts [.bool false, .bool false, .bool false] (a_5.add 6) 0 w5 fun w6 =>
    R (0 : Int) w6)) = kstep Try.prog 42 Try.f21.results.toList (Try.f21.body.getD .skip) (electm_Elect_Restore.RV R) (kvc Try.prog 42 Try.f21.results.toList (Try.f21.body.getD .skip) (electm_Elect_Restore.RV R) [] 2000) [(0, [1, 0, 1]), (0, [1, 1])] [(0, .pointer e), (1, .int .i64 term), (2, .int .i64 vote), (20, .bool t20)] w := by kernel_rfl
theorem electm_Elect_Restore.B1_sound {R : Int → World → Prop}  (e : Option Addr) (term vote : Int) (t20 : Bool) (w : World) (h : electm_Elect_Restore.B1 e term vote t20 w   R) :
    KW Try.prog 21 42 (electm_Elect_Restore.RV R) ([(0, [1, 0, 1]), (0, [1, 1])].map (toItem (Try.f21.body.getD .skip))) [(0, .pointer e), (1, .int .i64 term), (2, .int .i64 vote), (20, .bool t20)] w := by
  exact block_spec Try.func21 Try.mixed stops_nil (Eq.mp (electm_Elect_Restore.B1_eq e term vote t20 w   R ) h)
def electm_Elect_Restore.B0 (e : Option Addr) (term vote : Int) (w : World)   (R : Int → World → Prop) : Prop :=
  Bm (decide (term < (0 : Int))) (
    electm_Elect_Restore.B1 e term vote true w  R) (
    Bm (decide (term > (72057594037927936 : Int))) (
      electm_Elect_Restore.B1 e term vote true w  R) (
      Bm (decide (vote < (-1 : Int))) (
        electm_Elect_Restore.B1 e term vote true w  R) (
        electm_Elect_Restore.B1 e term vote (decide (vote ≥ (3 : Int))) w  R)))
theorem electm_Elect_Restore.B0_eq (e : Option Addr) (term vote : Int) (w : World)   (R : Int → World → Prop) (sB1 : Option Addr → Int → Int → Bool → World → Prop) :
    (
  Bm (decide (term < (0 : Int))) (
    sB1 e term vote true w) (
    Bm (decide (term > (72057594037927936 : Int))) (
      sB1 e term vote true w) (
      Bm (decide (vote < (-1 : Int))) (
        sB1 e term vote true w) (
        sB1 e term vote (decide (vote ≥ (3 : Int))) w)))) = kstep Try.prog 42 Try.f21.results.toList (Try.f21.body.getD .skip) (electm_Elect_Restore.RV R) (kvc Try.prog 42 Try.f21.results.toList (Try.f21.body.getD .skip) (electm_Elect_Restore.RV R) [([(0, [1, 0, 1]), (0, [1, 1])], fun σ w => dP (slotOf σ 0) fun e_ => dI .i64 (slotOf σ 1) fun term_ => dI .i64 (slotOf σ 2) fun vote_ => dB (slotOf σ 20) fun t20_ => sB1 e_ term_ vote_ t20_ w)] 2000) [(0, [])] [(0, .pointer e), (1, .int .i64 term), (2, .int .i64 vote)] w := by kernel_rfl
theorem electm_Elect_Restore.B0_sound {R : Int → World → Prop}  (e : Option Addr) (term vote : Int) (w : World) (h : electm_Elect_Restore.B0 e term vote w   R) :
    KW Try.prog 21 42 (electm_Elect_Restore.RV R) ([(0, [])].map (toItem (Try.f21.body.getD .skip))) [(0, .pointer e), (1, .int .i64 term), (2, .int .i64 vote)] w := by
  exact block_spec Try.func21 Try.mixed (stops_cons (fun σ w h => by
      obtain ⟨e_, e0, h⟩ := dP_elim h
      obtain ⟨term_, e1, h⟩ := dI_elim h
      obtain ⟨vote_, e2, h⟩ := dI_elim h
      obtain ⟨t20_, e3, h⟩ := dB_elim h
      exact (electm_Elect_Restore.B1_sound  e_ term_ vote_ t20_ w h).weaken (Sub.cons (Sub.cons (Sub.cons (Sub.cons (Sub.nil _) e3) e2) e1) e0)) stops_nil) (Eq.mp (electm_Elect_Restore.B0_eq e term vote w   R (fun e_ term_ vote_ t20_ w => electm_Elect_Restore.B1 e_ term_ vote_ t20_ w  R)) h)
theorem electm_Elect_Restore.sound (e : Option Addr) (term vote : Int) (w : World) (R : Int → World → Prop) (h : electm_Elect_Restore.B0 e term vote w R) : electm_Elect_Restore.Call e term vote w R := by
  have hc := calls_of_block (args := #[.pointer e, .int .i64 term, .int .i64 vote]) Try.func21 (body := (Try.f21.body.getD .skip)) (by kernel_rfl) (by kernel_rfl) (args_slot _) (electm_Elect_Restore.B0_sound e term vote w h)
  exact hc.mono fun e w' he => by
    obtain ⟨v, rfl, hv⟩ := he
    exact electm_Elect_Restore.RV_elim hv
def electlaw_TermRises.B0 (a_0 a_1 a_2 b_0 b_1 b_2 : Int) (w : World)   (R : Bool → World → Prop) : Prop :=
  New (.cells #[.int .i64 a_0, .int .i64 a_1, .int .i64 a_2] 32) w fun a_ w1 =>
  New (.cells #[.int .i64 b_0, .int .i64 b_1, .int .i64 b_2] 32) w1 fun b_ w2 =>
  LdI .i64 ⟨b_, 0, none⟩ w2 fun x6 =>
  LdI .i64 ⟨a_, 0, none⟩ w2 fun x8 =>
  R (decide (x6 ≥ x8)) w2
theorem electlaw_TermRises.B0_eq (a_0 a_1 a_2 b_0 b_1 b_2 : Int) (w : World)   (R : Bool → World → Prop)  :
    (
  New (.cells #[.int .i64 a_0, .int .i64 a_1, .int .i64 a_2] 32) w fun a_ w1 =>
  New (.cells #[.int .i64 b_0, .int .i64 b_1, .int .i64 b_2] 32) w1 fun b_ w2 =>
  LdI .i64 ⟨b_, 0, none⟩ w2 fun x6 =>
  LdI .i64 ⟨a_, 0, none⟩ w2 fun x8 =>
  R (decide (x6 ≥ x8)) w2) = kstep Try.prog 10 Try.f22.results.toList (Try.f22.body.getD .skip) (electlaw_TermRises.RV R) (kvc Try.prog 10 Try.f22.results.toList (Try.f22.body.getD .skip) (electlaw_TermRises.RV R) [] 2000) [(0, [])] [(0, .agg #[.int .i64 a_0, .int .i64 a_1, .int .i64 a_2]), (1, .agg #[.int .i64 b_0, .int .i64 b_1, .int .i64 b_2])] w := by kernel_rfl
theorem electlaw_TermRises.B0_sound {R : Bool → World → Prop}  (a_0 a_1 a_2 b_0 b_1 b_2 : Int) (w : World) (h : electlaw_TermRises.B0 a_0 a_1 a_2 b_0 b_1 b_2 w   R) :
    KW Try.prog 22 10 (electlaw_TermRises.RV R) ([(0, [])].map (toItem (Try.f22.body.getD .skip))) [(0, .agg #[.int .i64 a_0, .int .i64 a_1, .int .i64 a_2]), (1, .agg #[.int .i64 b_0, .int .i64 b_1, .int .i64 b_2])] w := by
  exact block_spec Try.func22 Try.mixed stops_nil (Eq.mp (electlaw_TermRises.B0_eq a_0 a_1 a_2 b_0 b_1 b_2 w   R ) h)
theorem electlaw_TermRises.sound (a_0 a_1 a_2 b_0 b_1 b_2 : Int) (w : World) (R : Bool → World → Prop) (h : electlaw_TermRises.B0 a_0 a_1 a_2 b_0 b_1 b_2 w R) : electlaw_TermRises.Call a_0 a_1 a_2 b_0 b_1 b_2 w R := by
  have hc := calls_of_block (args := #[.agg #[.int .i64 a_0, .int .i64 a_1, .int .i64 a_2], .agg #[.int .i64 b_0, .int .i64 b_1, .int .i64 b_2]]) Try.func22 (body := (Try.f22.body.getD .skip)) (by kernel_rfl) (by kernel_rfl) (args_slot _) (electlaw_TermRises.B0_sound a_0 a_1 a_2 b_0 b_1 b_2 w h)
  exact hc.mono fun e w' he => by
    obtain ⟨v, rfl, hv⟩ := he
    exact electlaw_TermRises.RV_elim hv
def electlaw_VotesOnce.B0 (a_0 a_1 a_2 b_0 b_1 b_2 : Int) (w : World)   (R : Bool → World → Prop) : Prop :=
  New (.cells #[.int .i64 a_0, .int .i64 a_1, .int .i64 a_2] 32) w fun a_ w1 =>
  New (.cells #[.int .i64 b_0, .int .i64 b_1, .int .i64 b_2] 32) w1 fun b_ w2 =>
  LdI .i64 ⟨b_, 0, none⟩ w2 fun x6 =>
  LdI .i64 ⟨a_, 0, none⟩ w2 fun x8 =>
  Bm (x6 != x8) (
    R true w2) (
    LdI .i64 ⟨b_, 1, none⟩ w2 fun x12 =>
    LdI .i64 ⟨a_, 1, none⟩ w2 fun x14 =>
    Bm (x12 == x14) (
      R true w2) (
      LdI .i64 ⟨a_, 1, none⟩ w2 fun x19 =>
      R (x19 == (-1 : Int)) w2))
theorem electlaw_VotesOnce.B0_eq (a_0 a_1 a_2 b_0 b_1 b_2 : Int) (w : World)   (R : Bool → World → Prop)  :
    (
  New (.cells #[.int .i64 a_0, .int .i64 a_1, .int .i64 a_2] 32) w fun a_ w1 =>
  New (.cells #[.int .i64 b_0, .int .i64 b_1, .int .i64 b_2] 32) w1 fun b_ w2 =>
  LdI .i64 ⟨b_, 0, none⟩ w2 fun x6 =>
  LdI .i64 ⟨a_, 0, none⟩ w2 fun x8 =>
  Bm (x6 != x8) (
    R true w2) (
    LdI .i64 ⟨b_, 1, none⟩ w2 fun x12 =>
    LdI .i64 ⟨a_, 1, none⟩ w2 fun x14 =>
    Bm (x12 == x14) (
      R true w2) (
      LdI .i64 ⟨a_, 1, none⟩ w2 fun x19 =>
      R (x19 == (-1 : Int)) w2))) = kstep Try.prog 22 Try.f23.results.toList (Try.f23.body.getD .skip) (electlaw_VotesOnce.RV R) (kvc Try.prog 22 Try.f23.results.toList (Try.f23.body.getD .skip) (electlaw_VotesOnce.RV R) [] 2000) [(0, [])] [(0, .agg #[.int .i64 a_0, .int .i64 a_1, .int .i64 a_2]), (1, .agg #[.int .i64 b_0, .int .i64 b_1, .int .i64 b_2])] w := by kernel_rfl
theorem electlaw_VotesOnce.B0_sound {R : Bool → World → Prop}  (a_0 a_1 a_2 b_0 b_1 b_2 : Int) (w : World) (h : electlaw_VotesOnce.B0 a_0 a_1 a_2 b_0 b_1 b_2 w   R) :
    KW Try.prog 23 22 (electlaw_VotesOnce.RV R) ([(0, [])].map (toItem (Try.f23.body.getD .skip))) [(0, .agg #[.int .i64 a_0, .int .i64 a_1, .int .i64 a_2]), (1, .agg #[.int .i64 b_0, .int .i64 b_1, .int .i64 b_2])] w := by
  exact block_spec Try.func23 Try.mixed stops_nil (Eq.mp (electlaw_VotesOnce.B0_eq a_0 a_1 a_2 b_0 b_1 b_2 w   R ) h)
theorem electlaw_VotesOnce.sound (a_0 a_1 a_2 b_0 b_1 b_2 : Int) (w : World) (R : Bool → World → Prop) (h : electlaw_VotesOnce.B0 a_0 a_1 a_2 b_0 b_1 b_2 w R) : electlaw_VotesOnce.Call a_0 a_1 a_2 b_0 b_1 b_2 w R := by
  have hc := calls_of_block (args := #[.agg #[.int .i64 a_0, .int .i64 a_1, .int .i64 a_2], .agg #[.int .i64 b_0, .int .i64 b_1, .int .i64 b_2]]) Try.func23 (body := (Try.f23.body.getD .skip)) (by kernel_rfl) (by kernel_rfl) (args_slot _) (electlaw_VotesOnce.B0_sound a_0 a_1 a_2 b_0 b_1 b_2 w h)
  exact hc.mono fun e w' he => by
    obtain ⟨v, rfl, hv⟩ := he
    exact electlaw_VotesOnce.RV_elim hv
def electlaw_Foot.B0 (a_0 a_1 a_2 b_0 b_1 b_2 : Int) (won campaign : Bool) (w : World)   (R : Bool → World → Prop) : Prop :=
  New (.cells #[.int .i64 a_0, .int .i64 a_1, .int .i64 a_2] 32) w fun a_ w1 =>
  New (.cells #[.int .i64 b_0, .int .i64 b_1, .int .i64 b_2] 32) w1 fun b_ w2 =>
  LdI .i64 ⟨a_, 2, none⟩ w2 fun x11 =>
  Bm (x11 != (2 : Int)) (
    LdI .i64 ⟨b_, 2, none⟩ w2 fun x15 =>
    Bm (won == (x15 == (2 : Int))) (
      LdI .i64 ⟨b_, 2, none⟩ w2 fun x22 =>
      Bm (x22 == (1 : Int)) (
        LdI .i64 ⟨a_, 2, none⟩ w2 fun x26 =>
        Bm (x26 != (1 : Int)) (
          R (campaign == true) w2) (
          LdI .i64 ⟨b_, 0, none⟩ w2 fun x30 =>
          LdI .i64 ⟨a_, 0, none⟩ w2 fun x32 =>
          R (campaign == (x30 != x32)) w2)) (
        R (campaign == false) w2)) (
      R false w2)) (
    Bm (won == false) (
      LdI .i64 ⟨b_, 2, none⟩ w2 fun x22_1 =>
      Bm (x22_1 == (1 : Int)) (
        LdI .i64 ⟨a_, 2, none⟩ w2 fun x26_1 =>
        Bm (x26_1 != (1 : Int)) (
          R (campaign == true) w2) (
          LdI .i64 ⟨b_, 0, none⟩ w2 fun x30_1 =>
          LdI .i64 ⟨a_, 0, none⟩ w2 fun x32_1 =>
          R (campaign == (x30_1 != x32_1)) w2)) (
        R (campaign == false) w2)) (
      R false w2))
theorem electlaw_Foot.B0_eq (a_0 a_1 a_2 b_0 b_1 b_2 : Int) (won campaign : Bool) (w : World)   (R : Bool → World → Prop)  :
    (
  New (.cells #[.int .i64 a_0, .int .i64 a_1, .int .i64 a_2] 32) w fun a_ w1 =>
  New (.cells #[.int .i64 b_0, .int .i64 b_1, .int .i64 b_2] 32) w1 fun b_ w2 =>
  LdI .i64 ⟨a_, 2, none⟩ w2 fun x11 =>
  Bm (x11 != (2 : Int)) (
    LdI .i64 ⟨b_, 2, none⟩ w2 fun x15 =>
    Bm (won == (x15 == (2 : Int))) (
      LdI .i64 ⟨b_, 2, none⟩ w2 fun x22 =>
      Bm (x22 == (1 : Int)) (
        LdI .i64 ⟨a_, 2, none⟩ w2 fun x26 =>
        Bm (x26 != (1 : Int)) (
          R (campaign == true) w2) (
          LdI .i64 ⟨b_, 0, none⟩ w2 fun x30 =>
          LdI .i64 ⟨a_, 0, none⟩ w2 fun x32 =>
          R (campaign == (x30 != x32)) w2)) (
        R (campaign == false) w2)) (
      R false w2)) (
    Bm (won == false) (
      LdI .i64 ⟨b_, 2, none⟩ w2 fun x22_1 =>
      Bm (x22_1 == (1 : Int)) (
        LdI .i64 ⟨a_, 2, none⟩ w2 fun x26_1 =>
        Bm (x26_1 != (1 : Int)) (
          R (campaign == true) w2) (
          LdI .i64 ⟨b_, 0, none⟩ w2 fun x30_1 =>
          LdI .i64 ⟨a_, 0, none⟩ w2 fun x32_1 =>
          R (campaign == (x30_1 != x32_1)) w2)) (
        R (campaign == false) w2)) (
      R false w2))) = kstep Try.prog 38 Try.f24.results.toList (Try.f24.body.getD .skip) (electlaw_Foot.RV R) (kvc Try.prog 38 Try.f24.results.toList (Try.f24.body.getD .skip) (electlaw_Foot.RV R) [] 2000) [(0, [])] [(0, .agg #[.int .i64 a_0, .int .i64 a_1, .int .i64 a_2]), (1, .agg #[.int .i64 b_0, .int .i64 b_1, .int .i64 b_2]), (2, .bool won), (3, .bool campaign)] w := by kernel_rfl
theorem electlaw_Foot.B0_sound {R : Bool → World → Prop}  (a_0 a_1 a_2 b_0 b_1 b_2 : Int) (won campaign : Bool) (w : World) (h : electlaw_Foot.B0 a_0 a_1 a_2 b_0 b_1 b_2 won campaign w   R) :
    KW Try.prog 24 38 (electlaw_Foot.RV R) ([(0, [])].map (toItem (Try.f24.body.getD .skip))) [(0, .agg #[.int .i64 a_0, .int .i64 a_1, .int .i64 a_2]), (1, .agg #[.int .i64 b_0, .int .i64 b_1, .int .i64 b_2]), (2, .bool won), (3, .bool campaign)] w := by
  exact block_spec Try.func24 Try.mixed stops_nil (Eq.mp (electlaw_Foot.B0_eq a_0 a_1 a_2 b_0 b_1 b_2 won campaign w   R ) h)
theorem electlaw_Foot.sound (a_0 a_1 a_2 b_0 b_1 b_2 : Int) (won campaign : Bool) (w : World) (R : Bool → World → Prop) (h : electlaw_Foot.B0 a_0 a_1 a_2 b_0 b_1 b_2 won campaign w R) : electlaw_Foot.Call a_0 a_1 a_2 b_0 b_1 b_2 won campaign w R := by
  have hc := calls_of_block (args := #[.agg #[.int .i64 a_0, .int .i64 a_1, .int .i64 a_2], .agg #[.int .i64 b_0, .int .i64 b_1, .int .i64 b_2], .bool won, .bool campaign]) Try.func24 (body := (Try.f24.body.getD .skip)) (by kernel_rfl) (by kernel_rfl) (args_slot _) (electlaw_Foot.B0_sound a_0 a_1 a_2 b_0 b_1 b_2 won campaign w h)
  exact hc.mono fun e w' he => by
    obtain ⟨v, rfl, hv⟩ := he
    exact electlaw_Foot.RV_elim hv
def elect_New.B2 (id0 : Int) (w : World)   (R : Option Addr → World → Prop) : Prop :=
  New (.cells #[.int .i64 id0, .int .i64 (0 : Int), .int .i64 (0 : Int), .int .i64 (0 : Int), .int .i64 (0 : Int), .int .i64 (0 : Int)] 52) w fun b12 w1 =>
  elect_Elect_put.Call (some ⟨b12, 0, none⟩) (0 : Int) (-1 : Int) (-1 : Int) w1 fun w2 =>
  elect_Elect_wind.Call (some ⟨b12, 0, none⟩) w2 fun w3 =>
  R (some ⟨b12, 0, none⟩) w3
theorem elect_New.B2_eq (id0 : Int) (w : World)   (R : Option Addr → World → Prop)  :
    (
  New (.cells #[.int .i64 id0, .int .i64 (0 : Int), .int .i64 (0 : Int), .int .i64 (0 : Int), .int .i64 (0 : Int), .int .i64 (0 : Int)] 52) w fun b12 w1 =>
  elect_Elect_put.Call (some ⟨b12, 0, none⟩) (0 : Int) (-1 : Int) (-1 : Int) w1 fun w2 =>
  elect_Elect_wind.Call (some ⟨b12, 0, none⟩) w2 fun w3 =>
  R (some ⟨b12, 0, none⟩) w3) = kstep Try.prog 18 Try.f25.results.toList (Try.f25.body.getD .skip) (elect_New.RV R) (kvc Try.prog 18 Try.f25.results.toList (Try.f25.body.getD .skip) (elect_New.RV R) [] 2000) [(0, [1, 1])] [(0, .int .i64 id0)] w := by kernel_rfl
theorem elect_New.B2_sound {R : Option Addr → World → Prop}  (id0 : Int) (w : World) (h : elect_New.B2 id0 w   R) :
    KW Try.prog 25 18 (elect_New.RV R) ([(0, [1, 1])].map (toItem (Try.f25.body.getD .skip))) [(0, .int .i64 id0)] w := by
  exact block_spec Try.func25 Try.mixed stops_nil (Eq.mp (elect_New.B2_eq id0 w   R ) h)
def elect_New.B1 (id0 : Int) (t9 : Bool) (w : World)   (R : Option Addr → World → Prop) : Prop :=
  Bm t9 (
    elect_New.B2 (0 : Int) w  R) (
    elect_New.B2 id0 w  R)
theorem elect_New.B1_eq (id0 : Int) (t9 : Bool) (w : World)   (R : Option Addr → World → Prop) (sB2 : Int → World → Prop) :
    (
  Bm t9 (
    sB2 (0 : Int) w) (
    sB2 id0 w)) = kstep Try.prog 18 Try.f25.results.toList (Try.f25.body.getD .skip) (elect_New.RV R) (kvc Try.prog 18 Try.f25.results.toList (Try.f25.body.getD .skip) (elect_New.RV R) [([(0, [1, 1])], fun σ w => dI .i64 (slotOf σ 0) fun id0_ => sB2 id0_ w)] 2000) [(0, [1, 0, 1]), (0, [1, 1])] [(0, .int .i64 id0), (9, .bool t9)] w := by kernel_rfl
theorem elect_New.B1_sound {R : Option Addr → World → Prop}  (id0 : Int) (t9 : Bool) (w : World) (h : elect_New.B1 id0 t9 w   R) :
    KW Try.prog 25 18 (elect_New.RV R) ([(0, [1, 0, 1]), (0, [1, 1])].map (toItem (Try.f25.body.getD .skip))) [(0, .int .i64 id0), (9, .bool t9)] w := by
  exact block_spec Try.func25 Try.mixed (stops_cons (fun σ w h => by
      obtain ⟨id0_, e0, h⟩ := dI_elim h
      exact (elect_New.B2_sound  id0_ w h).weaken (Sub.cons (Sub.nil _) e0)) stops_nil) (Eq.mp (elect_New.B1_eq id0 t9 w   R (fun id0_ w => elect_New.B2 id0_ w  R)) h)
def elect_New.B0 (id0 : Int) (w : World)   (R : Option Addr → World → Prop) : Prop :=
  Bm (decide (id0 < (0 : Int))) (
    elect_New.B1 id0 true w  R) (
    elect_New.B1 id0 (decide (id0 ≥ (3 : Int))) w  R)
theorem elect_New.B0_eq (id0 : Int) (w : World)   (R : Option Addr → World → Prop) (sB1 : Int → Bool → World → Prop) :
    (
  Bm (decide (id0 < (0 : Int))) (
    sB1 id0 true w) (
    sB1 id0 (decide (id0 ≥ (3 : Int))) w)) = kstep Try.prog 18 Try.f25.results.toList (Try.f25.body.getD .skip) (elect_New.RV R) (kvc Try.prog 18 Try.f25.results.toList (Try.f25.body.getD .skip) (elect_New.RV R) [([(0, [1, 0, 1]), (0, [1, 1])], fun σ w => dI .i64 (slotOf σ 0) fun id0_ => dB (slotOf σ 9) fun t9_ => sB1 id0_ t9_ w)] 2000) [(0, [])] [(0, .int .i64 id0)] w := by kernel_rfl
theorem elect_New.B0_sound {R : Option Addr → World → Prop}  (id0 : Int) (w : World) (h : elect_New.B0 id0 w   R) :
    KW Try.prog 25 18 (elect_New.RV R) ([(0, [])].map (toItem (Try.f25.body.getD .skip))) [(0, .int .i64 id0)] w := by
  exact block_spec Try.func25 Try.mixed (stops_cons (fun σ w h => by
      obtain ⟨id0_, e0, h⟩ := dI_elim h
      obtain ⟨t9_, e1, h⟩ := dB_elim h
      exact (elect_New.B1_sound  id0_ t9_ w h).weaken (Sub.cons (Sub.cons (Sub.nil _) e1) e0)) stops_nil) (Eq.mp (elect_New.B0_eq id0 w   R (fun id0_ t9_ w => elect_New.B1 id0_ t9_ w  R)) h)
theorem elect_New.sound (id0 : Int) (w : World) (R : Option Addr → World → Prop) (h : elect_New.B0 id0 w R) : elect_New.Call id0 w R := by
  have hc := calls_of_block (args := #[.int .i64 id0]) Try.func25 (body := (Try.f25.body.getD .skip)) (by kernel_rfl) (by kernel_rfl) (args_slot _) (elect_New.B0_sound id0 w h)
  exact hc.mono fun e w' he => by
    obtain ⟨v, rfl, hv⟩ := he
    exact elect_New.RV_elim hv
def electlaw_Alike.B1 (x m0 : Option Addr) (k : Int) (t20 : Bool) (w : World) (N1 : Option Addr → Option Addr → Int → World → Prop)  (R : Bool → World → Prop) : Prop :=
  Bm t20 (
    R false w) (
    N1 x m0 (IntKind.i64.wrap (k + (1 : Int))) w)
theorem electlaw_Alike.B1_eq (x m0 : Option Addr) (k : Int) (t20 : Bool) (w : World) (N1 : Option Addr → Option Addr → Int → World → Prop)  (R : Bool → World → Prop)  :
    (
  Bm t20 (
    R false w) (
    N1 x m0 (IntKind.i64.wrap (k + (1 : Int))) w)) = kstep Try.prog 30 Try.f26.results.toList (Try.f26.body.getD .skip) (electlaw_Alike.RV R) (kvc Try.prog 30 Try.f26.results.toList (Try.f26.body.getD .skip) (electlaw_Alike.RV R) [([(0, [1, 0, 1, 0, 0]), (2, [1, 0, 1, 0, 0]), (1, [0]), (0, [1, 1])], fun σ w => dP (slotOf σ 0) fun x_ => dP (slotOf σ 1) fun m0_ => dI .i64 (slotOf σ 5) fun k_ => N1 x_ m0_ k_ w)] 2000) [(0, [1, 0, 1, 0, 0, 1, 0, 0, 1]), (1, [1]), (0, [1, 0, 1, 0, 0, 1, 1]), (2, [1, 0, 1, 0, 0]), (1, [0]), (0, [1, 1])] [(0, .pointer x), (1, .pointer m0), (5, .int .i64 k), (20, .bool t20)] w := by kernel_rfl
theorem electlaw_Alike.B1_sound {R : Bool → World → Prop} {N1 : Option Addr → Option Addr → Int → World → Prop} (hN1 : ∀ x m0 k w, N1 x m0 k w → KW Try.prog 26 30 (electlaw_Alike.RV R) ([(0, [1, 0, 1, 0, 0]), (2, [1, 0, 1, 0, 0]), (1, [0]), (0, [1, 1])].map (toItem (Try.f26.body.getD .skip))) [(0, .pointer x), (1, .pointer m0), (5, .int .i64 k)] w) (x m0 : Option Addr) (k : Int) (t20 : Bool) (w : World) (h : electlaw_Alike.B1 x m0 k t20 w N1  R) :
    KW Try.prog 26 30 (electlaw_Alike.RV R) ([(0, [1, 0, 1, 0, 0, 1, 0, 0, 1]), (1, [1]), (0, [1, 0, 1, 0, 0, 1, 1]), (2, [1, 0, 1, 0, 0]), (1, [0]), (0, [1, 1])].map (toItem (Try.f26.body.getD .skip))) [(0, .pointer x), (1, .pointer m0), (5, .int .i64 k), (20, .bool t20)] w := by
  exact block_spec Try.func26 Try.mixed (stops_cons (fun σ w h => by
      obtain ⟨x_, e0, h⟩ := dP_elim h
      obtain ⟨m0_, e1, h⟩ := dP_elim h
      obtain ⟨k_, e2, h⟩ := dI_elim h
      exact (hN1 x_ m0_ k_ w h).weaken (Sub.cons (Sub.cons (Sub.cons (Sub.nil _) e2) e1) e0)) stops_nil) (Eq.mp (electlaw_Alike.B1_eq x m0 k t20 w N1  R ) h)
def electlaw_Alike.L2b (x m0 : Option Addr) (p : Int) (w : World)  (N2 : Option Addr → Option Addr → Int → World → Prop) (R : Bool → World → Prop) : Prop :=
  Bm (decide (p ≤ (3 : Int))) (
    electlaw_SameGot.Call x m0 p w fun r28 w1 =>
    Bm (!r28) (
      R false w1) (
      N2 x m0 (IntKind.i64.wrap (p + (1 : Int))) w1)) (
    R true w)
theorem electlaw_Alike.L2b_eq (x m0 : Option Addr) (p : Int) (w : World)  (N2 : Option Addr → Option Addr → Int → World → Prop) (R : Bool → World → Prop)  :
    (
  Bm (decide (p ≤ (3 : Int))) (
    electlaw_SameGot.Call x m0 p w fun r28 w1 =>
    Bm (!r28) (
      R false w1) (
      N2 x m0 (IntKind.i64.wrap (p + (1 : Int))) w1)) (
    R true w)) = kstep Try.prog 30 Try.f26.results.toList (Try.f26.body.getD .skip) (electlaw_Alike.RV R) (kvc Try.prog 30 Try.f26.results.toList (Try.f26.body.getD .skip) (electlaw_Alike.RV R) [([(0, [1, 1, 0, 1, 0, 0]), (2, [1, 1, 0, 1, 0, 0]), (1, [2]), (0, [1, 1, 1])], fun σ w => dP (slotOf σ 0) fun x_ => dP (slotOf σ 1) fun m0_ => dI .i64 (slotOf σ 6) fun p_ => N2 x_ m0_ p_ w)] 2000) [(0, [1, 1, 0, 1, 0, 0]), (2, [1, 1, 0, 1, 0, 0]), (1, [2]), (0, [1, 1, 1])] [(0, .pointer x), (1, .pointer m0), (6, .int .i64 p)] w := by kernel_rfl
theorem electlaw_Alike.L2b_sound {R : Bool → World → Prop} {N2 : Option Addr → Option Addr → Int → World → Prop} (hN2 : ∀ x m0 p w, N2 x m0 p w → KW Try.prog 26 30 (electlaw_Alike.RV R) ([(0, [1, 1, 0, 1, 0, 0]), (2, [1, 1, 0, 1, 0, 0]), (1, [2]), (0, [1, 1, 1])].map (toItem (Try.f26.body.getD .skip))) [(0, .pointer x), (1, .pointer m0), (6, .int .i64 p)] w) (x m0 : Option Addr) (p : Int) (w : World) (h : electlaw_Alike.L2b x m0 p w  N2 R) :
    KW Try.prog 26 30 (electlaw_Alike.RV R) ([(0, [1, 1, 0, 1, 0, 0]), (2, [1, 1, 0, 1, 0, 0]), (1, [2]), (0, [1, 1, 1])].map (toItem (Try.f26.body.getD .skip))) [(0, .pointer x), (1, .pointer m0), (6, .int .i64 p)] w := by
  exact block_spec Try.func26 Try.mixed (stops_cons (fun σ w h => by
      obtain ⟨x_, e0, h⟩ := dP_elim h
      obtain ⟨m0_, e1, h⟩ := dP_elim h
      obtain ⟨p_, e2, h⟩ := dI_elim h
      exact (hN2 x_ m0_ p_ w h).weaken (Sub.cons (Sub.cons (Sub.cons (Sub.nil _) e2) e1) e0)) stops_nil) (Eq.mp (electlaw_Alike.L2b_eq x m0 p w  N2 R ) h)
def electlaw_Alike.L2 (x m0 : Option Addr) (p : Int) (w : World)  (R : Bool → World → Prop) : Prop :=
  ∃ (I : Nat → Option Addr → Option Addr → Int → World → Prop) (m : Nat), I m x m0 p w ∧ ∀ m x m0 p w, I m x m0 p w → electlaw_Alike.L2b x m0 p w  (fun x' m0' p' w' => ∃ m', m' < m ∧ I m' x' m0' p' w') R
theorem electlaw_Alike.L2_sound {R : Bool → World → Prop}  (x m0 : Option Addr) (p : Int) (w : World) (h : electlaw_Alike.L2 x m0 p w  R) :
    KW Try.prog 26 30 (electlaw_Alike.RV R) ([(0, [1, 1, 0, 1, 0, 0]), (2, [1, 1, 0, 1, 0, 0]), (1, [2]), (0, [1, 1, 1])].map (toItem (Try.f26.body.getD .skip))) [(0, .pointer x), (1, .pointer m0), (6, .int .i64 p)] w := by
  obtain ⟨I, m, h0, hr⟩ := h
  refine KW.loop (fun m σ w => ∃ (x m0 : Option Addr) (p : Int), σ = [(0, .pointer x), (1, .pointer m0), (6, .int .i64 p)] ∧ I m x m0 p w) ?_ m _ w ⟨x, m0, p, rfl, h0⟩
  rintro m ih σ w ⟨x, m0, p, rfl, hI⟩
  exact electlaw_Alike.L2b_sound  (N2 := fun x' m0' p' w' => ∃ m', m' < m ∧ I m' x' m0' p' w') (fun x' m0' p' w' hx => by obtain ⟨m', hlt, hI'⟩ := hx; exact ih m' hlt _ w' ⟨x', m0', p', rfl, hI'⟩) x m0 p w (hr m x m0 p w hI)
def electlaw_Alike.L1b (x m0 : Option Addr) (k : Int) (w : World)  (N1 : Option Addr → Option Addr → Int → World → Prop) (R : Bool → World → Prop) : Prop :=
  Bm (decide (k ≤ (28 : Int))) (
    Bm (k != (27 : Int)) (
      electlaw_Play.Call x m0 k (0 : Int) (0 : Int) (0 : Int) (ByteArray.mk #[]) (ByteArray.mk #[]) w fun r18 w1 =>
      electlaw_Alike.B1 x m0 k (!r18) w1 N1 R) (
      electlaw_Alike.B1 x m0 k false w N1 R)) (
    electlaw_Alike.L2 x m0 (-1 : Int) w  R)
theorem electlaw_Alike.L1b_eq (x m0 : Option Addr) (k : Int) (w : World)  (N1 : Option Addr → Option Addr → Int → World → Prop) (R : Bool → World → Prop) (sB1 : Option Addr → Option Addr → Int → Bool → World → Prop) (sL2 : Option Addr → Option Addr → Int → World → Prop) :
    (
  Bm (decide (k ≤ (28 : Int))) (
    Bm (k != (27 : Int)) (
      electlaw_Play.Call x m0 k (0 : Int) (0 : Int) (0 : Int) (ByteArray.mk #[]) (ByteArray.mk #[]) w fun r18 w1 =>
      sB1 x m0 k (!r18) w1) (
      sB1 x m0 k false w)) (
    sL2 x m0 (-1 : Int) w)) = kstep Try.prog 30 Try.f26.results.toList (Try.f26.body.getD .skip) (electlaw_Alike.RV R) (kvc Try.prog 30 Try.f26.results.toList (Try.f26.body.getD .skip) (electlaw_Alike.RV R) [([(0, [1, 0, 1, 0, 0, 1, 0, 0, 1]), (1, [1]), (0, [1, 0, 1, 0, 0, 1, 1]), (2, [1, 0, 1, 0, 0]), (1, [0]), (0, [1, 1])], fun σ w => dP (slotOf σ 0) fun x_ => dP (slotOf σ 1) fun m0_ => dI .i64 (slotOf σ 5) fun k_ => dB (slotOf σ 20) fun t20_ => sB1 x_ m0_ k_ t20_ w),
    ([(0, [1, 1, 0, 1, 0, 0]), (2, [1, 1, 0, 1, 0, 0]), (1, [2]), (0, [1, 1, 1])], fun σ w => dP (slotOf σ 0) fun x_ => dP (slotOf σ 1) fun m0_ => dI .i64 (slotOf σ 6) fun p_ => sL2 x_ m0_ p_ w)] 2000) [(0, [1, 0, 1, 0, 0]), (2, [1, 0, 1, 0, 0]), (1, [0]), (0, [1, 1])] [(0, .pointer x), (1, .pointer m0), (5, .int .i64 k)] w := by kernel_rfl
theorem electlaw_Alike.L1b_sound {R : Bool → World → Prop} {N1 : Option Addr → Option Addr → Int → World → Prop} (hN1 : ∀ x m0 k w, N1 x m0 k w → KW Try.prog 26 30 (electlaw_Alike.RV R) ([(0, [1, 0, 1, 0, 0]), (2, [1, 0, 1, 0, 0]), (1, [0]), (0, [1, 1])].map (toItem (Try.f26.body.getD .skip))) [(0, .pointer x), (1, .pointer m0), (5, .int .i64 k)] w) (x m0 : Option Addr) (k : Int) (w : World) (h : electlaw_Alike.L1b x m0 k w  N1 R) :
    KW Try.prog 26 30 (electlaw_Alike.RV R) ([(0, [1, 0, 1, 0, 0]), (2, [1, 0, 1, 0, 0]), (1, [0]), (0, [1, 1])].map (toItem (Try.f26.body.getD .skip))) [(0, .pointer x), (1, .pointer m0), (5, .int .i64 k)] w := by
  exact block_spec Try.func26 Try.mixed (stops_cons (fun σ w h => by
      obtain ⟨x_, e0, h⟩ := dP_elim h
      obtain ⟨m0_, e1, h⟩ := dP_elim h
      obtain ⟨k_, e2, h⟩ := dI_elim h
      obtain ⟨t20_, e3, h⟩ := dB_elim h
      exact (electlaw_Alike.B1_sound hN1 x_ m0_ k_ t20_ w h).weaken (Sub.cons (Sub.cons (Sub.cons (Sub.cons (Sub.nil _) e3) e2) e1) e0)) (stops_cons (fun σ w h => by
      obtain ⟨x_, e0, h⟩ := dP_elim h
      obtain ⟨m0_, e1, h⟩ := dP_elim h
      obtain ⟨p_, e2, h⟩ := dI_elim h
      exact (electlaw_Alike.L2_sound  x_ m0_ p_ w h).weaken (Sub.cons (Sub.cons (Sub.cons (Sub.nil _) e2) e1) e0)) stops_nil)) (Eq.mp (electlaw_Alike.L1b_eq x m0 k w  N1 R (fun x_ m0_ k_ t20_ w => electlaw_Alike.B1 x_ m0_ k_ t20_ w N1 R) (fun x_ m0_ p_ w => electlaw_Alike.L2 x_ m0_ p_ w  R)) h)
def electlaw_Alike.L1 (x m0 : Option Addr) (k : Int) (w : World)  (R : Bool → World → Prop) : Prop :=
  ∃ (I : Nat → Option Addr → Option Addr → Int → World → Prop) (m : Nat), I m x m0 k w ∧ ∀ m x m0 k w, I m x m0 k w → electlaw_Alike.L1b x m0 k w  (fun x' m0' k' w' => ∃ m', m' < m ∧ I m' x' m0' k' w') R
theorem electlaw_Alike.L1_sound {R : Bool → World → Prop}  (x m0 : Option Addr) (k : Int) (w : World) (h : electlaw_Alike.L1 x m0 k w  R) :
    KW Try.prog 26 30 (electlaw_Alike.RV R) ([(0, [1, 0, 1, 0, 0]), (2, [1, 0, 1, 0, 0]), (1, [0]), (0, [1, 1])].map (toItem (Try.f26.body.getD .skip))) [(0, .pointer x), (1, .pointer m0), (5, .int .i64 k)] w := by
  obtain ⟨I, m, h0, hr⟩ := h
  refine KW.loop (fun m σ w => ∃ (x m0 : Option Addr) (k : Int), σ = [(0, .pointer x), (1, .pointer m0), (5, .int .i64 k)] ∧ I m x m0 k w) ?_ m _ w ⟨x, m0, k, rfl, h0⟩
  rintro m ih σ w ⟨x, m0, k, rfl, hI⟩
  exact electlaw_Alike.L1b_sound  (N1 := fun x' m0' k' w' => ∃ m', m' < m ∧ I m' x' m0' k' w') (fun x' m0' k' w' hx => by obtain ⟨m', hlt, hI'⟩ := hx; exact ih m' hlt _ w' ⟨x', m0', k', rfl, hI'⟩) x m0 k w (hr m x m0 k w hI)
def electlaw_Alike.B0 (x m0 : Option Addr) (w : World)   (R : Bool → World → Prop) : Prop :=
  electlaw_Alike.L1 x m0 (21 : Int) w  R
theorem electlaw_Alike.B0_eq (x m0 : Option Addr) (w : World)   (R : Bool → World → Prop) (sL1 : Option Addr → Option Addr → Int → World → Prop) :
    (
  sL1 x m0 (21 : Int) w) = kstep Try.prog 30 Try.f26.results.toList (Try.f26.body.getD .skip) (electlaw_Alike.RV R) (kvc Try.prog 30 Try.f26.results.toList (Try.f26.body.getD .skip) (electlaw_Alike.RV R) [([(0, [1, 0, 1, 0, 0]), (2, [1, 0, 1, 0, 0]), (1, [0]), (0, [1, 1])], fun σ w => dP (slotOf σ 0) fun x_ => dP (slotOf σ 1) fun m0_ => dI .i64 (slotOf σ 5) fun k_ => sL1 x_ m0_ k_ w)] 2000) [(0, [])] [(0, .pointer x), (1, .pointer m0)] w := by kernel_rfl
theorem electlaw_Alike.B0_sound {R : Bool → World → Prop}  (x m0 : Option Addr) (w : World) (h : electlaw_Alike.B0 x m0 w   R) :
    KW Try.prog 26 30 (electlaw_Alike.RV R) ([(0, [])].map (toItem (Try.f26.body.getD .skip))) [(0, .pointer x), (1, .pointer m0)] w := by
  exact block_spec Try.func26 Try.mixed (stops_cons (fun σ w h => by
      obtain ⟨x_, e0, h⟩ := dP_elim h
      obtain ⟨m0_, e1, h⟩ := dP_elim h
      obtain ⟨k_, e2, h⟩ := dI_elim h
      exact (electlaw_Alike.L1_sound  x_ m0_ k_ w h).weaken (Sub.cons (Sub.cons (Sub.cons (Sub.nil _) e2) e1) e0)) stops_nil) (Eq.mp (electlaw_Alike.B0_eq x m0 w   R (fun x_ m0_ k_ w => electlaw_Alike.L1 x_ m0_ k_ w  R)) h)
theorem electlaw_Alike.sound (x m0 : Option Addr) (w : World) (R : Bool → World → Prop) (h : electlaw_Alike.B0 x m0 w R) : electlaw_Alike.Call x m0 w R := by
  have hc := calls_of_block (args := #[.pointer x, .pointer m0]) Try.func26 (body := (Try.f26.body.getD .skip)) (by kernel_rfl) (by kernel_rfl) (args_slot _) (electlaw_Alike.B0_sound x m0 w h)
  exact hc.mono fun e w' he => by
    obtain ⟨v, rfl, hv⟩ := he
    exact electlaw_Alike.RV_elim hv
def electlaw_Play.B0 (x m0 : Option Addr) (o_0 o_1 o_2 o_3 : Int) (o_4 o_5 : ByteArray) (w : World)   (R : Bool → World → Prop) : Prop :=
  New (.cells #[.int .i64 o_0, .int .i64 o_1, .int .i64 o_2, .int .i64 o_3, .string o_4, .string o_5] 30) w fun o_ w1 =>
  LdI .i64 ⟨o_, 0, none⟩ w1 fun x8 =>
  Bm (x8 == (1 : Int)) (
    electlaw_SameTick.Call x m0 w1 fun r13 w2 =>
    R r13 w2) (
    Bm (x8 == (2 : Int)) (
      LdI .i64 ⟨o_, 1, none⟩ w1 fun x19 =>
      electlaw_SameSee.Call x m0 x19 w1 fun r20 w3 =>
      R r20 w3) (
      Bm (x8 == (3 : Int)) (
        LdI .i64 ⟨o_, 1, none⟩ w1 fun x26 =>
        LdI .i64 ⟨o_, 2, none⟩ w1 fun x28 =>
        LdI .i64 ⟨o_, 3, none⟩ w1 fun x30 =>
        electlaw_SameAskedVote.Call x m0 x26 x28 (x30 != (0 : Int)) w1 fun r32 w4 =>
        R r32 w4) (
        Bm (x8 == (4 : Int)) (
          LdI .i64 ⟨o_, 1, none⟩ w1 fun x38 =>
          LdI .i64 ⟨o_, 2, none⟩ w1 fun x40 =>
          LdI .i64 ⟨o_, 3, none⟩ w1 fun x42 =>
          electlaw_SameGotVote.Call x m0 x38 x40 (x42 != (0 : Int)) w1 fun r44 w5 =>
          R r44 w5) (
          Bm (x8 == (5 : Int)) (
            LdI .i64 ⟨o_, 1, none⟩ w1 fun x50 =>
            LdI .i64 ⟨o_, 2, none⟩ w1 fun x52 =>
            electlaw_SameHeard.Call x m0 x50 x52 w1 fun r53 w6 =>
            R r53 w6) (
            Bm (x8 == (6 : Int)) (
              LdI .i64 ⟨o_, 1, none⟩ w1 fun x59 =>
              LdI .i64 ⟨o_, 2, none⟩ w1 fun x61 =>
              electlaw_SameRestore.Call x m0 x59 x61 w1 fun r62 w7 =>
              R r62 w7) (
              Bm (x8 == (21 : Int)) (
                electlaw_SameId.Call x m0 w1 fun r67 w8 =>
                R r67 w8) (
                Bm (x8 == (22 : Int)) (
                  electlaw_SameTerm.Call x m0 w1 fun r72 w9 =>
                  R r72 w9) (
                  Bm (x8 == (23 : Int)) (
                    electlaw_SameVote.Call x m0 w1 fun r77 w10 =>
                    R r77 w10) (
                    Bm (x8 == (24 : Int)) (
                      electlaw_SameRole.Call x m0 w1 fun r82 w11 =>
                      R r82 w11) (
                      Bm (x8 == (25 : Int)) (
                        electlaw_SameLeader.Call x m0 w1 fun r87 w12 =>
                        R r87 w12) (
                        Bm (x8 == (26 : Int)) (
                          electlaw_SameClock.Call x m0 w1 fun r92 w13 =>
                          R r92 w13) (
                          Bm (x8 == (27 : Int)) (
                            LdI .i64 ⟨o_, 1, none⟩ w1 fun x98 =>
                            electlaw_SameGot.Call x m0 x98 w1 fun r99 w14 =>
                            R r99 w14) (
                            Bm (x8 == (28 : Int)) (
                              electlaw_Sound.Call x w1 fun r103 w15 =>
                              R r103 w15) (
                              R true w1))))))))))))))
theorem electlaw_Play.B0_eq (x m0 : Option Addr) (o_0 o_1 o_2 o_3 : Int) (o_4 o_5 : ByteArray) (w : World)   (R : Bool → World → Prop)  :
    (
  New (.cells #[.int .i64 o_0, .int .i64 o_1, .int .i64 o_2, .int .i64 o_3, .string o_4, .string o_5] 30) w fun o_ w1 =>
  LdI .i64 ⟨o_, 0, none⟩ w1 fun x8 =>
  Bm (x8 == (1 : Int)) (
    electlaw_SameTick.Call x m0 w1 fun r13 w2 =>
    R r13 w2) (
    Bm (x8 == (2 : Int)) (
      LdI .i64 ⟨o_, 1, none⟩ w1 fun x19 =>
      electlaw_SameSee.Call x m0 x19 w1 fun r20 w3 =>
      R r20 w3) (
      Bm (x8 == (3 : Int)) (
        LdI .i64 ⟨o_, 1, none⟩ w1 fun x26 =>
        LdI .i64 ⟨o_, 2, none⟩ w1 fun x28 =>
        LdI .i64 ⟨o_, 3, none⟩ w1 fun x30 =>
        electlaw_SameAskedVote.Call x m0 x26 x28 (x30 != (0 : Int)) w1 fun r32 w4 =>
        R r32 w4) (
        Bm (x8 == (4 : Int)) (
          LdI .i64 ⟨o_, 1, none⟩ w1 fun x38 =>
          LdI .i64 ⟨o_, 2, none⟩ w1 fun x40 =>
          LdI .i64 ⟨o_, 3, none⟩ w1 fun x42 =>
          electlaw_SameGotVote.Call x m0 x38 x40 (x42 != (0 : Int)) w1 fun r44 w5 =>
          R r44 w5) (
          Bm (x8 == (5 : Int)) (
            LdI .i64 ⟨o_, 1, none⟩ w1 fun x50 =>
            LdI .i64 ⟨o_, 2, none⟩ w1 fun x52 =>
            electlaw_SameHeard.Call x m0 x50 x52 w1 fun r53 w6 =>
            R r53 w6) (
            Bm (x8 == (6 : Int)) (
              LdI .i64 ⟨o_, 1, none⟩ w1 fun x59 =>
              LdI .i64 ⟨o_, 2, none⟩ w1 fun x61 =>
              electlaw_SameRestore.Call x m0 x59 x61 w1 fun r62 w7 =>
              R r62 w7) (
              Bm (x8 == (21 : Int)) (
                electlaw_SameId.Call x m0 w1 fun r67 w8 =>
                R r67 w8) (
                Bm (x8 == (22 : Int)) (
                  electlaw_SameTerm.Call x m0 w1 fun r72 w9 =>
                  R r72 w9) (
                  Bm (x8 == (23 : Int)) (
                    electlaw_SameVote.Call x m0 w1 fun r77 w10 =>
                    R r77 w10) (
                    Bm (x8 == (24 : Int)) (
                      electlaw_SameRole.Call x m0 w1 fun r82 w11 =>
                      R r82 w11) (
                      Bm (x8 == (25 : Int)) (
                        electlaw_SameLeader.Call x m0 w1 fun r87 w12 =>
                        R r87 w12) (
                        Bm (x8 == (26 : Int)) (
                          electlaw_SameClock.Call x m0 w1 fun r92 w13 =>
                          R r92 w13) (
                          Bm (x8 == (27 : Int)) (
                            LdI .i64 ⟨o_, 1, none⟩ w1 fun x98 =>
                            electlaw_SameGot.Call x m0 x98 w1 fun r99 w14 =>
                            R r99 w14) (
                            Bm (x8 == (28 : Int)) (
                              electlaw_Sound.Call x w1 fun r103 w15 =>
                              R r103 w15) (
                              R true w1))))))))))))))) = kstep Try.prog 104 Try.f27.results.toList (Try.f27.body.getD .skip) (electlaw_Play.RV R) (kvc Try.prog 104 Try.f27.results.toList (Try.f27.body.getD .skip) (electlaw_Play.RV R) [] 2000) [(0, [])] [(0, .pointer x), (1, .pointer m0), (2, .agg #[.int .i64 o_0, .int .i64 o_1, .int .i64 o_2, .int .i64 o_3, .string o_4, .string o_5])] w := by kernel_rfl
theorem electlaw_Play.B0_sound {R : Bool → World → Prop}  (x m0 : Option Addr) (o_0 o_1 o_2 o_3 : Int) (o_4 o_5 : ByteArray) (w : World) (h : electlaw_Play.B0 x m0 o_0 o_1 o_2 o_3 o_4 o_5 w   R) :
    KW Try.prog 27 104 (electlaw_Play.RV R) ([(0, [])].map (toItem (Try.f27.body.getD .skip))) [(0, .pointer x), (1, .pointer m0), (2, .agg #[.int .i64 o_0, .int .i64 o_1, .int .i64 o_2, .int .i64 o_3, .string o_4, .string o_5])] w := by
  exact block_spec Try.func27 Try.mixed stops_nil (Eq.mp (electlaw_Play.B0_eq x m0 o_0 o_1 o_2 o_3 o_4 o_5 w   R ) h)
theorem electlaw_Play.sound (x m0 : Option Addr) (o_0 o_1 o_2 o_3 : Int) (o_4 o_5 : ByteArray) (w : World) (R : Bool → World → Prop) (h : electlaw_Play.B0 x m0 o_0 o_1 o_2 o_3 o_4 o_5 w R) : electlaw_Play.Call x m0 o_0 o_1 o_2 o_3 o_4 o_5 w R := by
  have hc := calls_of_block (args := #[.pointer x, .pointer m0, .agg #[.int .i64 o_0, .int .i64 o_1, .int .i64 o_2, .int .i64 o_3, .string o_4, .string o_5]]) Try.func27 (body := (Try.f27.body.getD .skip)) (by kernel_rfl) (by kernel_rfl) (args_slot _) (electlaw_Play.B0_sound x m0 o_0 o_1 o_2 o_3 o_4 o_5 w h)
  exact hc.mono fun e w' he => by
    obtain ⟨v, rfl, hv⟩ := he
    exact electlaw_Play.RV_elim hv
def electm_Elect_Vote.B0 (e : Option Addr) (w : World)   (R : Int → World → Prop) : Prop :=
  Pn e fun a =>
  LdI .i64 (a.add 2) w fun x6 =>
  R x6 w
theorem electm_Elect_Vote.B0_eq (e : Option Addr) (w : World)   (R : Int → World → Prop)  :
    (
  Pn e fun a =>
  LdI .i64 (a.add 2) w fun x6 =>
  R x6 w) = kstep Try.prog 7 Try.f28.results.toList (Try.f28.body.getD .skip) (electm_Elect_Vote.RV R) (kvc Try.prog 7 Try.f28.results.toList (Try.f28.body.getD .skip) (electm_Elect_Vote.RV R) [] 2000) [(0, [])] [(0, .pointer e)] w := by kernel_rfl
theorem electm_Elect_Vote.B0_sound {R : Int → World → Prop}  (e : Option Addr) (w : World) (h : electm_Elect_Vote.B0 e w   R) :
    KW Try.prog 28 7 (electm_Elect_Vote.RV R) ([(0, [])].map (toItem (Try.f28.body.getD .skip))) [(0, .pointer e)] w := by
  exact block_spec Try.func28 Try.mixed stops_nil (Eq.mp (electm_Elect_Vote.B0_eq e w   R ) h)
theorem electm_Elect_Vote.sound (e : Option Addr) (w : World) (R : Int → World → Prop) (h : electm_Elect_Vote.B0 e w R) : electm_Elect_Vote.Call e w R := by
  have hc := calls_of_block (args := #[.pointer e]) Try.func28 (body := (Try.f28.body.getD .skip)) (by kernel_rfl) (by kernel_rfl) (args_slot _) (electm_Elect_Vote.B0_sound e w h)
  exact hc.mono fun e w' he => by
    obtain ⟨v, rfl, hv⟩ := he
    exact electm_Elect_Vote.RV_elim hv
def electm_Elect_Role.B0 (e : Option Addr) (w : World)   (R : Int → World → Prop) : Prop :=
  Pn e fun a =>
  LdI .i64 (a.add 3) w fun x6 =>
  R x6 w
theorem electm_Elect_Role.B0_eq (e : Option Addr) (w : World)   (R : Int → World → Prop)  :
    (
  Pn e fun a =>
  LdI .i64 (a.add 3) w fun x6 =>
  R x6 w) = kstep Try.prog 7 Try.f29.results.toList (Try.f29.body.getD .skip) (electm_Elect_Role.RV R) (kvc Try.prog 7 Try.f29.results.toList (Try.f29.body.getD .skip) (electm_Elect_Role.RV R) [] 2000) [(0, [])] [(0, .pointer e)] w := by kernel_rfl
theorem electm_Elect_Role.B0_sound {R : Int → World → Prop}  (e : Option Addr) (w : World) (h : electm_Elect_Role.B0 e w   R) :
    KW Try.prog 29 7 (electm_Elect_Role.RV R) ([(0, [])].map (toItem (Try.f29.body.getD .skip))) [(0, .pointer e)] w := by
  exact block_spec Try.func29 Try.mixed stops_nil (Eq.mp (electm_Elect_Role.B0_eq e w   R ) h)
theorem electm_Elect_Role.sound (e : Option Addr) (w : World) (R : Int → World → Prop) (h : electm_Elect_Role.B0 e w R) : electm_Elect_Role.Call e w R := by
  have hc := calls_of_block (args := #[.pointer e]) Try.func29 (body := (Try.f29.body.getD .skip)) (by kernel_rfl) (by kernel_rfl) (args_slot _) (electm_Elect_Role.B0_sound e w h)
  exact hc.mono fun e w' he => by
    obtain ⟨v, rfl, hv⟩ := he
    exact electm_Elect_Role.RV_elim hv
def electm_Elect_peer.B0 (e : Option Addr) (p : Int) (w : World)   (R : Bool → World → Prop) : Prop :=
  Bm (decide (p ≥ (0 : Int))) (
    Bm (decide (p < (3 : Int))) (
      Pn e fun a =>
      LdI .i64 a w fun x16 =>
      R (p != x16) w) (
      R false w)) (
    R false w)
theorem electm_Elect_peer.B0_eq (e : Option Addr) (p : Int) (w : World)   (R : Bool → World → Prop)  :
    (
  Bm (decide (p ≥ (0 : Int))) (
    Bm (decide (p < (3 : Int))) (
      Pn e fun a =>
      LdI .i64 a w fun x16 =>
      R (p != x16) w) (
      R false w)) (
    R false w)) = kstep Try.prog 19 Try.f30.results.toList (Try.f30.body.getD .skip) (electm_Elect_peer.RV R) (kvc Try.prog 19 Try.f30.results.toList (Try.f30.body.getD .skip) (electm_Elect_peer.RV R) [] 2000) [(0, [])] [(0, .pointer e), (1, .int .i64 p)] w := by kernel_rfl
theorem electm_Elect_peer.B0_sound {R : Bool → World → Prop}  (e : Option Addr) (p : Int) (w : World) (h : electm_Elect_peer.B0 e p w   R) :
    KW Try.prog 30 19 (electm_Elect_peer.RV R) ([(0, [])].map (toItem (Try.f30.body.getD .skip))) [(0, .pointer e), (1, .int .i64 p)] w := by
  exact block_spec Try.func30 Try.mixed stops_nil (Eq.mp (electm_Elect_peer.B0_eq e p w   R ) h)
theorem electm_Elect_peer.sound (e : Option Addr) (p : Int) (w : World) (R : Bool → World → Prop) (h : electm_Elect_peer.B0 e p w R) : electm_Elect_peer.Call e p w R := by
  have hc := calls_of_block (args := #[.pointer e, .int .i64 p]) Try.func30 (body := (Try.f30.body.getD .skip)) (by kernel_rfl) (by kernel_rfl) (args_slot _) (electm_Elect_peer.B0_sound e p w h)
  exact hc.mono fun e w' he => by
    obtain ⟨v, rfl, hv⟩ := he
    exact electm_Elect_peer.RV_elim hv
def elect_Elect_put.B0 (e : Option Addr) (role vote leader : Int) (w : World)   (R : World → Prop) : Prop :=
  0 ≤ (2 : Int) ∧
  0 ≤ (4 : Int) ∧
  Pn e fun a =>
  Sts [.int .i64 (IntKind.i64.wrap (BitVec.ofInt IntKind.i64.bits (IntKind.i64.wrap (BitVec.ofInt IntKind.i64.bits role ||| BitVec.ofInt IntKind.i64.bits (IntKind.i64.wrap ((IntKind.i64.wrap (vote + (1 : Int))) * 2 ^ (min (2 : Int).toNat IntKind.i64.bits)))).toNat) ||| BitVec.ofInt IntKind.i64.bits (IntKind.i64.wrap ((IntKind.i64.wrap (leader + (1 : Int))) * 2 ^ (min (4 : Int).toNat IntKind.i64.bits)))).toNat)] (a.add 2) 0 w fun w1 =>
  R  w1
theorem elect_Elect_put.B0_eq (e : Option Addr) (role vote leader : Int) (w : World)   (R : World → Prop)  :
    (
  0 ≤ (2 : Int) ∧
  0 ≤ (4 : Int) ∧
  Pn e fun a =>
  Sts [.int .i64 (IntKind.i64.wrap (BitVec.ofInt IntKind.i64.bits (IntKind.i64.wrap (BitVec.ofInt IntKind.i64.bits role ||| BitVec.ofInt IntKind.i64.bits (IntKind.i64.wrap ((IntKind.i64.wrap (vote + (1 : Int))) * 2 ^ (min (2 : Int).toNat IntKind.i64.bits)))).toNat) ||| BitVec.ofInt IntKind.i64.bits (IntKind.i64.wrap ((IntKind.i64.wrap (leader + (1 : Int))) * 2 ^ (min (4 : Int).toNat IntKind.i64.bits)))).toNat)] (a.add 2) 0 w fun w1 =>
  R  w1) = kstep Try.prog 20 Try.f31.results.toList (Try.f31.body.getD .skip) (elect_Elect_put.RV R) (kvc Try.prog 20 Try.f31.results.toList (Try.f31.body.getD .skip) (elect_Elect_put.RV R) [] 2000) [(0, [])] [(0, .pointer e), (1, .int .i64 role), (2, .int .i64 vote), (3, .int .i64 leader)] w := by kernel_rfl
theorem elect_Elect_put.B0_sound {R : World → Prop}  (e : Option Addr) (role vote leader : Int) (w : World) (h : elect_Elect_put.B0 e role vote leader w   R) :
    KW Try.prog 31 20 (elect_Elect_put.RV R) ([(0, [])].map (toItem (Try.f31.body.getD .skip))) [(0, .pointer e), (1, .int .i64 role), (2, .int .i64 vote), (3, .int .i64 leader)] w := by
  exact block_spec Try.func31 Try.mixed stops_nil (Eq.mp (elect_Elect_put.B0_eq e role vote leader w   R ) h)
theorem elect_Elect_put.sound (e : Option Addr) (role vote leader : Int) (w : World) (R : World → Prop) (h : elect_Elect_put.B0 e role vote leader w R) : elect_Elect_put.Call e role vote leader w R := by
  have hc := calls_of_block (args := #[.pointer e, .int .i64 role, .int .i64 vote, .int .i64 leader]) Try.func31 (body := (Try.f31.body.getD .skip)) (by kernel_rfl) (by kernel_rfl) (args_slot _) (elect_Elect_put.B0_sound e role vote leader w h)
  exact hc.mono fun e w' he => by
    obtain ⟨v, rfl, hv⟩ := he
    exact elect_Elect_put.RV_elim hv
def elect_Elect_wind.B0 (e : Option Addr) (w : World)   (R : World → Prop) : Prop :=
  Pn e fun a =>
  LdI .i64 a w fun x7 =>
  api_Timeout.Call x7 w fun r8 w1 =>
  Pn e fun a_1 =>
  Sts [.int .i64 (0 : Int)] (a_1.add 4) 0 w1 fun w2 =>
  Pn e fun a_2 =>
  Sts [.int .i64 r8] (a_2.add 5) 0 w2 fun w3 =>
  R  w3
theorem elect_Elect_wind.B0_eq (e : Option Addr) (w : World)   (R : World → Prop)  :
    (
  Pn e fun a =>
  LdI .i64 a w fun x7 =>
  api_Timeout.Call x7 w fun r8 w1 =>
  Pn e fun a_1 =>
  Sts [.int .i64 (0 : Int)] (a_1.add 4) 0 w1 fun w2 =>
  Pn e fun a_2 =>
  Sts [.int .i64 r8] (a_2.add 5) 0 w2 fun w3 =>
  R  w3) = kstep Try.prog 13 Try.f32.results.toList (Try.f32.body.getD .skip) (elect_Elect_wind.RV R) (kvc Try.prog 13 Try.f32.results.toList (Try.f32.body.getD .skip) (elect_Elect_wind.RV R) [] 2000) [(0, [])] [(0, .pointer e)] w := by kernel_rfl
theorem elect_Elect_wind.B0_sound {R : World → Prop}  (e : Option Addr) (w : World) (h : elect_Elect_wind.B0 e w   R) :
    KW Try.prog 32 13 (elect_Elect_wind.RV R) ([(0, [])].map (toItem (Try.f32.body.getD .skip))) [(0, .pointer e)] w := by
  exact block_spec Try.func32 Try.mixed stops_nil (Eq.mp (elect_Elect_wind.B0_eq e w   R ) h)
theorem elect_Elect_wind.sound (e : Option Addr) (w : World) (R : World → Prop) (h : elect_Elect_wind.B0 e w R) : elect_Elect_wind.Call e w R := by
  have hc := calls_of_block (args := #[.pointer e]) Try.func32 (body := (Try.f32.body.getD .skip)) (by kernel_rfl) (by kernel_rfl) (args_slot _) (elect_Elect_wind.B0_sound e w h)
  exact hc.mono fun e w' he => by
    obtain ⟨v, rfl, hv⟩ := he
    exact elect_Elect_wind.RV_elim hv
def electlaw_SameGot.B0 (x m0 : Option Addr) (p : Int) (w : World)   (R : Bool → World → Prop) : Prop :=
  elect_Elect_Got.Call x p w fun r11 w1 =>
  electm_Elect_Got.Call m0 p w1 fun r14 w2 =>
  R (r11 == r14) w2
theorem electlaw_SameGot.B0_eq (x m0 : Option Addr) (p : Int) (w : World)   (R : Bool → World → Prop)  :
    (
  elect_Elect_Got.Call x p w fun r11 w1 =>
  electm_Elect_Got.Call m0 p w1 fun r14 w2 =>
  R (r11 == r14) w2) = kstep Try.prog 18 Try.f33.results.toList (Try.f33.body.getD .skip) (electlaw_SameGot.RV R) (kvc Try.prog 18 Try.f33.results.toList (Try.f33.body.getD .skip) (electlaw_SameGot.RV R) [] 2000) [(0, [])] [(0, .pointer x), (1, .pointer m0), (2, .int .i64 p)] w := by kernel_rfl
theorem electlaw_SameGot.B0_sound {R : Bool → World → Prop}  (x m0 : Option Addr) (p : Int) (w : World) (h : electlaw_SameGot.B0 x m0 p w   R) :
    KW Try.prog 33 18 (electlaw_SameGot.RV R) ([(0, [])].map (toItem (Try.f33.body.getD .skip))) [(0, .pointer x), (1, .pointer m0), (2, .int .i64 p)] w := by
  exact block_spec Try.func33 Try.mixed stops_nil (Eq.mp (electlaw_SameGot.B0_eq x m0 p w   R ) h)
theorem electlaw_SameGot.sound (x m0 : Option Addr) (p : Int) (w : World) (R : Bool → World → Prop) (h : electlaw_SameGot.B0 x m0 p w R) : electlaw_SameGot.Call x m0 p w R := by
  have hc := calls_of_block (args := #[.pointer x, .pointer m0, .int .i64 p]) Try.func33 (body := (Try.f33.body.getD .skip)) (by kernel_rfl) (by kernel_rfl) (args_slot _) (electlaw_SameGot.B0_sound x m0 p w h)
  exact hc.mono fun e w' he => by
    obtain ⟨v, rfl, hv⟩ := he
    exact electlaw_SameGot.RV_elim hv
def electlaw_SameTick.B0 (x m0 : Option Addr) (w : World)   (R : Bool → World → Prop) : Prop :=
  elect_Elect_Tick.Call x w fun r8 w1 =>
  electm_Elect_Tick.Call m0 w1 fun r10 w2 =>
  R (r8 == r10) w2
theorem electlaw_SameTick.B0_eq (x m0 : Option Addr) (w : World)   (R : Bool → World → Prop)  :
    (
  elect_Elect_Tick.Call x w fun r8 w1 =>
  electm_Elect_Tick.Call m0 w1 fun r10 w2 =>
  R (r8 == r10) w2) = kstep Try.prog 14 Try.f34.results.toList (Try.f34.body.getD .skip) (electlaw_SameTick.RV R) (kvc Try.prog 14 Try.f34.results.toList (Try.f34.body.getD .skip) (electlaw_SameTick.RV R) [] 2000) [(0, [])] [(0, .pointer x), (1, .pointer m0)] w := by kernel_rfl
theorem electlaw_SameTick.B0_sound {R : Bool → World → Prop}  (x m0 : Option Addr) (w : World) (h : electlaw_SameTick.B0 x m0 w   R) :
    KW Try.prog 34 14 (electlaw_SameTick.RV R) ([(0, [])].map (toItem (Try.f34.body.getD .skip))) [(0, .pointer x), (1, .pointer m0)] w := by
  exact block_spec Try.func34 Try.mixed stops_nil (Eq.mp (electlaw_SameTick.B0_eq x m0 w   R ) h)
theorem electlaw_SameTick.sound (x m0 : Option Addr) (w : World) (R : Bool → World → Prop) (h : electlaw_SameTick.B0 x m0 w R) : electlaw_SameTick.Call x m0 w R := by
  have hc := calls_of_block (args := #[.pointer x, .pointer m0]) Try.func34 (body := (Try.f34.body.getD .skip)) (by kernel_rfl) (by kernel_rfl) (args_slot _) (electlaw_SameTick.B0_sound x m0 w h)
  exact hc.mono fun e w' he => by
    obtain ⟨v, rfl, hv⟩ := he
    exact electlaw_SameTick.RV_elim hv
def electlaw_SameSee.B0 (x m0 : Option Addr) (term : Int) (w : World)   (R : Bool → World → Prop) : Prop :=
  elect_Elect_See.Call x term w fun r11 w1 =>
  electm_Elect_See.Call m0 term w1 fun r14 w2 =>
  R (r11 == r14) w2
theorem electlaw_SameSee.B0_eq (x m0 : Option Addr) (term : Int) (w : World)   (R : Bool → World → Prop)  :
    (
  elect_Elect_See.Call x term w fun r11 w1 =>
  electm_Elect_See.Call m0 term w1 fun r14 w2 =>
  R (r11 == r14) w2) = kstep Try.prog 18 Try.f35.results.toList (Try.f35.body.getD .skip) (electlaw_SameSee.RV R) (kvc Try.prog 18 Try.f35.results.toList (Try.f35.body.getD .skip) (electlaw_SameSee.RV R) [] 2000) [(0, [])] [(0, .pointer x), (1, .pointer m0), (2, .int .i64 term)] w := by kernel_rfl
theorem electlaw_SameSee.B0_sound {R : Bool → World → Prop}  (x m0 : Option Addr) (term : Int) (w : World) (h : electlaw_SameSee.B0 x m0 term w   R) :
    KW Try.prog 35 18 (electlaw_SameSee.RV R) ([(0, [])].map (toItem (Try.f35.body.getD .skip))) [(0, .pointer x), (1, .pointer m0), (2, .int .i64 term)] w := by
  exact block_spec Try.func35 Try.mixed stops_nil (Eq.mp (electlaw_SameSee.B0_eq x m0 term w   R ) h)
theorem electlaw_SameSee.sound (x m0 : Option Addr) (term : Int) (w : World) (R : Bool → World → Prop) (h : electlaw_SameSee.B0 x m0 term w R) : electlaw_SameSee.Call x m0 term w R := by
  have hc := calls_of_block (args := #[.pointer x, .pointer m0, .int .i64 term]) Try.func35 (body := (Try.f35.body.getD .skip)) (by kernel_rfl) (by kernel_rfl) (args_slot _) (electlaw_SameSee.B0_sound x m0 term w h)
  exact hc.mono fun e w' he => by
    obtain ⟨v, rfl, hv⟩ := he
    exact electlaw_SameSee.RV_elim hv
def electlaw_SameAskedVote.B0 (x m0 : Option Addr) (from0 term : Int) (up : Bool) (w : World)   (R : Bool → World → Prop) : Prop :=
  elect_Elect_AskedVote.Call x from0 term up w fun r17 w1 =>
  electm_Elect_AskedVote.Call m0 from0 term up w1 fun r22 w2 =>
  R (r17 == r22) w2
theorem electlaw_SameAskedVote.B0_eq (x m0 : Option Addr) (from0 term : Int) (up : Bool) (w : World)   (R : Bool → World → Prop)  :
    (
  elect_Elect_AskedVote.Call x from0 term up w fun r17 w1 =>
  electm_Elect_AskedVote.Call m0 from0 term up w1 fun r22 w2 =>
  R (r17 == r22) w2) = kstep Try.prog 26 Try.f36.results.toList (Try.f36.body.getD .skip) (electlaw_SameAskedVote.RV R) (kvc Try.prog 26 Try.f36.results.toList (Try.f36.body.getD .skip) (electlaw_SameAskedVote.RV R) [] 2000) [(0, [])] [(0, .pointer x), (1, .pointer m0), (2, .int .i64 from0), (3, .int .i64 term), (4, .bool up)] w := by kernel_rfl
theorem electlaw_SameAskedVote.B0_sound {R : Bool → World → Prop}  (x m0 : Option Addr) (from0 term : Int) (up : Bool) (w : World) (h : electlaw_SameAskedVote.B0 x m0 from0 term up w   R) :
    KW Try.prog 36 26 (electlaw_SameAskedVote.RV R) ([(0, [])].map (toItem (Try.f36.body.getD .skip))) [(0, .pointer x), (1, .pointer m0), (2, .int .i64 from0), (3, .int .i64 term), (4, .bool up)] w := by
  exact block_spec Try.func36 Try.mixed stops_nil (Eq.mp (electlaw_SameAskedVote.B0_eq x m0 from0 term up w   R ) h)
theorem electlaw_SameAskedVote.sound (x m0 : Option Addr) (from0 term : Int) (up : Bool) (w : World) (R : Bool → World → Prop) (h : electlaw_SameAskedVote.B0 x m0 from0 term up w R) : electlaw_SameAskedVote.Call x m0 from0 term up w R := by
  have hc := calls_of_block (args := #[.pointer x, .pointer m0, .int .i64 from0, .int .i64 term, .bool up]) Try.func36 (body := (Try.f36.body.getD .skip)) (by kernel_rfl) (by kernel_rfl) (args_slot _) (electlaw_SameAskedVote.B0_sound x m0 from0 term up w h)
  exact hc.mono fun e w' he => by
    obtain ⟨v, rfl, hv⟩ := he
    exact electlaw_SameAskedVote.RV_elim hv
end Go.Proofs.Qxb6500428a
