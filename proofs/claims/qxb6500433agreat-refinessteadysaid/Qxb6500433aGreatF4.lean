import Derived.Test.Qxb6500433aGreatSig
set_option maxRecDepth 100000
set_option linter.unusedVariables false
open Go.Vc
namespace Go.Proofs.Qxb6500433aGreat
def rlogm_Log_Steps.B0 (l : Option Addr) (w : World)   (R : Int → World → Prop) : Prop :=
  Pn l fun a =>
  LdL (a.add 2) w fun x6_b x6_l x6_c =>
  R ((x6_l : Nat) : Int) w
theorem rlogm_Log_Steps.B0_eq (l : Option Addr) (w : World)   (R : Int → World → Prop)  :
    (
  Pn l fun a =>
  LdL (a.add 2) w fun x6_b x6_l x6_c =>
  R ((x6_l : Nat) : Int) w) = kstep Tryz.prog 8 Tryz.f53.results.toList (Tryz.f53.body.getD .skip) (rlogm_Log_Steps.RV R) (kvc Tryz.prog 8 Tryz.f53.results.toList (Tryz.f53.body.getD .skip) (rlogm_Log_Steps.RV R) [] 2000) [(0, [])] [(0, .pointer l)] w := by kernel_rfl
theorem rlogm_Log_Steps.B0_sound {R : Int → World → Prop}  (l : Option Addr) (w : World) (h : rlogm_Log_Steps.B0 l w   R) :
    KW Tryz.prog 53 8 (rlogm_Log_Steps.RV R) ([(0, [])].map (toItem (Tryz.f53.body.getD .skip))) [(0, .pointer l)] w := by
  exact block_spec Tryz.func53 Tryz.mixed stops_nil (Eq.mp (rlogm_Log_Steps.B0_eq l w   R ) h)
theorem rlogm_Log_Steps.sound (l : Option Addr) (w : World) (R : Int → World → Prop) (h : rlogm_Log_Steps.B0 l w R) : rlogm_Log_Steps.Call l w R := by
  have hc := calls_of_block (args := #[.pointer l]) Tryz.func53 (body := (Tryz.f53.body.getD .skip)) (by kernel_rfl) (by kernel_rfl) (args_slot _) (rlogm_Log_Steps.B0_sound l w h)
  exact hc.mono fun e w' he => by
    obtain ⟨v, rfl, hv⟩ := he
    exact rlogm_Log_Steps.RV_elim hv
def rlogm_Log_After.B2 (from0 : Option Addr) (w : World)   (R : Option Addr → World → Prop) : Prop :=
  New (.cells #[.pointer none, .pointer none, .slice none 0 0] 146) w fun b34 w1 =>
  rlogm_state_clone.Call from0 w1 fun r37 w2 =>
  Sts [.pointer r37] ⟨b34, 0, none⟩ 0 w2 fun w3 =>
  rlogm_state_clone.Call from0 w3 fun r42 w4 =>
  Sts [.pointer r42] ⟨b34, 1, none⟩ 0 w4 fun w5 =>
  R (some ⟨b34, 0, none⟩) w5
theorem rlogm_Log_After.B2_eq (from0 : Option Addr) (w : World)   (R : Option Addr → World → Prop)  :
    (
  New (.cells #[.pointer none, .pointer none, .slice none 0 0] 146) w fun b34 w1 =>
  rlogm_state_clone.Call from0 w1 fun r37 w2 =>
  Sts [.pointer r37] ⟨b34, 0, none⟩ 0 w2 fun w3 =>
  rlogm_state_clone.Call from0 w3 fun r42 w4 =>
  Sts [.pointer r42] ⟨b34, 1, none⟩ 0 w4 fun w5 =>
  R (some ⟨b34, 0, none⟩) w5) = kstep Tryz.prog 46 Tryz.f54.results.toList (Tryz.f54.body.getD .skip) (rlogm_Log_After.RV R) (kvc Tryz.prog 46 Tryz.f54.results.toList (Tryz.f54.body.getD .skip) (rlogm_Log_After.RV R) [] 2000) [(0, [1, 1, 1, 1])] [(5, .pointer from0)] w := by kernel_rfl
theorem rlogm_Log_After.B2_sound {R : Option Addr → World → Prop}  (from0 : Option Addr) (w : World) (h : rlogm_Log_After.B2 from0 w   R) :
    KW Tryz.prog 54 46 (rlogm_Log_After.RV R) ([(0, [1, 1, 1, 1])].map (toItem (Tryz.f54.body.getD .skip))) [(5, .pointer from0)] w := by
  exact block_spec Tryz.func54 Tryz.mixed stops_nil (Eq.mp (rlogm_Log_After.B2_eq from0 w   R ) h)
def rlogm_Log_After.B1 (l : Option Addr) (k : Int) (from0 : Option Addr) (w : World)   (R : Option Addr → World → Prop) : Prop :=
  Bm (decide (k > (0 : Int))) (
    Pn l fun a =>
    LdL (a.add 2) w fun x28_b x28_l x28_c =>
    Pn x28_b fun a_1 =>
    (0 ≤ (IntKind.i64.wrap (k - (1 : Int))) ∧ (IntKind.i64.wrap (k - (1 : Int))) < ((x28_l : Nat) : Int)) ∧
    LdP (Addr.add a_1 ((IntKind.i64.wrap (k - (1 : Int))).toNat * 1)) w fun x32 =>
    rlogm_Log_After.B2 x32 w  R) (
    rlogm_Log_After.B2 from0 w  R)
theorem rlogm_Log_After.B1_eq (l : Option Addr) (k : Int) (from0 : Option Addr) (w : World)   (R : Option Addr → World → Prop) (sB2 : Option Addr → World → Prop) :
    (
  Bm (decide (k > (0 : Int))) (
    Pn l fun a =>
    LdL (a.add 2) w fun x28_b x28_l x28_c =>
    Pn x28_b fun a_1 =>
    (0 ≤ (IntKind.i64.wrap (k - (1 : Int))) ∧ (IntKind.i64.wrap (k - (1 : Int))) < ((x28_l : Nat) : Int)) ∧
    LdP (Addr.add a_1 ((IntKind.i64.wrap (k - (1 : Int))).toNat * 1)) w fun x32 =>
    sB2 x32 w) (
    sB2 from0 w)) = kstep Tryz.prog 46 Tryz.f54.results.toList (Tryz.f54.body.getD .skip) (rlogm_Log_After.RV R) (kvc Tryz.prog 46 Tryz.f54.results.toList (Tryz.f54.body.getD .skip) (rlogm_Log_After.RV R) [([(0, [1, 1, 1, 1])], fun σ w => dP (slotOf σ 5) fun from0_ => sB2 from0_ w)] 2000) [(0, [1, 1, 1])] [(0, .pointer l), (1, .int .i64 k), (5, .pointer from0)] w := by kernel_rfl
theorem rlogm_Log_After.B1_sound {R : Option Addr → World → Prop}  (l : Option Addr) (k : Int) (from0 : Option Addr) (w : World) (h : rlogm_Log_After.B1 l k from0 w   R) :
    KW Tryz.prog 54 46 (rlogm_Log_After.RV R) ([(0, [1, 1, 1])].map (toItem (Tryz.f54.body.getD .skip))) [(0, .pointer l), (1, .int .i64 k), (5, .pointer from0)] w := by
  exact block_spec Tryz.func54 Tryz.mixed (stops_cons (fun σ w h => by
      obtain ⟨from0_, e0, h⟩ := dP_elim h
      exact (rlogm_Log_After.B2_sound  from0_ w h).weaken (Sub.cons (Sub.nil _) e0)) stops_nil) (Eq.mp (rlogm_Log_After.B1_eq l k from0 w   R (fun from0_ w => rlogm_Log_After.B2 from0_ w  R)) h)
def rlogm_Log_After.B0 (l : Option Addr) (k : Int) (w : World)   (R : Option Addr → World → Prop) : Prop :=
  Pn l fun a =>
  LdP (a.add 1) w fun x10 =>
  Pn l fun a_1 =>
  LdL (a_1.add 2) w fun x15_b x15_l x15_c =>
  Bm (decide (k > ((x15_l : Nat) : Int))) (
    Pn l fun a_2 =>
    LdL (a_2.add 2) w fun x21_b x21_l x21_c =>
    rlogm_Log_After.B1 l ((x21_l : Nat) : Int) x10 w  R) (
    rlogm_Log_After.B1 l k x10 w  R)
theorem rlogm_Log_After.B0_eq (l : Option Addr) (k : Int) (w : World)   (R : Option Addr → World → Prop) (sB1 : Option Addr → Int → Option Addr → World → Prop) :
    (
  Pn l fun a =>
  LdP (a.add 1) w fun x10 =>
  Pn l fun a_1 =>
  LdL (a_1.add 2) w fun x15_b x15_l x15_c =>
  Bm (decide (k > ((x15_l : Nat) : Int))) (
    Pn l fun a_2 =>
    LdL (a_2.add 2) w fun x21_b x21_l x21_c =>
    sB1 l ((x21_l : Nat) : Int) x10 w) (
    sB1 l k x10 w)) = kstep Tryz.prog 46 Tryz.f54.results.toList (Tryz.f54.body.getD .skip) (rlogm_Log_After.RV R) (kvc Tryz.prog 46 Tryz.f54.results.toList (Tryz.f54.body.getD .skip) (rlogm_Log_After.RV R) [([(0, [1, 1, 1])], fun σ w => dP (slotOf σ 0) fun l_ => dI .i64 (slotOf σ 1) fun k_ => dP (slotOf σ 5) fun from0_ => sB1 l_ k_ from0_ w)] 2000) [(0, [])] [(0, .pointer l), (1, .int .i64 k)] w := by kernel_rfl
theorem rlogm_Log_After.B0_sound {R : Option Addr → World → Prop}  (l : Option Addr) (k : Int) (w : World) (h : rlogm_Log_After.B0 l k w   R) :
    KW Tryz.prog 54 46 (rlogm_Log_After.RV R) ([(0, [])].map (toItem (Tryz.f54.body.getD .skip))) [(0, .pointer l), (1, .int .i64 k)] w := by
  exact block_spec Tryz.func54 Tryz.mixed (stops_cons (fun σ w h => by
      obtain ⟨l_, e0, h⟩ := dP_elim h
      obtain ⟨k_, e1, h⟩ := dI_elim h
      obtain ⟨from0_, e2, h⟩ := dP_elim h
      exact (rlogm_Log_After.B1_sound  l_ k_ from0_ w h).weaken (Sub.cons (Sub.cons (Sub.cons (Sub.nil _) e2) e1) e0)) stops_nil) (Eq.mp (rlogm_Log_After.B0_eq l k w   R (fun l_ k_ from0_ w => rlogm_Log_After.B1 l_ k_ from0_ w  R)) h)
theorem rlogm_Log_After.sound (l : Option Addr) (k : Int) (w : World) (R : Option Addr → World → Prop) (h : rlogm_Log_After.B0 l k w R) : rlogm_Log_After.Call l k w R := by
  have hc := calls_of_block (args := #[.pointer l, .int .i64 k]) Tryz.func54 (body := (Tryz.f54.body.getD .skip)) (by kernel_rfl) (by kernel_rfl) (args_slot _) (rlogm_Log_After.B0_sound l k w h)
  exact hc.mono fun e w' he => by
    obtain ⟨v, rfl, hv⟩ := he
    exact rlogm_Log_After.RV_elim hv
def electm_Elect_Id.B0 (e : Option Addr) (w : World)   (R : Int → World → Prop) : Prop :=
  Pn e fun a =>
  LdI .i64 a w fun x6 =>
  R x6 w
theorem electm_Elect_Id.B0_eq (e : Option Addr) (w : World)   (R : Int → World → Prop)  :
    (
  Pn e fun a =>
  LdI .i64 a w fun x6 =>
  R x6 w) = kstep Tryz.prog 7 Tryz.f55.results.toList (Tryz.f55.body.getD .skip) (electm_Elect_Id.RV R) (kvc Tryz.prog 7 Tryz.f55.results.toList (Tryz.f55.body.getD .skip) (electm_Elect_Id.RV R) [] 2000) [(0, [])] [(0, .pointer e)] w := by kernel_rfl
theorem electm_Elect_Id.B0_sound {R : Int → World → Prop}  (e : Option Addr) (w : World) (h : electm_Elect_Id.B0 e w   R) :
    KW Tryz.prog 55 7 (electm_Elect_Id.RV R) ([(0, [])].map (toItem (Tryz.f55.body.getD .skip))) [(0, .pointer e)] w := by
  exact block_spec Tryz.func55 Tryz.mixed stops_nil (Eq.mp (electm_Elect_Id.B0_eq e w   R ) h)
theorem electm_Elect_Id.sound (e : Option Addr) (w : World) (R : Int → World → Prop) (h : electm_Elect_Id.B0 e w R) : electm_Elect_Id.Call e w R := by
  have hc := calls_of_block (args := #[.pointer e]) Tryz.func55 (body := (Tryz.f55.body.getD .skip)) (by kernel_rfl) (by kernel_rfl) (args_slot _) (electm_Elect_Id.B0_sound e w h)
  exact hc.mono fun e w' he => by
    obtain ⟨v, rfl, hv⟩ := he
    exact electm_Elect_Id.RV_elim hv
def synclaw_SameView.B0 (x m0 : Option Addr) (w : World)   (R : Bool → World → Prop) : Prop :=
  sync_Sync_View.Call x w fun r8 w1 =>
  syncm_Sync_View.Call m0 w1 fun r10 w2 =>
  synclaw_SameViews.Call r8 r10 w2 fun r13 w3 =>
  R r13 w3
theorem synclaw_SameView.B0_eq (x m0 : Option Addr) (w : World)   (R : Bool → World → Prop)  :
    (
  sync_Sync_View.Call x w fun r8 w1 =>
  syncm_Sync_View.Call m0 w1 fun r10 w2 =>
  synclaw_SameViews.Call r8 r10 w2 fun r13 w3 =>
  R r13 w3) = kstep Tryz.prog 14 Tryz.f56.results.toList (Tryz.f56.body.getD .skip) (synclaw_SameView.RV R) (kvc Tryz.prog 14 Tryz.f56.results.toList (Tryz.f56.body.getD .skip) (synclaw_SameView.RV R) [] 2000) [(0, [])] [(0, .pointer x), (1, .pointer m0)] w := by kernel_rfl
theorem synclaw_SameView.B0_sound {R : Bool → World → Prop}  (x m0 : Option Addr) (w : World) (h : synclaw_SameView.B0 x m0 w   R) :
    KW Tryz.prog 56 14 (synclaw_SameView.RV R) ([(0, [])].map (toItem (Tryz.f56.body.getD .skip))) [(0, .pointer x), (1, .pointer m0)] w := by
  exact block_spec Tryz.func56 Tryz.mixed stops_nil (Eq.mp (synclaw_SameView.B0_eq x m0 w   R ) h)
theorem synclaw_SameView.sound (x m0 : Option Addr) (w : World) (R : Bool → World → Prop) (h : synclaw_SameView.B0 x m0 w R) : synclaw_SameView.Call x m0 w R := by
  have hc := calls_of_block (args := #[.pointer x, .pointer m0]) Tryz.func56 (body := (Tryz.f56.body.getD .skip)) (by kernel_rfl) (by kernel_rfl) (args_slot _) (synclaw_SameView.B0_sound x m0 w h)
  exact hc.mono fun e w' he => by
    obtain ⟨v, rfl, hv⟩ := he
    exact synclaw_SameView.RV_elim hv
def syncm_Sync_View.L1b (s : Option Addr) (v : Nat) (p : Int) (w : World)  (N1 : Option Addr → Nat → Int → World → Prop) (R : Option Addr → World → Prop) : Prop :=
  Bm (decide (p < (3 : Int))) (
    Pn s fun a =>
    LdP (a.add 1) w.drew fun x64 =>
    electm_Elect_Got.Call x64 p w.drew fun r66 w1 =>
    (0 ≤ p ∧ p < ((3 : Nat) : Int)) ∧
    Sts [.bool r66] (Addr.add ⟨v, 6, none⟩ (p.toNat * 1)) 0 w1 fun w2 =>
    N1 s v (IntKind.i64.wrap (p + (1 : Int))) w2) (
    Pn s fun a_1 =>
    LdI .i64 (a_1.add 2) w fun x74 =>
    Sts [.int .i64 x74] ⟨v, 9, none⟩ 0 w fun w3 =>
    Pn s fun a_2 =>
    LdP a_2 w3 fun x81 =>
    rlogm_Log_Base.Call x81 w3 fun r82 w4 =>
    Sts [.int .i64 r82] ⟨v, 10, none⟩ 0 w4 fun w5 =>
    Pn s fun a_3 =>
    LdP a_3 w5 fun x89 =>
    rlogm_Log_BaseTerm.Call x89 w5 fun r90 w6 =>
    Sts [.int .i64 r90] ⟨v, 11, none⟩ 0 w6 fun w7 =>
    Pn s fun a_4 =>
    LdP a_4 w7 fun x97 =>
    rlogm_Log_Last.Call x97 w7 fun r98 w8 =>
    Sts [.int .i64 r98] ⟨v, 12, none⟩ 0 w8 fun w9 =>
    Pn s fun a_5 =>
    LdP a_5 w9 fun x105 =>
    rlogm_Log_Snap.Call x105 w9 fun r106 w10 =>
    Sts [.string r106] ⟨v, 13, none⟩ 0 w10 fun w11 =>
    Pn s fun a_6 =>
    LdI .i64 (a_6.add 3) w11.drew fun x114_0 =>
    LdI .i64 ((a_6.add 3).add 1) w11.drew fun x114_1 =>
    LdI .i64 ((a_6.add 3).add 2) w11.drew fun x114_2 =>
    Pn s fun a_7 =>
    LdI .i64 (a_7.add 6) w11.drew fun x118_0 =>
    LdI .i64 ((a_7.add 6).add 1) w11.drew fun x118_1 =>
    LdI .i64 ((a_7.add 6).add 2) w11.drew fun x118_2 =>
    Sts [.int .i64 x114_0, .int .i64 x114_1, .int .i64 x114_2] ⟨v, 14, none⟩ 0 w11.drew fun w12 =>
    Sts [.int .i64 x118_0, .int .i64 x118_1, .int .i64 x118_2] ⟨v, 17, none⟩ 0 w12 fun w13 =>
    R (some ⟨v, 0, none⟩) w13)
theorem syncm_Sync_View.L1b_eq (s : Option Addr) (v : Nat) (p : Int) (w : World)  (N1 : Option Addr → Nat → Int → World → Prop) (R : Option Addr → World → Prop)  :
    (
  Bm (decide (p < (3 : Int))) (
    Pn s fun a =>
    LdP (a.add 1) w.drew fun x64 =>
    electm_Elect_Got.Call x64 p w.drew fun r66 w1 =>
    (0 ≤ p ∧ p < ((3 : Nat) : Int)) ∧
    Sts [.bool r66] (Addr.add ⟨v, 6, none⟩ (p.toNat * 1)) 0 w1 fun w2 =>
    N1 s v (IntKind.i64.wrap (p + (1 : Int))) w2) (
    Pn s fun a_1 =>
    LdI .i64 (a_1.add 2) w fun x74 =>
    Sts [.int .i64 x74] ⟨v, 9, none⟩ 0 w fun w3 =>
    Pn s fun a_2 =>
    LdP a_2 w3 fun x81 =>
    rlogm_Log_Base.Call x81 w3 fun r82 w4 =>
    Sts [.int .i64 r82] ⟨v, 10, none⟩ 0 w4 fun w5 =>
    Pn s fun a_3 =>
    LdP a_3 w5 fun x89 =>
    rlogm_Log_BaseTerm.Call x89 w5 fun r90 w6 =>
    Sts [.int .i64 r90] ⟨v, 11, none⟩ 0 w6 fun w7 =>
    Pn s fun a_4 =>
    LdP a_4 w7 fun x97 =>
    rlogm_Log_Last.Call x97 w7 fun r98 w8 =>
    Sts [.int .i64 r98] ⟨v, 12, none⟩ 0 w8 fun w9 =>
    Pn s fun a_5 =>
    LdP a_5 w9 fun x105 =>
    rlogm_Log_Snap.Call x105 w9 fun r106 w10 =>
    Sts [.string r106] ⟨v, 13, none⟩ 0 w10 fun w11 =>
    Pn s fun a_6 =>
    LdI .i64 (a_6.add 3) w11.drew fun x114_0 =>
    LdI .i64 ((a_6.add 3).add 1) w11.drew fun x114_1 =>
    LdI .i64 ((a_6.add 3).add 2) w11.drew fun x114_2 =>
    Pn s fun a_7 =>
    LdI .i64 (a_7.add 6) w11.drew fun x118_0 =>
    LdI .i64 ((a_7.add 6).add 1) w11.drew fun x118_1 =>
    LdI .i64 ((a_7.add 6).add 2) w11.drew fun x118_2 =>
    Sts [.int .i64 x114_0, .int .i64 x114_1, .int .i64 x114_2] ⟨v, 14, none⟩ 0 w11.drew fun w12 =>
    Sts [.int .i64 x118_0, .int .i64 x118_1, .int .i64 x118_2] ⟨v, 17, none⟩ 0 w12 fun w13 =>
    R (some ⟨v, 0, none⟩) w13)) = kstep Tryz.prog 124 Tryz.f57.results.toList (Tryz.f57.body.getD .skip) (syncm_Sync_View.RV R) (kvc Tryz.prog 124 Tryz.f57.results.toList (Tryz.f57.body.getD .skip) (syncm_Sync_View.RV R) [([(0, [1, 1, 1, 1, 1, 1, 1, 1, 0, 1, 0, 0]), (2, [1, 1, 1, 1, 1, 1, 1, 1, 0, 1, 0, 0]), (1, [0]), (0, [1, 1, 1, 1, 1, 1, 1, 1, 1])], fun σ w => dP (slotOf σ 0) fun s_ => dK (slotOf σ 3) fun v_ => dI .i64 (slotOf σ 4) fun p_ => N1 s_ v_ p_ w)] 2000) [(0, [1, 1, 1, 1, 1, 1, 1, 1, 0, 1, 0, 0]), (2, [1, 1, 1, 1, 1, 1, 1, 1, 0, 1, 0, 0]), (1, [0]), (0, [1, 1, 1, 1, 1, 1, 1, 1, 1])] [(0, .pointer s), (3, .pointer (some ⟨v, 0, none⟩)), (4, .int .i64 p)] w := by kernel_rfl
theorem syncm_Sync_View.L1b_sound {R : Option Addr → World → Prop} {N1 : Option Addr → Nat → Int → World → Prop} (hN1 : ∀ s v p w, N1 s v p w → KW Tryz.prog 57 124 (syncm_Sync_View.RV R) ([(0, [1, 1, 1, 1, 1, 1, 1, 1, 0, 1, 0, 0]), (2, [1, 1, 1, 1, 1, 1, 1, 1, 0, 1, 0, 0]), (1, [0]), (0, [1, 1, 1, 1, 1, 1, 1, 1, 1])].map (toItem (Tryz.f57.body.getD .skip))) [(0, .pointer s), (3, .pointer (some ⟨v, 0, none⟩)), (4, .int .i64 p)] w) (s : Option Addr) (v : Nat) (p : Int) (w : World) (h : syncm_Sync_View.L1b s v p w  N1 R) :
    KW Tryz.prog 57 124 (syncm_Sync_View.RV R) ([(0, [1, 1, 1, 1, 1, 1, 1, 1, 0, 1, 0, 0]), (2, [1, 1, 1, 1, 1, 1, 1, 1, 0, 1, 0, 0]), (1, [0]), (0, [1, 1, 1, 1, 1, 1, 1, 1, 1])].map (toItem (Tryz.f57.body.getD .skip))) [(0, .pointer s), (3, .pointer (some ⟨v, 0, none⟩)), (4, .int .i64 p)] w := by
  exact block_spec Tryz.func57 Tryz.mixed (stops_cons (fun σ w h => by
      obtain ⟨s_, e0, h⟩ := dP_elim h
      obtain ⟨v_, e1, h⟩ := dK_elim h
      obtain ⟨p_, e2, h⟩ := dI_elim h
      exact (hN1 s_ v_ p_ w h).weaken (Sub.cons (Sub.cons (Sub.cons (Sub.nil _) e2) e1) e0)) stops_nil) (Eq.mp (syncm_Sync_View.L1b_eq s v p w  N1 R ) h)
def syncm_Sync_View.L1 (s : Option Addr) (v : Nat) (p : Int) (w : World)  (R : Option Addr → World → Prop) : Prop :=
  ∃ (I : Nat → Option Addr → Nat → Int → World → Prop) (m : Nat), I m s v p w ∧ ∀ m s v p w, I m s v p w → syncm_Sync_View.L1b s v p w  (fun s' v' p' w' => ∃ m', m' < m ∧ I m' s' v' p' w') R
theorem syncm_Sync_View.L1_sound {R : Option Addr → World → Prop}  (s : Option Addr) (v : Nat) (p : Int) (w : World) (h : syncm_Sync_View.L1 s v p w  R) :
    KW Tryz.prog 57 124 (syncm_Sync_View.RV R) ([(0, [1, 1, 1, 1, 1, 1, 1, 1, 0, 1, 0, 0]), (2, [1, 1, 1, 1, 1, 1, 1, 1, 0, 1, 0, 0]), (1, [0]), (0, [1, 1, 1, 1, 1, 1, 1, 1, 1])].map (toItem (Tryz.f57.body.getD .skip))) [(0, .pointer s), (3, .pointer (some ⟨v, 0, none⟩)), (4, .int .i64 p)] w := by
  obtain ⟨I, m, hBase, hr⟩ := h
  refine KW.loop (fun m σ w => ∃ (s : Option Addr) (v : Nat) (p : Int), σ = [(0, .pointer s), (3, .pointer (some ⟨v, 0, none⟩)), (4, .int .i64 p)] ∧ I m s v p w) ?_ m _ w ⟨s, v, p, rfl, hBase⟩
  rintro m ih σ w ⟨s, v, p, rfl, hI⟩
  exact syncm_Sync_View.L1b_sound  (N1 := fun s' v' p' w' => ∃ m', m' < m ∧ I m' s' v' p' w') (fun s' v' p' w' hx => by obtain ⟨m', hlt, hI'⟩ := hx; exact ih m' hlt _ w' ⟨s', v', p', rfl, hI'⟩) s v p w (hr m s v p w hI)
def syncm_Sync_View.B0 (s : Option Addr) (w : World)   (R : Option Addr → World → Prop) : Prop :=
  New (.cells #[.int .i64 (0 : Int), .int .i64 (0 : Int), .int .i64 (0 : Int), .int .i64 (0 : Int), .int .i64 (0 : Int), .int .i64 (0 : Int), .bool false, .bool false, .bool false, .int .i64 (0 : Int), .int .i64 (0 : Int), .int .i64 (0 : Int), .int .i64 (0 : Int), .string (ByteArray.mk #[]), .int .i64 (0 : Int), .int .i64 (0 : Int), .int .i64 (0 : Int), .int .i64 (0 : Int), .int .i64 (0 : Int), .int .i64 (0 : Int)] 95) w fun b6 w1 =>
  Pn s fun a =>
  LdP (a.add 1) w1 fun x11 =>
  electm_Elect_Id.Call x11 w1 fun r12 w2 =>
  Sts [.int .i64 r12] ⟨b6, 0, none⟩ 0 w2 fun w3 =>
  Pn s fun a_1 =>
  LdP (a_1.add 1) w3 fun x19 =>
  electm_Elect_Term.Call x19 w3 fun r20 w4 =>
  Sts [.int .i64 r20] ⟨b6, 1, none⟩ 0 w4 fun w5 =>
  Pn s fun a_2 =>
  LdP (a_2.add 1) w5 fun x27 =>
  electm_Elect_Vote.Call x27 w5 fun r28 w6 =>
  Sts [.int .i64 r28] ⟨b6, 2, none⟩ 0 w6 fun w7 =>
  Pn s fun a_3 =>
  LdP (a_3.add 1) w7 fun x35 =>
  electm_Elect_Role.Call x35 w7 fun r36 w8 =>
  Sts [.int .i64 r36] ⟨b6, 3, none⟩ 0 w8 fun w9 =>
  Pn s fun a_4 =>
  LdP (a_4.add 1) w9 fun x43 =>
  electm_Elect_Leader.Call x43 w9 fun r44 w10 =>
  Sts [.int .i64 r44] ⟨b6, 4, none⟩ 0 w10 fun w11 =>
  Pn s fun a_5 =>
  LdP (a_5.add 1) w11 fun x51 =>
  electm_Elect_Clock.Call x51 w11 fun r52 w12 =>
  Sts [.int .i64 r52] ⟨b6, 5, none⟩ 0 w12 fun w13 =>
  syncm_Sync_View.L1 s b6 (0 : Int) w13  R
theorem syncm_Sync_View.B0_eq (s : Option Addr) (w : World)   (R : Option Addr → World → Prop) (sL1 : Option Addr → Nat → Int → World → Prop) :
    (
  New (.cells #[.int .i64 (0 : Int), .int .i64 (0 : Int), .int .i64 (0 : Int), .int .i64 (0 : Int), .int .i64 (0 : Int), .int .i64 (0 : Int), .bool false, .bool false, .bool false, .int .i64 (0 : Int), .int .i64 (0 : Int), .int .i64 (0 : Int), .int .i64 (0 : Int), .string (ByteArray.mk #[]), .int .i64 (0 : Int), .int .i64 (0 : Int), .int .i64 (0 : Int), .int .i64 (0 : Int), .int .i64 (0 : Int), .int .i64 (0 : Int)] 95) w fun b6 w1 =>
  Pn s fun a =>
  LdP (a.add 1) w1 fun x11 =>
  electm_Elect_Id.Call x11 w1 fun r12 w2 =>
  Sts [.int .i64 r12] ⟨b6, 0, none⟩ 0 w2 fun w3 =>
  Pn s fun a_1 =>
  LdP (a_1.add 1) w3 fun x19 =>
  electm_Elect_Term.Call x19 w3 fun r20 w4 =>
  Sts [.int .i64 r20] ⟨b6, 1, none⟩ 0 w4 fun w5 =>
  Pn s fun a_2 =>
  LdP (a_2.add 1) w5 fun x27 =>
  electm_Elect_Vote.Call x27 w5 fun r28 w6 =>
  Sts [.int .i64 r28] ⟨b6, 2, none⟩ 0 w6 fun w7 =>
  Pn s fun a_3 =>
  LdP (a_3.add 1) w7 fun x35 =>
  electm_Elect_Role.Call x35 w7 fun r36 w8 =>
  Sts [.int .i64 r36] ⟨b6, 3, none⟩ 0 w8 fun w9 =>
  Pn s fun a_4 =>
  LdP (a_4.add 1) w9 fun x43 =>
  electm_Elect_Leader.Call x43 w9 fun r44 w10 =>
  Sts [.int .i64 r44] ⟨b6, 4, none⟩ 0 w10 fun w11 =>
  Pn s fun a_5 =>
  LdP (a_5.add 1) w11 fun x51 =>
  electm_Elect_Clock.Call x51 w11 fun r52 w12 =>
  Sts [.int .i64 r52] ⟨b6, 5, none⟩ 0 w12 fun w13 =>
  sL1 s b6 (0 : Int) w13) = kstep Tryz.prog 124 Tryz.f57.results.toList (Tryz.f57.body.getD .skip) (syncm_Sync_View.RV R) (kvc Tryz.prog 124 Tryz.f57.results.toList (Tryz.f57.body.getD .skip) (syncm_Sync_View.RV R) [([(0, [1, 1, 1, 1, 1, 1, 1, 1, 0, 1, 0, 0]), (2, [1, 1, 1, 1, 1, 1, 1, 1, 0, 1, 0, 0]), (1, [0]), (0, [1, 1, 1, 1, 1, 1, 1, 1, 1])], fun σ w => dP (slotOf σ 0) fun s_ => dK (slotOf σ 3) fun v_ => dI .i64 (slotOf σ 4) fun p_ => sL1 s_ v_ p_ w)] 2000) [(0, [])] [(0, .pointer s)] w := by kernel_rfl
theorem syncm_Sync_View.B0_sound {R : Option Addr → World → Prop}  (s : Option Addr) (w : World) (h : syncm_Sync_View.B0 s w   R) :
    KW Tryz.prog 57 124 (syncm_Sync_View.RV R) ([(0, [])].map (toItem (Tryz.f57.body.getD .skip))) [(0, .pointer s)] w := by
  exact block_spec Tryz.func57 Tryz.mixed (stops_cons (fun σ w h => by
      obtain ⟨s_, e0, h⟩ := dP_elim h
      obtain ⟨v_, e1, h⟩ := dK_elim h
      obtain ⟨p_, e2, h⟩ := dI_elim h
      exact (syncm_Sync_View.L1_sound  s_ v_ p_ w h).weaken (Sub.cons (Sub.cons (Sub.cons (Sub.nil _) e2) e1) e0)) stops_nil) (Eq.mp (syncm_Sync_View.B0_eq s w   R (fun s_ v_ p_ w => syncm_Sync_View.L1 s_ v_ p_ w  R)) h)
theorem syncm_Sync_View.sound (s : Option Addr) (w : World) (R : Option Addr → World → Prop) (h : syncm_Sync_View.B0 s w R) : syncm_Sync_View.Call s w R := by
  have hc := calls_of_block (args := #[.pointer s]) Tryz.func57 (body := (Tryz.f57.body.getD .skip)) (by kernel_rfl) (by kernel_rfl) (args_slot _) (syncm_Sync_View.B0_sound s w h)
  exact hc.mono fun e w' he => by
    obtain ⟨v, rfl, hv⟩ := he
    exact syncm_Sync_View.RV_elim hv
def synclaw_SameAt.B0 (x m0 : Option Addr) (i : Int) (w : World)   (R : Bool → World → Prop) : Prop :=
  sync_Sync_At.Call x i w fun r14_0_0 r14_0_1 r14_1 w1 =>
  New (.cells #[.int .i64 (0 : Int), .string (ByteArray.mk #[])] 103) w1 fun a_ w2 =>
  Sts [.int .i64 r14_0_0, .string r14_0_1] ⟨a_, 0, none⟩ 0 w2 fun w3 =>
  syncm_Sync_At.Call m0 i w3 fun r20_0_0 r20_0_1 r20_1 w4 =>
  New (.cells #[.int .i64 (0 : Int), .string (ByteArray.mk #[])] 103) w4 fun b_ w5 =>
  Sts [.int .i64 r20_0_0, .string r20_0_1] ⟨b_, 0, none⟩ 0 w5 fun w6 =>
  Bm (r14_1 == r20_1) (
    LdI .i64 ⟨a_, 0, none⟩ w6 fun x27_0 =>
    LdS ⟨a_, 1, none⟩ w6 fun x27_1 =>
    LdI .i64 ⟨b_, 0, none⟩ w6 fun x28_0 =>
    LdS ⟨b_, 1, none⟩ w6 fun x28_1 =>
    synclaw_SameEntry.Call x27_0 x27_1 x28_0 x28_1 w6 fun r29 w7 =>
    R r29 w7) (
    R false w6)
theorem synclaw_SameAt.B0_eq (x m0 : Option Addr) (i : Int) (w : World)   (R : Bool → World → Prop)  :
    (
  sync_Sync_At.Call x i w fun r14_0_0 r14_0_1 r14_1 w1 =>
  New (.cells #[.int .i64 (0 : Int), .string (ByteArray.mk #[])] 103) w1 fun a_ w2 =>
  Sts [.int .i64 r14_0_0, .string r14_0_1] ⟨a_, 0, none⟩ 0 w2 fun w3 =>
  syncm_Sync_At.Call m0 i w3 fun r20_0_0 r20_0_1 r20_1 w4 =>
  New (.cells #[.int .i64 (0 : Int), .string (ByteArray.mk #[])] 103) w4 fun b_ w5 =>
  Sts [.int .i64 r20_0_0, .string r20_0_1] ⟨b_, 0, none⟩ 0 w5 fun w6 =>
  Bm (r14_1 == r20_1) (
    LdI .i64 ⟨a_, 0, none⟩ w6 fun x27_0 =>
    LdS ⟨a_, 1, none⟩ w6 fun x27_1 =>
    LdI .i64 ⟨b_, 0, none⟩ w6 fun x28_0 =>
    LdS ⟨b_, 1, none⟩ w6 fun x28_1 =>
    synclaw_SameEntry.Call x27_0 x27_1 x28_0 x28_1 w6 fun r29 w7 =>
    R r29 w7) (
    R false w6)) = kstep Tryz.prog 31 Tryz.f58.results.toList (Tryz.f58.body.getD .skip) (synclaw_SameAt.RV R) (kvc Tryz.prog 31 Tryz.f58.results.toList (Tryz.f58.body.getD .skip) (synclaw_SameAt.RV R) [] 2000) [(0, [])] [(0, .pointer x), (1, .pointer m0), (2, .int .i64 i)] w := by kernel_rfl
theorem synclaw_SameAt.B0_sound {R : Bool → World → Prop}  (x m0 : Option Addr) (i : Int) (w : World) (h : synclaw_SameAt.B0 x m0 i w   R) :
    KW Tryz.prog 58 31 (synclaw_SameAt.RV R) ([(0, [])].map (toItem (Tryz.f58.body.getD .skip))) [(0, .pointer x), (1, .pointer m0), (2, .int .i64 i)] w := by
  exact block_spec Tryz.func58 Tryz.mixed stops_nil (Eq.mp (synclaw_SameAt.B0_eq x m0 i w   R ) h)
theorem synclaw_SameAt.sound (x m0 : Option Addr) (i : Int) (w : World) (R : Bool → World → Prop) (h : synclaw_SameAt.B0 x m0 i w R) : synclaw_SameAt.Call x m0 i w R := by
  have hc := calls_of_block (args := #[.pointer x, .pointer m0, .int .i64 i]) Tryz.func58 (body := (Tryz.f58.body.getD .skip)) (by kernel_rfl) (by kernel_rfl) (args_slot _) (synclaw_SameAt.B0_sound x m0 i w h)
  exact hc.mono fun e w' he => by
    obtain ⟨v, rfl, hv⟩ := he
    exact synclaw_SameAt.RV_elim hv
def synclaw_SameTermAt.B0 (x m0 : Option Addr) (i : Int) (w : World)   (R : Bool → World → Prop) : Prop :=
  sync_Sync_TermAt.Call x i w fun r14_0 r14_1 w1 =>
  syncm_Sync_TermAt.Call m0 i w1 fun r20_0 r20_1 w2 =>
  Bm (r14_1 == r20_1) (
    R (r14_0 == r20_0) w2) (
    R false w2)
theorem synclaw_SameTermAt.B0_eq (x m0 : Option Addr) (i : Int) (w : World)   (R : Bool → World → Prop)  :
    (
  sync_Sync_TermAt.Call x i w fun r14_0 r14_1 w1 =>
  syncm_Sync_TermAt.Call m0 i w1 fun r20_0 r20_1 w2 =>
  Bm (r14_1 == r20_1) (
    R (r14_0 == r20_0) w2) (
    R false w2)) = kstep Tryz.prog 31 Tryz.f59.results.toList (Tryz.f59.body.getD .skip) (synclaw_SameTermAt.RV R) (kvc Tryz.prog 31 Tryz.f59.results.toList (Tryz.f59.body.getD .skip) (synclaw_SameTermAt.RV R) [] 2000) [(0, [])] [(0, .pointer x), (1, .pointer m0), (2, .int .i64 i)] w := by kernel_rfl
theorem synclaw_SameTermAt.B0_sound {R : Bool → World → Prop}  (x m0 : Option Addr) (i : Int) (w : World) (h : synclaw_SameTermAt.B0 x m0 i w   R) :
    KW Tryz.prog 59 31 (synclaw_SameTermAt.RV R) ([(0, [])].map (toItem (Tryz.f59.body.getD .skip))) [(0, .pointer x), (1, .pointer m0), (2, .int .i64 i)] w := by
  exact block_spec Tryz.func59 Tryz.mixed stops_nil (Eq.mp (synclaw_SameTermAt.B0_eq x m0 i w   R ) h)
theorem synclaw_SameTermAt.sound (x m0 : Option Addr) (i : Int) (w : World) (R : Bool → World → Prop) (h : synclaw_SameTermAt.B0 x m0 i w R) : synclaw_SameTermAt.Call x m0 i w R := by
  have hc := calls_of_block (args := #[.pointer x, .pointer m0, .int .i64 i]) Tryz.func59 (body := (Tryz.f59.body.getD .skip)) (by kernel_rfl) (by kernel_rfl) (args_slot _) (synclaw_SameTermAt.B0_sound x m0 i w h)
  exact hc.mono fun e w' he => by
    obtain ⟨v, rfl, hv⟩ := he
    exact synclaw_SameTermAt.RV_elim hv
def rlogm_Log_Mark.B0 (l : Option Addr) (w : World)   (R : World → Prop) : Prop :=
  Pn l fun a =>
  LdP a w fun x6 =>
  rlogm_state_clone.Call x6 w fun r7 w1 =>
  Pn l fun a_1 =>
  Sts [.pointer r7] (a_1.add 1) 0 w1 fun w2 =>
  Pn l fun a_2 =>
  Sts [.slice none 0 0] (a_2.add 2) 0 w2 fun w3 =>
  R  w3
theorem rlogm_Log_Mark.B0_eq (l : Option Addr) (w : World)   (R : World → Prop)  :
    (
  Pn l fun a =>
  LdP a w fun x6 =>
  rlogm_state_clone.Call x6 w fun r7 w1 =>
  Pn l fun a_1 =>
  Sts [.pointer r7] (a_1.add 1) 0 w1 fun w2 =>
  Pn l fun a_2 =>
  Sts [.slice none 0 0] (a_2.add 2) 0 w2 fun w3 =>
  R  w3) = kstep Tryz.prog 13 Tryz.f60.results.toList (Tryz.f60.body.getD .skip) (rlogm_Log_Mark.RV R) (kvc Tryz.prog 13 Tryz.f60.results.toList (Tryz.f60.body.getD .skip) (rlogm_Log_Mark.RV R) [] 2000) [(0, [])] [(0, .pointer l)] w := by kernel_rfl
theorem rlogm_Log_Mark.B0_sound {R : World → Prop}  (l : Option Addr) (w : World) (h : rlogm_Log_Mark.B0 l w   R) :
    KW Tryz.prog 60 13 (rlogm_Log_Mark.RV R) ([(0, [])].map (toItem (Tryz.f60.body.getD .skip))) [(0, .pointer l)] w := by
  exact block_spec Tryz.func60 Tryz.mixed stops_nil (Eq.mp (rlogm_Log_Mark.B0_eq l w   R ) h)
theorem rlogm_Log_Mark.sound (l : Option Addr) (w : World) (R : World → Prop) (h : rlogm_Log_Mark.B0 l w R) : rlogm_Log_Mark.Call l w R := by
  have hc := calls_of_block (args := #[.pointer l]) Tryz.func60 (body := (Tryz.f60.body.getD .skip)) (by kernel_rfl) (by kernel_rfl) (args_slot _) (rlogm_Log_Mark.B0_sound l w h)
  exact hc.mono fun e w' he => by
    obtain ⟨v, rfl, hv⟩ := he
    exact rlogm_Log_Mark.RV_elim hv
def sync_Sync_Tick.B2 (s : Option Addr) (id0 term p : Int) (w : World) (N1 : Option Addr → Int → Int → Int → World → Prop)  (R : Option Addr → Nat → Nat → World → Prop) : Prop :=
  N1 s id0 term (IntKind.i64.wrap (p + (1 : Int))) w
theorem sync_Sync_Tick.B2_eq (s : Option Addr) (id0 term p : Int) (w : World) (N1 : Option Addr → Int → Int → Int → World → Prop)  (R : Option Addr → Nat → Nat → World → Prop)  :
    (
  N1 s id0 term (IntKind.i64.wrap (p + (1 : Int))) w) = kstep Tryz.prog 53 Tryz.f61.results.toList (Tryz.f61.body.getD .skip) (sync_Sync_Tick.RV R) (kvc Tryz.prog 53 Tryz.f61.results.toList (Tryz.f61.body.getD .skip) (sync_Sync_Tick.RV R) [([(0, [1, 1, 1, 1, 0, 1, 0, 1, 1, 1, 0, 0]), (2, [1, 1, 1, 1, 0, 1, 0, 1, 1, 1, 0, 0]), (1, [0]), (0, [1, 1, 1, 1, 1])], fun σ w => dP (slotOf σ 0) fun s_ => dI .i64 (slotOf σ 4) fun id0_ => dI .i64 (slotOf σ 5) fun term_ => dI .i64 (slotOf σ 6) fun p_ => N1 s_ id0_ term_ p_ w)] 2000) [(0, [1, 1, 1, 1, 0, 1, 0, 1, 1, 1, 0, 0, 1, 1]), (2, [1, 1, 1, 1, 0, 1, 0, 1, 1, 1, 0, 0]), (1, [0]), (0, [1, 1, 1, 1, 1])] [(0, .pointer s), (4, .int .i64 id0), (5, .int .i64 term), (6, .int .i64 p)] w := by kernel_rfl
theorem sync_Sync_Tick.B2_sound {R : Option Addr → Nat → Nat → World → Prop} {N1 : Option Addr → Int → Int → Int → World → Prop} (hN1 : ∀ s id0 term p w, N1 s id0 term p w → KW Tryz.prog 61 53 (sync_Sync_Tick.RV R) ([(0, [1, 1, 1, 1, 0, 1, 0, 1, 1, 1, 0, 0]), (2, [1, 1, 1, 1, 0, 1, 0, 1, 1, 1, 0, 0]), (1, [0]), (0, [1, 1, 1, 1, 1])].map (toItem (Tryz.f61.body.getD .skip))) [(0, .pointer s), (4, .int .i64 id0), (5, .int .i64 term), (6, .int .i64 p)] w) (s : Option Addr) (id0 term p : Int) (w : World) (h : sync_Sync_Tick.B2 s id0 term p w N1  R) :
    KW Tryz.prog 61 53 (sync_Sync_Tick.RV R) ([(0, [1, 1, 1, 1, 0, 1, 0, 1, 1, 1, 0, 0, 1, 1]), (2, [1, 1, 1, 1, 0, 1, 0, 1, 1, 1, 0, 0]), (1, [0]), (0, [1, 1, 1, 1, 1])].map (toItem (Tryz.f61.body.getD .skip))) [(0, .pointer s), (4, .int .i64 id0), (5, .int .i64 term), (6, .int .i64 p)] w := by
  exact block_spec Tryz.func61 Tryz.mixed (stops_cons (fun σ w h => by
      obtain ⟨s_, e0, h⟩ := dP_elim h
      obtain ⟨id0_, e1, h⟩ := dI_elim h
      obtain ⟨term_, e2, h⟩ := dI_elim h
      obtain ⟨p_, e3, h⟩ := dI_elim h
      exact (hN1 s_ id0_ term_ p_ w h).weaken (Sub.cons (Sub.cons (Sub.cons (Sub.cons (Sub.nil _) e3) e2) e1) e0)) stops_nil) (Eq.mp (sync_Sync_Tick.B2_eq s id0 term p w N1  R ) h)
def sync_Sync_Tick.L1b (s : Option Addr) (id0 term p : Int) (w : World)  (N1 : Option Addr → Int → Int → Int → World → Prop) (R : Option Addr → Nat → Nat → World → Prop) : Prop :=
  Bm (decide (p < (3 : Int))) (
    Bm (p != id0) (
      Pn s fun a =>
      LdI .i64 (a.add 9) w.drew fun x44 =>
      Pn s fun a_1 =>
      LdI .i64 (a_1.add 10) w.drew fun x48 =>
      sync_Sync_post.Call s (1 : Int) id0 p term x44 x48 (0 : Int) false none 0 0 (ByteArray.mk #[]) w.drew fun w1 =>
      sync_Sync_Tick.B2 s id0 term p w1 N1 R) (
      sync_Sync_Tick.B2 s id0 term p w N1 R)) (
    sync_Sync_flush.Call s w fun r52_b r52_l r52_c w2 =>
    R r52_b r52_l r52_c w2)
theorem sync_Sync_Tick.L1b_eq (s : Option Addr) (id0 term p : Int) (w : World)  (N1 : Option Addr → Int → Int → Int → World → Prop) (R : Option Addr → Nat → Nat → World → Prop) (sB2 : Option Addr → Int → Int → Int → World → Prop) :
    (
  Bm (decide (p < (3 : Int))) (
    Bm (p != id0) (
      Pn s fun a =>
      LdI .i64 (a.add 9) w.drew fun x44 =>
      Pn s fun a_1 =>
      LdI .i64 (a_1.add 10) w.drew fun x48 =>
      sync_Sync_post.Call s (1 : Int) id0 p term x44 x48 (0 : Int) false none 0 0 (ByteArray.mk #[]) w.drew fun w1 =>
      sB2 s id0 term p w1) (
      sB2 s id0 term p w)) (
    sync_Sync_flush.Call s w fun r52_b r52_l r52_c w2 =>
    R r52_b r52_l r52_c w2)) = kstep Tryz.prog 53 Tryz.f61.results.toList (Tryz.f61.body.getD .skip) (sync_Sync_Tick.RV R) (kvc Tryz.prog 53 Tryz.f61.results.toList (Tryz.f61.body.getD .skip) (sync_Sync_Tick.RV R) [([(0, [1, 1, 1, 1, 0, 1, 0, 1, 1, 1, 0, 0, 1, 1]), (2, [1, 1, 1, 1, 0, 1, 0, 1, 1, 1, 0, 0]), (1, [0]), (0, [1, 1, 1, 1, 1])], fun σ w => dP (slotOf σ 0) fun s_ => dI .i64 (slotOf σ 4) fun id0_ => dI .i64 (slotOf σ 5) fun term_ => dI .i64 (slotOf σ 6) fun p_ => sB2 s_ id0_ term_ p_ w)] 2000) [(0, [1, 1, 1, 1, 0, 1, 0, 1, 1, 1, 0, 0]), (2, [1, 1, 1, 1, 0, 1, 0, 1, 1, 1, 0, 0]), (1, [0]), (0, [1, 1, 1, 1, 1])] [(0, .pointer s), (4, .int .i64 id0), (5, .int .i64 term), (6, .int .i64 p)] w := by kernel_rfl
theorem sync_Sync_Tick.L1b_sound {R : Option Addr → Nat → Nat → World → Prop} {N1 : Option Addr → Int → Int → Int → World → Prop} (hN1 : ∀ s id0 term p w, N1 s id0 term p w → KW Tryz.prog 61 53 (sync_Sync_Tick.RV R) ([(0, [1, 1, 1, 1, 0, 1, 0, 1, 1, 1, 0, 0]), (2, [1, 1, 1, 1, 0, 1, 0, 1, 1, 1, 0, 0]), (1, [0]), (0, [1, 1, 1, 1, 1])].map (toItem (Tryz.f61.body.getD .skip))) [(0, .pointer s), (4, .int .i64 id0), (5, .int .i64 term), (6, .int .i64 p)] w) (s : Option Addr) (id0 term p : Int) (w : World) (h : sync_Sync_Tick.L1b s id0 term p w  N1 R) :
    KW Tryz.prog 61 53 (sync_Sync_Tick.RV R) ([(0, [1, 1, 1, 1, 0, 1, 0, 1, 1, 1, 0, 0]), (2, [1, 1, 1, 1, 0, 1, 0, 1, 1, 1, 0, 0]), (1, [0]), (0, [1, 1, 1, 1, 1])].map (toItem (Tryz.f61.body.getD .skip))) [(0, .pointer s), (4, .int .i64 id0), (5, .int .i64 term), (6, .int .i64 p)] w := by
  exact block_spec Tryz.func61 Tryz.mixed (stops_cons (fun σ w h => by
      obtain ⟨s_, e0, h⟩ := dP_elim h
      obtain ⟨id0_, e1, h⟩ := dI_elim h
      obtain ⟨term_, e2, h⟩ := dI_elim h
      obtain ⟨p_, e3, h⟩ := dI_elim h
      exact (sync_Sync_Tick.B2_sound hN1 s_ id0_ term_ p_ w h).weaken (Sub.cons (Sub.cons (Sub.cons (Sub.cons (Sub.nil _) e3) e2) e1) e0)) stops_nil) (Eq.mp (sync_Sync_Tick.L1b_eq s id0 term p w  N1 R (fun s_ id0_ term_ p_ w => sync_Sync_Tick.B2 s_ id0_ term_ p_ w N1 R)) h)
def sync_Sync_Tick.L1 (s : Option Addr) (id0 term p : Int) (w : World)  (R : Option Addr → Nat → Nat → World → Prop) : Prop :=
  ∃ (I : Nat → Option Addr → Int → Int → Int → World → Prop) (m : Nat), I m s id0 term p w ∧ ∀ m s id0 term p w, I m s id0 term p w → sync_Sync_Tick.L1b s id0 term p w  (fun s' id0' term' p' w' => ∃ m', m' < m ∧ I m' s' id0' term' p' w') R
theorem sync_Sync_Tick.L1_sound {R : Option Addr → Nat → Nat → World → Prop}  (s : Option Addr) (id0 term p : Int) (w : World) (h : sync_Sync_Tick.L1 s id0 term p w  R) :
    KW Tryz.prog 61 53 (sync_Sync_Tick.RV R) ([(0, [1, 1, 1, 1, 0, 1, 0, 1, 1, 1, 0, 0]), (2, [1, 1, 1, 1, 0, 1, 0, 1, 1, 1, 0, 0]), (1, [0]), (0, [1, 1, 1, 1, 1])].map (toItem (Tryz.f61.body.getD .skip))) [(0, .pointer s), (4, .int .i64 id0), (5, .int .i64 term), (6, .int .i64 p)] w := by
  obtain ⟨I, m, hBase, hr⟩ := h
  refine KW.loop (fun m σ w => ∃ (s : Option Addr) (id0 term p : Int), σ = [(0, .pointer s), (4, .int .i64 id0), (5, .int .i64 term), (6, .int .i64 p)] ∧ I m s id0 term p w) ?_ m _ w ⟨s, id0, term, p, rfl, hBase⟩
  rintro m ih σ w ⟨s, id0, term, p, rfl, hI⟩
  exact sync_Sync_Tick.L1b_sound  (N1 := fun s' id0' term' p' w' => ∃ m', m' < m ∧ I m' s' id0' term' p' w') (fun s' id0' term' p' w' hx => by obtain ⟨m', hlt, hI'⟩ := hx; exact ih m' hlt _ w' ⟨s', id0', term', p', rfl, hI'⟩) s id0 term p w (hr m s id0 term p w hI)
def sync_Sync_Tick.B1 (s : Option Addr) (act : Int) (w : World)   (R : Option Addr → Nat → Nat → World → Prop) : Prop :=
  Bm (act == (1 : Int)) (
    Pn s fun a =>
    LdP (a.add 1) w fun x23 =>
    elect_Elect_Id.Call x23 w fun r24 w1 =>
    Pn s fun a_1 =>
    LdP (a_1.add 1) w1 fun x28 =>
    elect_Elect_Term.Call x28 w1 fun r29 w2 =>
    sync_Sync_Tick.L1 s r24 r29 (0 : Int) w2  R) (
    sync_Sync_flush.Call s w fun r52_b r52_l r52_c w3 =>
    R r52_b r52_l r52_c w3)
theorem sync_Sync_Tick.B1_eq (s : Option Addr) (act : Int) (w : World)   (R : Option Addr → Nat → Nat → World → Prop) (sL1 : Option Addr → Int → Int → Int → World → Prop) :
    (
  Bm (act == (1 : Int)) (
    Pn s fun a =>
    LdP (a.add 1) w fun x23 =>
    elect_Elect_Id.Call x23 w fun r24 w1 =>
    Pn s fun a_1 =>
    LdP (a_1.add 1) w1 fun x28 =>
    elect_Elect_Term.Call x28 w1 fun r29 w2 =>
    sL1 s r24 r29 (0 : Int) w2) (
    sync_Sync_flush.Call s w fun r52_b r52_l r52_c w3 =>
    R r52_b r52_l r52_c w3)) = kstep Tryz.prog 53 Tryz.f61.results.toList (Tryz.f61.body.getD .skip) (sync_Sync_Tick.RV R) (kvc Tryz.prog 53 Tryz.f61.results.toList (Tryz.f61.body.getD .skip) (sync_Sync_Tick.RV R) [([(0, [1, 1, 1, 1, 0, 1, 0, 1, 1, 1, 0, 0]), (2, [1, 1, 1, 1, 0, 1, 0, 1, 1, 1, 0, 0]), (1, [0]), (0, [1, 1, 1, 1, 1])], fun σ w => dP (slotOf σ 0) fun s_ => dI .i64 (slotOf σ 4) fun id0_ => dI .i64 (slotOf σ 5) fun term_ => dI .i64 (slotOf σ 6) fun p_ => sL1 s_ id0_ term_ p_ w)] 2000) [(0, [1, 1, 1, 1])] [(0, .pointer s), (3, .int .i64 act)] w := by kernel_rfl
theorem sync_Sync_Tick.B1_sound {R : Option Addr → Nat → Nat → World → Prop}  (s : Option Addr) (act : Int) (w : World) (h : sync_Sync_Tick.B1 s act w   R) :
    KW Tryz.prog 61 53 (sync_Sync_Tick.RV R) ([(0, [1, 1, 1, 1])].map (toItem (Tryz.f61.body.getD .skip))) [(0, .pointer s), (3, .int .i64 act)] w := by
  exact block_spec Tryz.func61 Tryz.mixed (stops_cons (fun σ w h => by
      obtain ⟨s_, e0, h⟩ := dP_elim h
      obtain ⟨id0_, e1, h⟩ := dI_elim h
      obtain ⟨term_, e2, h⟩ := dI_elim h
      obtain ⟨p_, e3, h⟩ := dI_elim h
      exact (sync_Sync_Tick.L1_sound  s_ id0_ term_ p_ w h).weaken (Sub.cons (Sub.cons (Sub.cons (Sub.cons (Sub.nil _) e3) e2) e1) e0)) stops_nil) (Eq.mp (sync_Sync_Tick.B1_eq s act w   R (fun s_ id0_ term_ p_ w => sync_Sync_Tick.L1 s_ id0_ term_ p_ w  R)) h)
def sync_Sync_Tick.B0 (s : Option Addr) (w : World)   (R : Option Addr → Nat → Nat → World → Prop) : Prop :=
  Pn s fun a =>
  LdP (a.add 1) w fun x10 =>
  elect_Elect_Tick.Call x10 w fun r11 w1 =>
  sync_Sync_persist.Call s w1 fun w2 =>
  Bm (r11 == (2 : Int)) (
    sync_Sync_sendAll.Call s w2 fun w3 =>
    sync_Sync_Tick.B1 s r11 w3  R) (
    sync_Sync_Tick.B1 s r11 w2  R)
theorem sync_Sync_Tick.B0_eq (s : Option Addr) (w : World)   (R : Option Addr → Nat → Nat → World → Prop) (sB1 : Option Addr → Int → World → Prop) :
    (
  Pn s fun a =>
  LdP (a.add 1) w fun x10 =>
  elect_Elect_Tick.Call x10 w fun r11 w1 =>
  sync_Sync_persist.Call s w1 fun w2 =>
  Bm (r11 == (2 : Int)) (
    sync_Sync_sendAll.Call s w2 fun w3 =>
    sB1 s r11 w3) (
    sB1 s r11 w2)) = kstep Tryz.prog 53 Tryz.f61.results.toList (Tryz.f61.body.getD .skip) (sync_Sync_Tick.RV R) (kvc Tryz.prog 53 Tryz.f61.results.toList (Tryz.f61.body.getD .skip) (sync_Sync_Tick.RV R) [([(0, [1, 1, 1, 1])], fun σ w => dP (slotOf σ 0) fun s_ => dI .i64 (slotOf σ 3) fun act_ => sB1 s_ act_ w)] 2000) [(0, [])] [(0, .pointer s)] w := by kernel_rfl
theorem sync_Sync_Tick.B0_sound {R : Option Addr → Nat → Nat → World → Prop}  (s : Option Addr) (w : World) (h : sync_Sync_Tick.B0 s w   R) :
    KW Tryz.prog 61 53 (sync_Sync_Tick.RV R) ([(0, [])].map (toItem (Tryz.f61.body.getD .skip))) [(0, .pointer s)] w := by
  exact block_spec Tryz.func61 Tryz.mixed (stops_cons (fun σ w h => by
      obtain ⟨s_, e0, h⟩ := dP_elim h
      obtain ⟨act_, e1, h⟩ := dI_elim h
      exact (sync_Sync_Tick.B1_sound  s_ act_ w h).weaken (Sub.cons (Sub.cons (Sub.nil _) e1) e0)) stops_nil) (Eq.mp (sync_Sync_Tick.B0_eq s w   R (fun s_ act_ w => sync_Sync_Tick.B1 s_ act_ w  R)) h)
theorem sync_Sync_Tick.sound (s : Option Addr) (w : World) (R : Option Addr → Nat → Nat → World → Prop) (h : sync_Sync_Tick.B0 s w R) : sync_Sync_Tick.Call s w R := by
  have hc := calls_of_block (args := #[.pointer s]) Tryz.func61 (body := (Tryz.f61.body.getD .skip)) (by kernel_rfl) (by kernel_rfl) (args_slot _) (sync_Sync_Tick.B0_sound s w h)
  exact hc.mono fun e w' he => by
    obtain ⟨v, rfl, hv⟩ := he
    exact sync_Sync_Tick.RV_elim hv
def syncm_Sync_Tick.B1 (out_b : Option Addr) (out_l out_c : Nat) (id0 term last lt p : Int) (w : World) (N1 : Option Addr → Nat → Nat → Int → Int → Int → Int → Int → World → Prop)  (R : Option Addr → Nat → Nat → World → Prop) : Prop :=
  N1 out_b out_l out_c id0 term last lt (IntKind.i64.wrap (p + (1 : Int))) w
theorem syncm_Sync_Tick.B1_eq (out_b : Option Addr) (out_l out_c : Nat) (id0 term last lt p : Int) (w : World) (N1 : Option Addr → Nat → Nat → Int → Int → Int → Int → Int → World → Prop)  (R : Option Addr → Nat → Nat → World → Prop)  :
    (
  N1 out_b out_l out_c id0 term last lt (IntKind.i64.wrap (p + (1 : Int))) w) = kstep Tryz.prog 65 Tryz.f62.results.toList (Tryz.f62.body.getD .skip) (syncm_Sync_Tick.RV R) (kvc Tryz.prog 65 Tryz.f62.results.toList (Tryz.f62.body.getD .skip) (syncm_Sync_Tick.RV R) [([(0, [1, 1, 1, 1, 1, 0, 1, 0, 1, 1, 1, 1, 1, 0, 0]), (2, [1, 1, 1, 1, 1, 0, 1, 0, 1, 1, 1, 1, 1, 0, 0]), (1, [0]), (0, [1, 1, 1, 1, 1, 1])], fun σ w => dL (slotOf σ 4) fun out_b_ out_l_ out_c_ => dI .i64 (slotOf σ 5) fun id0_ => dI .i64 (slotOf σ 6) fun term_ => dI .i64 (slotOf σ 7) fun last_ => dI .i64 (slotOf σ 8) fun lt_ => dI .i64 (slotOf σ 10) fun p_ => N1 out_b_ out_l_ out_c_ id0_ term_ last_ lt_ p_ w)] 2000) [(0, [1, 1, 1, 1, 1, 0, 1, 0, 1, 1, 1, 1, 1, 0, 0, 1, 1]), (2, [1, 1, 1, 1, 1, 0, 1, 0, 1, 1, 1, 1, 1, 0, 0]), (1, [0]), (0, [1, 1, 1, 1, 1, 1])] [(4, .slice out_b out_l out_c), (5, .int .i64 id0), (6, .int .i64 term), (7, .int .i64 last), (8, .int .i64 lt), (10, .int .i64 p)] w := by kernel_rfl
theorem syncm_Sync_Tick.B1_sound {R : Option Addr → Nat → Nat → World → Prop} {N1 : Option Addr → Nat → Nat → Int → Int → Int → Int → Int → World → Prop} (hN1 : ∀ out_b out_l out_c id0 term last lt p w, N1 out_b out_l out_c id0 term last lt p w → KW Tryz.prog 62 65 (syncm_Sync_Tick.RV R) ([(0, [1, 1, 1, 1, 1, 0, 1, 0, 1, 1, 1, 1, 1, 0, 0]), (2, [1, 1, 1, 1, 1, 0, 1, 0, 1, 1, 1, 1, 1, 0, 0]), (1, [0]), (0, [1, 1, 1, 1, 1, 1])].map (toItem (Tryz.f62.body.getD .skip))) [(4, .slice out_b out_l out_c), (5, .int .i64 id0), (6, .int .i64 term), (7, .int .i64 last), (8, .int .i64 lt), (10, .int .i64 p)] w) (out_b : Option Addr) (out_l out_c : Nat) (id0 term last lt p : Int) (w : World) (h : syncm_Sync_Tick.B1 out_b out_l out_c id0 term last lt p w N1  R) :
    KW Tryz.prog 62 65 (syncm_Sync_Tick.RV R) ([(0, [1, 1, 1, 1, 1, 0, 1, 0, 1, 1, 1, 1, 1, 0, 0, 1, 1]), (2, [1, 1, 1, 1, 1, 0, 1, 0, 1, 1, 1, 1, 1, 0, 0]), (1, [0]), (0, [1, 1, 1, 1, 1, 1])].map (toItem (Tryz.f62.body.getD .skip))) [(4, .slice out_b out_l out_c), (5, .int .i64 id0), (6, .int .i64 term), (7, .int .i64 last), (8, .int .i64 lt), (10, .int .i64 p)] w := by
  exact block_spec Tryz.func62 Tryz.mixed (stops_cons (fun σ w h => by
      obtain ⟨out_b_, out_l_, out_c_, e0, h⟩ := dL_elim h
      obtain ⟨id0_, e1, h⟩ := dI_elim h
      obtain ⟨term_, e2, h⟩ := dI_elim h
      obtain ⟨last_, e3, h⟩ := dI_elim h
      obtain ⟨lt_, e4, h⟩ := dI_elim h
      obtain ⟨p_, e5, h⟩ := dI_elim h
      exact (hN1 out_b_ out_l_ out_c_ id0_ term_ last_ lt_ p_ w h).weaken (Sub.cons (Sub.cons (Sub.cons (Sub.cons (Sub.cons (Sub.cons (Sub.nil _) e5) e4) e3) e2) e1) e0)) stops_nil) (Eq.mp (syncm_Sync_Tick.B1_eq out_b out_l out_c id0 term last lt p w N1  R ) h)
def syncm_Sync_Tick.L1b (out_b : Option Addr) (out_l out_c : Nat) (id0 term last lt p : Int) (w : World)  (N1 : Option Addr → Nat → Nat → Int → Int → Int → Int → Int → World → Prop) (R : Option Addr → Nat → Nat → World → Prop) : Prop :=
  Bm (decide (p < (3 : Int))) (
    Bm (p != id0) (
      New (.cells #[.int .i64 (1 : Int), .int .i64 id0, .int .i64 p, .int .i64 term, .int .i64 last, .int .i64 lt, .int .i64 (0 : Int), .bool false, .slice none 0 0, .string (ByteArray.mk #[])] 40) w fun b62 w1 =>
      Append 40 (.agg #[.int .i64 (0 : Int), .int .i64 (0 : Int), .int .i64 (0 : Int), .int .i64 (0 : Int), .int .i64 (0 : Int), .int .i64 (0 : Int), .int .i64 (0 : Int), .bool false, .slice none 0 0, .string (ByteArray.mk #[])]) 10 104 out_b out_l out_c (some ⟨b62, 0, none⟩) 1 w1 fun b63 c63 w2 =>
      syncm_Sync_Tick.B1 b63 (out_l + 1) c63 id0 term last lt p w2 N1 R) (
      syncm_Sync_Tick.B1 out_b out_l out_c id0 term last lt p w N1 R)) (
    R out_b out_l out_c w)
theorem syncm_Sync_Tick.L1b_eq (out_b : Option Addr) (out_l out_c : Nat) (id0 term last lt p : Int) (w : World)  (N1 : Option Addr → Nat → Nat → Int → Int → Int → Int → Int → World → Prop) (R : Option Addr → Nat → Nat → World → Prop) (sB1 : Option Addr → Nat → Nat → Int → Int → Int → Int → Int → World → Prop) :
    (
  Bm (decide (p < (3 : Int))) (
    Bm (p != id0) (
      New (.cells #[.int .i64 (1 : Int), .int .i64 id0, .int .i64 p, .int .i64 term, .int .i64 last, .int .i64 lt, .int .i64 (0 : Int), .bool false, .slice none 0 0, .string (ByteArray.mk #[])] 40) w fun b62 w1 =>
      Append 40 (.agg #[.int .i64 (0 : Int), .int .i64 (0 : Int), .int .i64 (0 : Int), .int .i64 (0 : Int), .int .i64 (0 : Int), .int .i64 (0 : Int), .int .i64 (0 : Int), .bool false, .slice none 0 0, .string (ByteArray.mk #[])]) 10 104 out_b out_l out_c (some ⟨b62, 0, none⟩) 1 w1 fun b63 c63 w2 =>
      sB1 b63 (out_l + 1) c63 id0 term last lt p w2) (
      sB1 out_b out_l out_c id0 term last lt p w)) (
    R out_b out_l out_c w)) = kstep Tryz.prog 65 Tryz.f62.results.toList (Tryz.f62.body.getD .skip) (syncm_Sync_Tick.RV R) (kvc Tryz.prog 65 Tryz.f62.results.toList (Tryz.f62.body.getD .skip) (syncm_Sync_Tick.RV R) [([(0, [1, 1, 1, 1, 1, 0, 1, 0, 1, 1, 1, 1, 1, 0, 0, 1, 1]), (2, [1, 1, 1, 1, 1, 0, 1, 0, 1, 1, 1, 1, 1, 0, 0]), (1, [0]), (0, [1, 1, 1, 1, 1, 1])], fun σ w => dL (slotOf σ 4) fun out_b_ out_l_ out_c_ => dI .i64 (slotOf σ 5) fun id0_ => dI .i64 (slotOf σ 6) fun term_ => dI .i64 (slotOf σ 7) fun last_ => dI .i64 (slotOf σ 8) fun lt_ => dI .i64 (slotOf σ 10) fun p_ => sB1 out_b_ out_l_ out_c_ id0_ term_ last_ lt_ p_ w)] 2000) [(0, [1, 1, 1, 1, 1, 0, 1, 0, 1, 1, 1, 1, 1, 0, 0]), (2, [1, 1, 1, 1, 1, 0, 1, 0, 1, 1, 1, 1, 1, 0, 0]), (1, [0]), (0, [1, 1, 1, 1, 1, 1])] [(4, .slice out_b out_l out_c), (5, .int .i64 id0), (6, .int .i64 term), (7, .int .i64 last), (8, .int .i64 lt), (10, .int .i64 p)] w := by kernel_rfl
theorem syncm_Sync_Tick.L1b_sound {R : Option Addr → Nat → Nat → World → Prop} {N1 : Option Addr → Nat → Nat → Int → Int → Int → Int → Int → World → Prop} (hN1 : ∀ out_b out_l out_c id0 term last lt p w, N1 out_b out_l out_c id0 term last lt p w → KW Tryz.prog 62 65 (syncm_Sync_Tick.RV R) ([(0, [1, 1, 1, 1, 1, 0, 1, 0, 1, 1, 1, 1, 1, 0, 0]), (2, [1, 1, 1, 1, 1, 0, 1, 0, 1, 1, 1, 1, 1, 0, 0]), (1, [0]), (0, [1, 1, 1, 1, 1, 1])].map (toItem (Tryz.f62.body.getD .skip))) [(4, .slice out_b out_l out_c), (5, .int .i64 id0), (6, .int .i64 term), (7, .int .i64 last), (8, .int .i64 lt), (10, .int .i64 p)] w) (out_b : Option Addr) (out_l out_c : Nat) (id0 term last lt p : Int) (w : World) (h : syncm_Sync_Tick.L1b out_b out_l out_c id0 term last lt p w  N1 R) :
    KW Tryz.prog 62 65 (syncm_Sync_Tick.RV R) ([(0, [1, 1, 1, 1, 1, 0, 1, 0, 1, 1, 1, 1, 1, 0, 0]), (2, [1, 1, 1, 1, 1, 0, 1, 0, 1, 1, 1, 1, 1, 0, 0]), (1, [0]), (0, [1, 1, 1, 1, 1, 1])].map (toItem (Tryz.f62.body.getD .skip))) [(4, .slice out_b out_l out_c), (5, .int .i64 id0), (6, .int .i64 term), (7, .int .i64 last), (8, .int .i64 lt), (10, .int .i64 p)] w := by
  exact block_spec Tryz.func62 Tryz.mixed (stops_cons (fun σ w h => by
      obtain ⟨out_b_, out_l_, out_c_, e0, h⟩ := dL_elim h
      obtain ⟨id0_, e1, h⟩ := dI_elim h
      obtain ⟨term_, e2, h⟩ := dI_elim h
      obtain ⟨last_, e3, h⟩ := dI_elim h
      obtain ⟨lt_, e4, h⟩ := dI_elim h
      obtain ⟨p_, e5, h⟩ := dI_elim h
      exact (syncm_Sync_Tick.B1_sound hN1 out_b_ out_l_ out_c_ id0_ term_ last_ lt_ p_ w h).weaken (Sub.cons (Sub.cons (Sub.cons (Sub.cons (Sub.cons (Sub.cons (Sub.nil _) e5) e4) e3) e2) e1) e0)) stops_nil) (Eq.mp (syncm_Sync_Tick.L1b_eq out_b out_l out_c id0 term last lt p w  N1 R (fun out_b_ out_l_ out_c_ id0_ term_ last_ lt_ p_ w => syncm_Sync_Tick.B1 out_b_ out_l_ out_c_ id0_ term_ last_ lt_ p_ w N1 R)) h)
def syncm_Sync_Tick.L1 (out_b : Option Addr) (out_l out_c : Nat) (id0 term last lt p : Int) (w : World)  (R : Option Addr → Nat → Nat → World → Prop) : Prop :=
  ∃ (I : Nat → Option Addr → Nat → Nat → Int → Int → Int → Int → Int → World → Prop) (m : Nat), I m out_b out_l out_c id0 term last lt p w ∧ ∀ m out_b out_l out_c id0 term last lt p w, I m out_b out_l out_c id0 term last lt p w → syncm_Sync_Tick.L1b out_b out_l out_c id0 term last lt p w  (fun out_b' out_l' out_c' id0' term' last' lt' p' w' => ∃ m', m' < m ∧ I m' out_b' out_l' out_c' id0' term' last' lt' p' w') R
theorem syncm_Sync_Tick.L1_sound {R : Option Addr → Nat → Nat → World → Prop}  (out_b : Option Addr) (out_l out_c : Nat) (id0 term last lt p : Int) (w : World) (h : syncm_Sync_Tick.L1 out_b out_l out_c id0 term last lt p w  R) :
    KW Tryz.prog 62 65 (syncm_Sync_Tick.RV R) ([(0, [1, 1, 1, 1, 1, 0, 1, 0, 1, 1, 1, 1, 1, 0, 0]), (2, [1, 1, 1, 1, 1, 0, 1, 0, 1, 1, 1, 1, 1, 0, 0]), (1, [0]), (0, [1, 1, 1, 1, 1, 1])].map (toItem (Tryz.f62.body.getD .skip))) [(4, .slice out_b out_l out_c), (5, .int .i64 id0), (6, .int .i64 term), (7, .int .i64 last), (8, .int .i64 lt), (10, .int .i64 p)] w := by
  obtain ⟨I, m, hBase, hr⟩ := h
  refine KW.loop (fun m σ w => ∃ (out_b : Option Addr) (out_l out_c : Nat) (id0 term last lt p : Int), σ = [(4, .slice out_b out_l out_c), (5, .int .i64 id0), (6, .int .i64 term), (7, .int .i64 last), (8, .int .i64 lt), (10, .int .i64 p)] ∧ I m out_b out_l out_c id0 term last lt p w) ?_ m _ w ⟨out_b, out_l, out_c, id0, term, last, lt, p, rfl, hBase⟩
  rintro m ih σ w ⟨out_b, out_l, out_c, id0, term, last, lt, p, rfl, hI⟩
  exact syncm_Sync_Tick.L1b_sound  (N1 := fun out_b' out_l' out_c' id0' term' last' lt' p' w' => ∃ m', m' < m ∧ I m' out_b' out_l' out_c' id0' term' last' lt' p' w') (fun out_b' out_l' out_c' id0' term' last' lt' p' w' hx => by obtain ⟨m', hlt, hI'⟩ := hx; exact ih m' hlt _ w' ⟨out_b', out_l', out_c', id0', term', last', lt', p', rfl, hI'⟩) out_b out_l out_c id0 term last lt p w (hr m out_b out_l out_c id0 term last lt p w hI)
def syncm_Sync_Tick.B0 (s : Option Addr) (w : World)   (R : Option Addr → Nat → Nat → World → Prop) : Prop :=
  Pn s fun a =>
  LdP (a.add 1) w fun x14 =>
  electm_Elect_Tick.Call x14 w fun r15 w1 =>
  syncm_Sync_persist.Call s w1 fun w2 =>
  Bm (r15 == (2 : Int)) (
    syncm_Sync_sendAll.Call s w2 fun r21_b r21_l r21_c w3 =>
    R r21_b r21_l r21_c w3) (
    Bm (r15 == (1 : Int)) (
      Pn s fun a_1 =>
      LdP (a_1.add 1) w2 fun x27 =>
      electm_Elect_Id.Call x27 w2 fun r28 w4 =>
      Pn s fun a_2 =>
      LdP (a_2.add 1) w4 fun x32 =>
      electm_Elect_Term.Call x32 w4 fun r33 w5 =>
      Pn s fun a_3 =>
      LdP a_3 w5 fun x37 =>
      rlogm_Log_Last.Call x37 w5 fun r38 w6 =>
      Pn s fun a_4 =>
      LdP a_4 w6 fun x43 =>
      rlogm_Log_TermAt.Call x43 r38 w6 fun r45_0 r45_1 w7 =>
      syncm_Sync_Tick.L1 none 0 0 r28 r33 r38 r45_0 (0 : Int) w7  R) (
      R none 0 0 w2))
theorem syncm_Sync_Tick.B0_eq (s : Option Addr) (w : World)   (R : Option Addr → Nat → Nat → World → Prop) (sL1 : Option Addr → Nat → Nat → Int → Int → Int → Int → Int → World → Prop) :
    (
  Pn s fun a =>
  LdP (a.add 1) w fun x14 =>
  electm_Elect_Tick.Call x14 w fun r15 w1 =>
  syncm_Sync_persist.Call s w1 fun w2 =>
  Bm (r15 == (2 : Int)) (
    syncm_Sync_sendAll.Call s w2 fun r21_b r21_l r21_c w3 =>
    R r21_b r21_l r21_c w3) (
    Bm (r15 == (1 : Int)) (
      Pn s fun a_1 =>
      LdP (a_1.add 1) w2 fun x27 =>
      electm_Elect_Id.Call x27 w2 fun r28 w4 =>
      Pn s fun a_2 =>
      LdP (a_2.add 1) w4 fun x32 =>
      electm_Elect_Term.Call x32 w4 fun r33 w5 =>
      Pn s fun a_3 =>
      LdP a_3 w5 fun x37 =>
      rlogm_Log_Last.Call x37 w5 fun r38 w6 =>
      Pn s fun a_4 =>
      LdP a_4 w6 fun x43 =>
      rlogm_Log_TermAt.Call x43 r38 w6 fun r45_0 r45_1 w7 =>
      sL1 none 0 0 r28 r33 r38 r45_0 (0 : Int) w7) (
      R none 0 0 w2))) = kstep Tryz.prog 65 Tryz.f62.results.toList (Tryz.f62.body.getD .skip) (syncm_Sync_Tick.RV R) (kvc Tryz.prog 65 Tryz.f62.results.toList (Tryz.f62.body.getD .skip) (syncm_Sync_Tick.RV R) [([(0, [1, 1, 1, 1, 1, 0, 1, 0, 1, 1, 1, 1, 1, 0, 0]), (2, [1, 1, 1, 1, 1, 0, 1, 0, 1, 1, 1, 1, 1, 0, 0]), (1, [0]), (0, [1, 1, 1, 1, 1, 1])], fun σ w => dL (slotOf σ 4) fun out_b_ out_l_ out_c_ => dI .i64 (slotOf σ 5) fun id0_ => dI .i64 (slotOf σ 6) fun term_ => dI .i64 (slotOf σ 7) fun last_ => dI .i64 (slotOf σ 8) fun lt_ => dI .i64 (slotOf σ 10) fun p_ => sL1 out_b_ out_l_ out_c_ id0_ term_ last_ lt_ p_ w)] 2000) [(0, [])] [(0, .pointer s)] w := by kernel_rfl
theorem syncm_Sync_Tick.B0_sound {R : Option Addr → Nat → Nat → World → Prop}  (s : Option Addr) (w : World) (h : syncm_Sync_Tick.B0 s w   R) :
    KW Tryz.prog 62 65 (syncm_Sync_Tick.RV R) ([(0, [])].map (toItem (Tryz.f62.body.getD .skip))) [(0, .pointer s)] w := by
  exact block_spec Tryz.func62 Tryz.mixed (stops_cons (fun σ w h => by
      obtain ⟨out_b_, out_l_, out_c_, e0, h⟩ := dL_elim h
      obtain ⟨id0_, e1, h⟩ := dI_elim h
      obtain ⟨term_, e2, h⟩ := dI_elim h
      obtain ⟨last_, e3, h⟩ := dI_elim h
      obtain ⟨lt_, e4, h⟩ := dI_elim h
      obtain ⟨p_, e5, h⟩ := dI_elim h
      exact (syncm_Sync_Tick.L1_sound  out_b_ out_l_ out_c_ id0_ term_ last_ lt_ p_ w h).weaken (Sub.cons (Sub.cons (Sub.cons (Sub.cons (Sub.cons (Sub.cons (Sub.nil _) e5) e4) e3) e2) e1) e0)) stops_nil) (Eq.mp (syncm_Sync_Tick.B0_eq s w   R (fun out_b_ out_l_ out_c_ id0_ term_ last_ lt_ p_ w => syncm_Sync_Tick.L1 out_b_ out_l_ out_c_ id0_ term_ last_ lt_ p_ w  R)) h)
theorem syncm_Sync_Tick.sound (s : Option Addr) (w : World) (R : Option Addr → Nat → Nat → World → Prop) (h : syncm_Sync_Tick.B0 s w R) : syncm_Sync_Tick.Call s w R := by
  have hc := calls_of_block (args := #[.pointer s]) Tryz.func62 (body := (Tryz.f62.body.getD .skip)) (by kernel_rfl) (by kernel_rfl) (args_slot _) (syncm_Sync_Tick.B0_sound s w h)
  exact hc.mono fun e w' he => by
    obtain ⟨v, rfl, hv⟩ := he
    exact syncm_Sync_Tick.RV_elim hv
def synclaw_Apart.L2b (a_b : Option Addr) (a_l a_c : Nat) (i k : Int) (w : World) (N1 : Option Addr → Nat → Nat → Int → World → Prop) (N2 : Option Addr → Nat → Nat → Int → Int → World → Prop) (R : Bool → World → Prop) : Prop :=
  Pn a_b fun a =>
  (0 ≤ i ∧ i < ((a_l : Nat) : Int)) ∧
  LdL ((Addr.add a (i.toNat * 10)).add 8) w fun x18_b x18_l x18_c =>
  Bm (decide (k < ((x18_l : Nat) : Int))) (
    Pn a_b fun a_1 =>
    (0 ≤ i ∧ i < ((a_l : Nat) : Int)) ∧
    LdL ((Addr.add a_1 (i.toNat * 10)).add 8) w fun x27_b x27_l x27_c =>
    Pn x27_b fun a_2 =>
    (0 ≤ k ∧ k < ((x27_l : Nat) : Int)) ∧
    LdI .i64 (Addr.add a_2 (k.toNat * 2)) w fun x30_0 =>
    LdS ((Addr.add a_2 (k.toNat * 2)).add 1) w fun x30_1 =>
    New (.cells #[.int .i64 (0 : Int), .string (ByteArray.mk #[])] 103) w fun keep_ w1 =>
    Sts [.int .i64 x30_0, .string x30_1] ⟨keep_, 0, none⟩ 0 w1 fun w2 =>
    Pn a_b fun a_3 =>
    (0 ≤ i ∧ i < ((a_l : Nat) : Int)) ∧
    LdL ((Addr.add a_3 (i.toNat * 10)).add 8) w2 fun x35_b x35_l x35_c =>
    Pn x35_b fun a_4 =>
    (0 ≤ k ∧ k < ((x35_l : Nat) : Int)) ∧
    Sts [.int .i64 (-7 : Int), .string (ByteArray.mk #[120])] (Addr.add a_4 (k.toNat * 2)) 0 w2 fun w3 =>
    synclaw_Marked.Call a_b a_l a_c i w3 fun r41 w4 =>
    Pn a_b fun a_5 =>
    (0 ≤ i ∧ i < ((a_l : Nat) : Int)) ∧
    LdL ((Addr.add a_5 (i.toNat * 10)).add 8) w4.drew fun x46_b x46_l x46_c =>
    LdI .i64 ⟨keep_, 0, none⟩ w4.drew fun x48_0 =>
    LdS ⟨keep_, 1, none⟩ w4.drew fun x48_1 =>
    Pn x46_b fun a_6 =>
    (0 ≤ k ∧ k < ((x46_l : Nat) : Int)) ∧
    Sts [.int .i64 x48_0, .string x48_1] (Addr.add a_6 (k.toNat * 2)) 0 w4.drew fun w5 =>
    Bm r41 (
      R false w5) (
      N2 a_b a_l a_c i (IntKind.i64.wrap (k + (1 : Int))) w5)) (
    N1 a_b a_l a_c (IntKind.i64.wrap (i + (1 : Int))) w)
theorem synclaw_Apart.L2b_eq (a_b : Option Addr) (a_l a_c : Nat) (i k : Int) (w : World) (N1 : Option Addr → Nat → Nat → Int → World → Prop) (N2 : Option Addr → Nat → Nat → Int → Int → World → Prop) (R : Bool → World → Prop)  :
    (
  Pn a_b fun a =>
  (0 ≤ i ∧ i < ((a_l : Nat) : Int)) ∧
  LdL ((Addr.add a (i.toNat * 10)).add 8) w fun x18_b x18_l x18_c =>
  Bm (decide (k < ((x18_l : Nat) : Int))) (
    Pn a_b fun a_1 =>
    (0 ≤ i ∧ i < ((a_l : Nat) : Int)) ∧
    LdL ((Addr.add a_1 (i.toNat * 10)).add 8) w fun x27_b x27_l x27_c =>
    Pn x27_b fun a_2 =>
    (0 ≤ k ∧ k < ((x27_l : Nat) : Int)) ∧
    LdI .i64 (Addr.add a_2 (k.toNat * 2)) w fun x30_0 =>
    LdS ((Addr.add a_2 (k.toNat * 2)).add 1) w fun x30_1 =>
    New (.cells #[.int .i64 (0 : Int), .string (ByteArray.mk #[])] 103) w fun keep_ w1 =>
    Sts [.int .i64 x30_0, .string x30_1] ⟨keep_, 0, none⟩ 0 w1 fun w2 =>
    Pn a_b fun a_3 =>
    (0 ≤ i ∧ i < ((a_l : Nat) : Int)) ∧
    LdL ((Addr.add a_3 (i.toNat * 10)).add 8) w2 fun x35_b x35_l x35_c =>
    Pn x35_b fun a_4 =>
    (0 ≤ k ∧ k < ((x35_l : Nat) : Int)) ∧
    Sts [.int .i64 (-7 : Int), .string (ByteArray.mk #[120])] (Addr.add a_4 (k.toNat * 2)) 0 w2 fun w3 =>
    synclaw_Marked.Call a_b a_l a_c i w3 fun r41 w4 =>
    Pn a_b fun a_5 =>
    (0 ≤ i ∧ i < ((a_l : Nat) : Int)) ∧
    LdL ((Addr.add a_5 (i.toNat * 10)).add 8) w4.drew fun x46_b x46_l x46_c =>
    LdI .i64 ⟨keep_, 0, none⟩ w4.drew fun x48_0 =>
    LdS ⟨keep_, 1, none⟩ w4.drew fun x48_1 =>
    Pn x46_b fun a_6 =>
    (0 ≤ k ∧ k < ((x46_l : Nat) : Int)) ∧
    Sts [.int .i64 x48_0, .string x48_1] (Addr.add a_6 (k.toNat * 2)) 0 w4.drew fun w5 =>
    Bm r41 (
      R false w5) (
      N2 a_b a_l a_c i (IntKind.i64.wrap (k + (1 : Int))) w5)) (
    N1 a_b a_l a_c (IntKind.i64.wrap (i + (1 : Int))) w)) = kstep Tryz.prog 51 Tryz.f63.results.toList (Tryz.f63.body.getD .skip) (synclaw_Apart.RV R) (kvc Tryz.prog 51 Tryz.f63.results.toList (Tryz.f63.body.getD .skip) (synclaw_Apart.RV R) [([(0, [1, 0, 1, 0, 0, 1, 0, 0, 1, 0, 0]), (2, [1, 0, 1, 0, 0, 1, 0, 0, 1, 0, 0]), (1, [2]), (1, [1]), (0, [1, 0, 1, 0, 0, 1, 1]), (2, [1, 0, 1, 0, 0]), (1, [0]), (0, [1, 1])], fun σ w => dL (slotOf σ 0) fun a_b_ a_l_ a_c_ => dI .i64 (slotOf σ 3) fun i_ => dI .i64 (slotOf σ 4) fun k_ => N2 a_b_ a_l_ a_c_ i_ k_ w),
    ([(0, [1, 0, 1, 0, 0]), (2, [1, 0, 1, 0, 0]), (1, [0]), (0, [1, 1])], fun σ w => dL (slotOf σ 0) fun a_b_ a_l_ a_c_ => dI .i64 (slotOf σ 3) fun i_ => N1 a_b_ a_l_ a_c_ i_ w)] 2000) [(0, [1, 0, 1, 0, 0, 1, 0, 0, 1, 0, 0]), (2, [1, 0, 1, 0, 0, 1, 0, 0, 1, 0, 0]), (1, [2]), (1, [1]), (0, [1, 0, 1, 0, 0, 1, 1]), (2, [1, 0, 1, 0, 0]), (1, [0]), (0, [1, 1])] [(0, .slice a_b a_l a_c), (3, .int .i64 i), (4, .int .i64 k)] w := by kernel_rfl
theorem synclaw_Apart.L2b_sound {R : Bool → World → Prop} {N1 : Option Addr → Nat → Nat → Int → World → Prop} (hN1 : ∀ a_b a_l a_c i w, N1 a_b a_l a_c i w → KW Tryz.prog 63 51 (synclaw_Apart.RV R) ([(0, [1, 0, 1, 0, 0]), (2, [1, 0, 1, 0, 0]), (1, [0]), (0, [1, 1])].map (toItem (Tryz.f63.body.getD .skip))) [(0, .slice a_b a_l a_c), (3, .int .i64 i)] w) {N2 : Option Addr → Nat → Nat → Int → Int → World → Prop} (hN2 : ∀ a_b a_l a_c i k w, N2 a_b a_l a_c i k w → KW Tryz.prog 63 51 (synclaw_Apart.RV R) ([(0, [1, 0, 1, 0, 0, 1, 0, 0, 1, 0, 0]), (2, [1, 0, 1, 0, 0, 1, 0, 0, 1, 0, 0]), (1, [2]), (1, [1]), (0, [1, 0, 1, 0, 0, 1, 1]), (2, [1, 0, 1, 0, 0]), (1, [0]), (0, [1, 1])].map (toItem (Tryz.f63.body.getD .skip))) [(0, .slice a_b a_l a_c), (3, .int .i64 i), (4, .int .i64 k)] w) (a_b : Option Addr) (a_l a_c : Nat) (i k : Int) (w : World) (h : synclaw_Apart.L2b a_b a_l a_c i k w N1 N2 R) :
    KW Tryz.prog 63 51 (synclaw_Apart.RV R) ([(0, [1, 0, 1, 0, 0, 1, 0, 0, 1, 0, 0]), (2, [1, 0, 1, 0, 0, 1, 0, 0, 1, 0, 0]), (1, [2]), (1, [1]), (0, [1, 0, 1, 0, 0, 1, 1]), (2, [1, 0, 1, 0, 0]), (1, [0]), (0, [1, 1])].map (toItem (Tryz.f63.body.getD .skip))) [(0, .slice a_b a_l a_c), (3, .int .i64 i), (4, .int .i64 k)] w := by
  exact block_spec Tryz.func63 Tryz.mixed (stops_cons (fun σ w h => by
      obtain ⟨a_b_, a_l_, a_c_, e0, h⟩ := dL_elim h
      obtain ⟨i_, e1, h⟩ := dI_elim h
      obtain ⟨k_, e2, h⟩ := dI_elim h
      exact (hN2 a_b_ a_l_ a_c_ i_ k_ w h).weaken (Sub.cons (Sub.cons (Sub.cons (Sub.nil _) e2) e1) e0)) (stops_cons (fun σ w h => by
      obtain ⟨a_b_, a_l_, a_c_, e0, h⟩ := dL_elim h
      obtain ⟨i_, e1, h⟩ := dI_elim h
      exact (hN1 a_b_ a_l_ a_c_ i_ w h).weaken (Sub.cons (Sub.cons (Sub.nil _) e1) e0)) stops_nil)) (Eq.mp (synclaw_Apart.L2b_eq a_b a_l a_c i k w N1 N2 R ) h)
def synclaw_Apart.L2 (a_b : Option Addr) (a_l a_c : Nat) (i k : Int) (w : World) (N1 : Option Addr → Nat → Nat → Int → World → Prop) (R : Bool → World → Prop) : Prop :=
  ∃ (I : Nat → Option Addr → Nat → Nat → Int → Int → World → Prop) (m : Nat), I m a_b a_l a_c i k w ∧ ∀ m a_b a_l a_c i k w, I m a_b a_l a_c i k w → synclaw_Apart.L2b a_b a_l a_c i k w N1 (fun a_b' a_l' a_c' i' k' w' => ∃ m', m' < m ∧ I m' a_b' a_l' a_c' i' k' w') R
theorem synclaw_Apart.L2_sound {R : Bool → World → Prop} {N1 : Option Addr → Nat → Nat → Int → World → Prop} (hN1 : ∀ a_b a_l a_c i w, N1 a_b a_l a_c i w → KW Tryz.prog 63 51 (synclaw_Apart.RV R) ([(0, [1, 0, 1, 0, 0]), (2, [1, 0, 1, 0, 0]), (1, [0]), (0, [1, 1])].map (toItem (Tryz.f63.body.getD .skip))) [(0, .slice a_b a_l a_c), (3, .int .i64 i)] w) (a_b : Option Addr) (a_l a_c : Nat) (i k : Int) (w : World) (h : synclaw_Apart.L2 a_b a_l a_c i k w N1 R) :
    KW Tryz.prog 63 51 (synclaw_Apart.RV R) ([(0, [1, 0, 1, 0, 0, 1, 0, 0, 1, 0, 0]), (2, [1, 0, 1, 0, 0, 1, 0, 0, 1, 0, 0]), (1, [2]), (1, [1]), (0, [1, 0, 1, 0, 0, 1, 1]), (2, [1, 0, 1, 0, 0]), (1, [0]), (0, [1, 1])].map (toItem (Tryz.f63.body.getD .skip))) [(0, .slice a_b a_l a_c), (3, .int .i64 i), (4, .int .i64 k)] w := by
  obtain ⟨I, m, hBase, hr⟩ := h
  refine KW.loop (fun m σ w => ∃ (a_b : Option Addr) (a_l a_c : Nat) (i k : Int), σ = [(0, .slice a_b a_l a_c), (3, .int .i64 i), (4, .int .i64 k)] ∧ I m a_b a_l a_c i k w) ?_ m _ w ⟨a_b, a_l, a_c, i, k, rfl, hBase⟩
  rintro m ih σ w ⟨a_b, a_l, a_c, i, k, rfl, hI⟩
  exact synclaw_Apart.L2b_sound hN1 (N2 := fun a_b' a_l' a_c' i' k' w' => ∃ m', m' < m ∧ I m' a_b' a_l' a_c' i' k' w') (fun a_b' a_l' a_c' i' k' w' hx => by obtain ⟨m', hlt, hI'⟩ := hx; exact ih m' hlt _ w' ⟨a_b', a_l', a_c', i', k', rfl, hI'⟩) a_b a_l a_c i k w (hr m a_b a_l a_c i k w hI)
def synclaw_Apart.L1b (a_b : Option Addr) (a_l a_c : Nat) (i : Int) (w : World)  (N1 : Option Addr → Nat → Nat → Int → World → Prop) (R : Bool → World → Prop) : Prop :=
  Bm (decide (i < ((a_l : Nat) : Int))) (
    synclaw_Apart.L2 a_b a_l a_c i (0 : Int) w N1 R) (
    R true w)
theorem synclaw_Apart.L1b_eq (a_b : Option Addr) (a_l a_c : Nat) (i : Int) (w : World)  (N1 : Option Addr → Nat → Nat → Int → World → Prop) (R : Bool → World → Prop) (sL2 : Option Addr → Nat → Nat → Int → Int → World → Prop) :
    (
  Bm (decide (i < ((a_l : Nat) : Int))) (
    sL2 a_b a_l a_c i (0 : Int) w) (
    R true w)) = kstep Tryz.prog 51 Tryz.f63.results.toList (Tryz.f63.body.getD .skip) (synclaw_Apart.RV R) (kvc Tryz.prog 51 Tryz.f63.results.toList (Tryz.f63.body.getD .skip) (synclaw_Apart.RV R) [([(0, [1, 0, 1, 0, 0, 1, 0, 0, 1, 0, 0]), (2, [1, 0, 1, 0, 0, 1, 0, 0, 1, 0, 0]), (1, [2]), (1, [1]), (0, [1, 0, 1, 0, 0, 1, 1]), (2, [1, 0, 1, 0, 0]), (1, [0]), (0, [1, 1])], fun σ w => dL (slotOf σ 0) fun a_b_ a_l_ a_c_ => dI .i64 (slotOf σ 3) fun i_ => dI .i64 (slotOf σ 4) fun k_ => sL2 a_b_ a_l_ a_c_ i_ k_ w)] 2000) [(0, [1, 0, 1, 0, 0]), (2, [1, 0, 1, 0, 0]), (1, [0]), (0, [1, 1])] [(0, .slice a_b a_l a_c), (3, .int .i64 i)] w := by kernel_rfl
theorem synclaw_Apart.L1b_sound {R : Bool → World → Prop} {N1 : Option Addr → Nat → Nat → Int → World → Prop} (hN1 : ∀ a_b a_l a_c i w, N1 a_b a_l a_c i w → KW Tryz.prog 63 51 (synclaw_Apart.RV R) ([(0, [1, 0, 1, 0, 0]), (2, [1, 0, 1, 0, 0]), (1, [0]), (0, [1, 1])].map (toItem (Tryz.f63.body.getD .skip))) [(0, .slice a_b a_l a_c), (3, .int .i64 i)] w) (a_b : Option Addr) (a_l a_c : Nat) (i : Int) (w : World) (h : synclaw_Apart.L1b a_b a_l a_c i w  N1 R) :
    KW Tryz.prog 63 51 (synclaw_Apart.RV R) ([(0, [1, 0, 1, 0, 0]), (2, [1, 0, 1, 0, 0]), (1, [0]), (0, [1, 1])].map (toItem (Tryz.f63.body.getD .skip))) [(0, .slice a_b a_l a_c), (3, .int .i64 i)] w := by
  exact block_spec Tryz.func63 Tryz.mixed (stops_cons (fun σ w h => by
      obtain ⟨a_b_, a_l_, a_c_, e0, h⟩ := dL_elim h
      obtain ⟨i_, e1, h⟩ := dI_elim h
      obtain ⟨k_, e2, h⟩ := dI_elim h
      exact (synclaw_Apart.L2_sound hN1 a_b_ a_l_ a_c_ i_ k_ w h).weaken (Sub.cons (Sub.cons (Sub.cons (Sub.nil _) e2) e1) e0)) stops_nil) (Eq.mp (synclaw_Apart.L1b_eq a_b a_l a_c i w  N1 R (fun a_b_ a_l_ a_c_ i_ k_ w => synclaw_Apart.L2 a_b_ a_l_ a_c_ i_ k_ w N1 R)) h)
def synclaw_Apart.L1 (a_b : Option Addr) (a_l a_c : Nat) (i : Int) (w : World)  (R : Bool → World → Prop) : Prop :=
  ∃ (I : Nat → Option Addr → Nat → Nat → Int → World → Prop) (m : Nat), I m a_b a_l a_c i w ∧ ∀ m a_b a_l a_c i w, I m a_b a_l a_c i w → synclaw_Apart.L1b a_b a_l a_c i w  (fun a_b' a_l' a_c' i' w' => ∃ m', m' < m ∧ I m' a_b' a_l' a_c' i' w') R
theorem synclaw_Apart.L1_sound {R : Bool → World → Prop}  (a_b : Option Addr) (a_l a_c : Nat) (i : Int) (w : World) (h : synclaw_Apart.L1 a_b a_l a_c i w  R) :
    KW Tryz.prog 63 51 (synclaw_Apart.RV R) ([(0, [1, 0, 1, 0, 0]), (2, [1, 0, 1, 0, 0]), (1, [0]), (0, [1, 1])].map (toItem (Tryz.f63.body.getD .skip))) [(0, .slice a_b a_l a_c), (3, .int .i64 i)] w := by
  obtain ⟨I, m, hBase, hr⟩ := h
  refine KW.loop (fun m σ w => ∃ (a_b : Option Addr) (a_l a_c : Nat) (i : Int), σ = [(0, .slice a_b a_l a_c), (3, .int .i64 i)] ∧ I m a_b a_l a_c i w) ?_ m _ w ⟨a_b, a_l, a_c, i, rfl, hBase⟩
  rintro m ih σ w ⟨a_b, a_l, a_c, i, rfl, hI⟩
  exact synclaw_Apart.L1b_sound  (N1 := fun a_b' a_l' a_c' i' w' => ∃ m', m' < m ∧ I m' a_b' a_l' a_c' i' w') (fun a_b' a_l' a_c' i' w' hx => by obtain ⟨m', hlt, hI'⟩ := hx; exact ih m' hlt _ w' ⟨a_b', a_l', a_c', i', rfl, hI'⟩) a_b a_l a_c i w (hr m a_b a_l a_c i w hI)
def synclaw_Apart.B0 (a_b : Option Addr) (a_l a_c : Nat) (w : World)   (R : Bool → World → Prop) : Prop :=
  synclaw_Apart.L1 a_b a_l a_c (0 : Int) w  R
theorem synclaw_Apart.B0_eq (a_b : Option Addr) (a_l a_c : Nat) (w : World)   (R : Bool → World → Prop) (sL1 : Option Addr → Nat → Nat → Int → World → Prop) :
    (
  sL1 a_b a_l a_c (0 : Int) w) = kstep Tryz.prog 51 Tryz.f63.results.toList (Tryz.f63.body.getD .skip) (synclaw_Apart.RV R) (kvc Tryz.prog 51 Tryz.f63.results.toList (Tryz.f63.body.getD .skip) (synclaw_Apart.RV R) [([(0, [1, 0, 1, 0, 0]), (2, [1, 0, 1, 0, 0]), (1, [0]), (0, [1, 1])], fun σ w => dL (slotOf σ 0) fun a_b_ a_l_ a_c_ => dI .i64 (slotOf σ 3) fun i_ => sL1 a_b_ a_l_ a_c_ i_ w)] 2000) [(0, [])] [(0, .slice a_b a_l a_c)] w := by kernel_rfl
theorem synclaw_Apart.B0_sound {R : Bool → World → Prop}  (a_b : Option Addr) (a_l a_c : Nat) (w : World) (h : synclaw_Apart.B0 a_b a_l a_c w   R) :
    KW Tryz.prog 63 51 (synclaw_Apart.RV R) ([(0, [])].map (toItem (Tryz.f63.body.getD .skip))) [(0, .slice a_b a_l a_c)] w := by
  exact block_spec Tryz.func63 Tryz.mixed (stops_cons (fun σ w h => by
      obtain ⟨a_b_, a_l_, a_c_, e0, h⟩ := dL_elim h
      obtain ⟨i_, e1, h⟩ := dI_elim h
      exact (synclaw_Apart.L1_sound  a_b_ a_l_ a_c_ i_ w h).weaken (Sub.cons (Sub.cons (Sub.nil _) e1) e0)) stops_nil) (Eq.mp (synclaw_Apart.B0_eq a_b a_l a_c w   R (fun a_b_ a_l_ a_c_ i_ w => synclaw_Apart.L1 a_b_ a_l_ a_c_ i_ w  R)) h)
theorem synclaw_Apart.sound (a_b : Option Addr) (a_l a_c : Nat) (w : World) (R : Bool → World → Prop) (h : synclaw_Apart.B0 a_b a_l a_c w R) : synclaw_Apart.Call a_b a_l a_c w R := by
  have hc := calls_of_block (args := #[.slice a_b a_l a_c]) Tryz.func63 (body := (Tryz.f63.body.getD .skip)) (by kernel_rfl) (by kernel_rfl) (args_slot _) (synclaw_Apart.B0_sound a_b a_l a_c w h)
  exact hc.mono fun e w' he => by
    obtain ⟨v, rfl, hv⟩ := he
    exact synclaw_Apart.RV_elim hv
end Go.Proofs.Qxb6500433aGreat
