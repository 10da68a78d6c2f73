import Derived.Test.Qxb6500430aGreatSig
set_option maxRecDepth 100000
set_option linter.unusedVariables false
open Go.Vc
namespace Go.Proofs.Qxb6500430aGreat
def electm_Elect_See.B1 (e : Option Addr) (term : Int) (t14 : Bool) (w : World)   (R : Bool → World → Prop) : Prop :=
  Bm t14 (
    R false w) (
    Pn e fun a =>
    Sts [.int .i64 term] (a.add 1) 0 w fun w1 =>
    Pn e fun a_1 =>
    Sts [.int .i64 (-1 : Int)] (a_1.add 2) 0 w1 fun w2 =>
    Pn e fun a_2 =>
    Sts [.int .i64 (0 : Int)] (a_2.add 3) 0 w2 fun w3 =>
    Pn e fun a_3 =>
    Sts [.int .i64 (-1 : Int)] (a_3.add 4) 0 w3 fun w4 =>
    Pn e fun a_4 =>
    Sts [.bool false, .bool false, .bool false] (a_4.add 6) 0 w4 fun w5 =>
    R true w5)
theorem electm_Elect_See.B1_eq (e : Option Addr) (term : Int) (t14 : Bool) (w : World)   (R : Bool → World → Prop)  :
    (
  Bm t14 (
    R false w) (
    Pn e fun a =>
    Sts [.int .i64 term] (a.add 1) 0 w fun w1 =>
    Pn e fun a_1 =>
    Sts [.int .i64 (-1 : Int)] (a_1.add 2) 0 w1 fun w2 =>
    Pn e fun a_2 =>
    Sts [.int .i64 (0 : Int)] (a_2.add 3) 0 w2 fun w3 =>
    Pn e fun a_3 =>
    Sts [.int .i64 (-1 : Int)] (a_3.add 4) 0 w3 fun w4 =>
    Pn e fun a_4 =>
    Sts [.bool false, .bool false, .bool false] (a_4.add 6) 0 w4 fun w5 =>
    R true w5)) = kstep Tryz.prog 32 Tryz.f187.results.toList (Tryz.f187.body.getD .skip) (electm_Elect_See.RV R) (kvc Tryz.prog 32 Tryz.f187.results.toList (Tryz.f187.body.getD .skip) (electm_Elect_See.RV R) [] 2000) [(0, [1, 0, 1]), (0, [1, 1])] [(0, .pointer e), (1, .int .i64 term), (14, .bool t14)] w := by kernel_rfl
theorem electm_Elect_See.B1_sound {R : Bool → World → Prop}  (e : Option Addr) (term : Int) (t14 : Bool) (w : World) (h : electm_Elect_See.B1 e term t14 w   R) :
    KW Tryz.prog 187 32 (electm_Elect_See.RV R) ([(0, [1, 0, 1]), (0, [1, 1])].map (toItem (Tryz.f187.body.getD .skip))) [(0, .pointer e), (1, .int .i64 term), (14, .bool t14)] w := by
  exact block_spec Tryz.func187 Tryz.mixed stops_nil (Eq.mp (electm_Elect_See.B1_eq e term t14 w   R ) h)
def electm_Elect_See.B0 (e : Option Addr) (term : Int) (w : World)   (R : Bool → World → Prop) : Prop :=
  Pn e fun a =>
  LdI .i64 (a.add 1) w fun x9 =>
  Bm (decide (term ≤ x9)) (
    electm_Elect_See.B1 e term true w  R) (
    electm_Elect_See.B1 e term (decide (term > (72057594037927936 : Int))) w  R)
theorem electm_Elect_See.B0_eq (e : Option Addr) (term : Int) (w : World)   (R : Bool → World → Prop) (sB1 : Option Addr → Int → Bool → World → Prop) :
    (
  Pn e fun a =>
  LdI .i64 (a.add 1) w fun x9 =>
  Bm (decide (term ≤ x9)) (
    sB1 e term true w) (
    sB1 e term (decide (term > (72057594037927936 : Int))) w)) = kstep Tryz.prog 32 Tryz.f187.results.toList (Tryz.f187.body.getD .skip) (electm_Elect_See.RV R) (kvc Tryz.prog 32 Tryz.f187.results.toList (Tryz.f187.body.getD .skip) (electm_Elect_See.RV R) [([(0, [1, 0, 1]), (0, [1, 1])], fun σ w => dP (slotOf σ 0) fun e_ => dI .i64 (slotOf σ 1) fun term_ => dB (slotOf σ 14) fun t14_ => sB1 e_ term_ t14_ w)] 2000) [(0, [])] [(0, .pointer e), (1, .int .i64 term)] w := by kernel_rfl
theorem electm_Elect_See.B0_sound {R : Bool → World → Prop}  (e : Option Addr) (term : Int) (w : World) (h : electm_Elect_See.B0 e term w   R) :
    KW Tryz.prog 187 32 (electm_Elect_See.RV R) ([(0, [])].map (toItem (Tryz.f187.body.getD .skip))) [(0, .pointer e), (1, .int .i64 term)] w := by
  exact block_spec Tryz.func187 Tryz.mixed (stops_cons (fun σ w h => by
      obtain ⟨e_, e0, h⟩ := dP_elim h
      obtain ⟨term_, e1, h⟩ := dI_elim h
      obtain ⟨t14_, e2, h⟩ := dB_elim h
      exact (electm_Elect_See.B1_sound  e_ term_ t14_ w h).weaken (Sub.cons (Sub.cons (Sub.cons (Sub.nil _) e2) e1) e0)) stops_nil) (Eq.mp (electm_Elect_See.B0_eq e term w   R (fun e_ term_ t14_ w => electm_Elect_See.B1 e_ term_ t14_ w  R)) h)
theorem electm_Elect_See.sound (e : Option Addr) (term : Int) (w : World) (R : Bool → World → Prop) (h : electm_Elect_See.B0 e term w R) : electm_Elect_See.Call e term w R := by
  have hc := calls_of_block (args := #[.pointer e, .int .i64 term]) Tryz.func187 (body := (Tryz.f187.body.getD .skip)) (by kernel_rfl) (by kernel_rfl) (args_slot _) (electm_Elect_See.B0_sound e term w h)
  exact hc.mono fun e w' he => by
    obtain ⟨v, rfl, hv⟩ := he
    exact electm_Elect_See.RV_elim hv
def syncm_Sync_advance.B3 (s : Option Addr) (id0 term n t have0 p : Int) (w : World) (N1 : Option Addr → Int → Int → Int → World → Prop) (N2 : Option Addr → Int → Int → Int → Int → Int → Int → World → Prop)  (R : World → Prop) : Prop :=
  N2 s id0 term n t have0 (IntKind.i64.wrap (p + (1 : Int))) w
theorem syncm_Sync_advance.B3_eq (s : Option Addr) (id0 term n t have0 p : Int) (w : World) (N1 : Option Addr → Int → Int → Int → World → Prop) (N2 : Option Addr → Int → Int → Int → Int → Int → Int → World → Prop)  (R : World → Prop)  :
    (
  N2 s id0 term n t have0 (IntKind.i64.wrap (p + (1 : Int))) w) = kstep Tryz.prog 73 Tryz.f188.results.toList (Tryz.f188.body.getD .skip) (syncm_Sync_advance.RV R) (kvc Tryz.prog 73 Tryz.f188.results.toList (Tryz.f188.body.getD .skip) (syncm_Sync_advance.RV R) [([(0, [1, 1, 1, 1, 0, 0, 1, 0, 0, 1, 1, 0, 1, 0, 0]), (2, [1, 1, 1, 1, 0, 0, 1, 0, 0, 1, 1, 0, 1, 0, 0]), (1, [2]), (0, [1, 1, 1, 1, 0, 0, 1, 0, 0, 1, 1, 1]), (1, [1]), (0, [1, 1, 1, 1, 0, 0, 1, 1]), (2, [1, 1, 1, 1, 0, 0]), (1, [0])], fun σ w => dP (slotOf σ 0) fun s_ => dI .i64 (slotOf σ 2) fun id0_ => dI .i64 (slotOf σ 3) fun term_ => dI .i64 (slotOf σ 5) fun n_ => dI .i64 (slotOf σ 6) fun t_ => dI .i64 (slotOf σ 8) fun have0_ => dI .i64 (slotOf σ 9) fun p_ => N2 s_ id0_ term_ n_ t_ have0_ p_ w)] 2000) [(0, [1, 1, 1, 1, 0, 0, 1, 0, 0, 1, 1, 0, 1, 0, 0, 1, 1]), (2, [1, 1, 1, 1, 0, 0, 1, 0, 0, 1, 1, 0, 1, 0, 0]), (1, [2]), (0, [1, 1, 1, 1, 0, 0, 1, 0, 0, 1, 1, 1]), (1, [1]), (0, [1, 1, 1, 1, 0, 0, 1, 1]), (2, [1, 1, 1, 1, 0, 0]), (1, [0])] [(0, .pointer s), (2, .int .i64 id0), (3, .int .i64 term), (5, .int .i64 n), (6, .int .i64 t), (8, .int .i64 have0), (9, .int .i64 p)] w := by kernel_rfl
theorem syncm_Sync_advance.B3_sound {R : World → Prop} {N1 : Option Addr → Int → Int → Int → World → Prop} (hN1 : ∀ s id0 term n w, N1 s id0 term n w → KW Tryz.prog 188 73 (syncm_Sync_advance.RV R) ([(0, [1, 1, 1, 1, 0, 0]), (2, [1, 1, 1, 1, 0, 0]), (1, [0])].map (toItem (Tryz.f188.body.getD .skip))) [(0, .pointer s), (2, .int .i64 id0), (3, .int .i64 term), (5, .int .i64 n)] w) {N2 : Option Addr → Int → Int → Int → Int → Int → Int → World → Prop} (hN2 : ∀ s id0 term n t have0 p w, N2 s id0 term n t have0 p w → KW Tryz.prog 188 73 (syncm_Sync_advance.RV R) ([(0, [1, 1, 1, 1, 0, 0, 1, 0, 0, 1, 1, 0, 1, 0, 0]), (2, [1, 1, 1, 1, 0, 0, 1, 0, 0, 1, 1, 0, 1, 0, 0]), (1, [2]), (0, [1, 1, 1, 1, 0, 0, 1, 0, 0, 1, 1, 1]), (1, [1]), (0, [1, 1, 1, 1, 0, 0, 1, 1]), (2, [1, 1, 1, 1, 0, 0]), (1, [0])].map (toItem (Tryz.f188.body.getD .skip))) [(0, .pointer s), (2, .int .i64 id0), (3, .int .i64 term), (5, .int .i64 n), (6, .int .i64 t), (8, .int .i64 have0), (9, .int .i64 p)] w) (s : Option Addr) (id0 term n t have0 p : Int) (w : World) (h : syncm_Sync_advance.B3 s id0 term n t have0 p w N1 N2  R) :
    KW Tryz.prog 188 73 (syncm_Sync_advance.RV R) ([(0, [1, 1, 1, 1, 0, 0, 1, 0, 0, 1, 1, 0, 1, 0, 0, 1, 1]), (2, [1, 1, 1, 1, 0, 0, 1, 0, 0, 1, 1, 0, 1, 0, 0]), (1, [2]), (0, [1, 1, 1, 1, 0, 0, 1, 0, 0, 1, 1, 1]), (1, [1]), (0, [1, 1, 1, 1, 0, 0, 1, 1]), (2, [1, 1, 1, 1, 0, 0]), (1, [0])].map (toItem (Tryz.f188.body.getD .skip))) [(0, .pointer s), (2, .int .i64 id0), (3, .int .i64 term), (5, .int .i64 n), (6, .int .i64 t), (8, .int .i64 have0), (9, .int .i64 p)] w := by
  exact block_spec Tryz.func188 Tryz.mixed (stops_cons (fun σ w h => by
      obtain ⟨s_, e0, h⟩ := dP_elim h
      obtain ⟨id0_, e1, h⟩ := dI_elim h
      obtain ⟨term_, e2, h⟩ := dI_elim h
      obtain ⟨n_, e3, h⟩ := dI_elim h
      obtain ⟨t_, e4, h⟩ := dI_elim h
      obtain ⟨have0_, e5, h⟩ := dI_elim h
      obtain ⟨p_, e6, h⟩ := dI_elim h
      exact (hN2 s_ id0_ term_ n_ t_ have0_ p_ w h).weaken (Sub.cons (Sub.cons (Sub.cons (Sub.cons (Sub.cons (Sub.cons (Sub.cons (Sub.nil _) e6) e5) e4) e3) e2) e1) e0)) stops_nil) (Eq.mp (syncm_Sync_advance.B3_eq s id0 term n t have0 p w N1 N2  R ) h)
def syncm_Sync_advance.B1 (s : Option Addr) (id0 term n t have0 p : Int) (t59 : Bool) (w : World) (N1 : Option Addr → Int → Int → Int → World → Prop) (N2 : Option Addr → Int → Int → Int → Int → Int → Int → World → Prop)  (R : World → Prop) : Prop :=
  Bm t59 (
    syncm_Sync_advance.B3 s id0 term n t (IntKind.i64.wrap (have0 + (1 : Int))) p w N1 N2 R) (
    syncm_Sync_advance.B3 s id0 term n t have0 p w N1 N2 R)
theorem syncm_Sync_advance.B1_eq (s : Option Addr) (id0 term n t have0 p : Int) (t59 : Bool) (w : World) (N1 : Option Addr → Int → Int → Int → World → Prop) (N2 : Option Addr → Int → Int → Int → Int → Int → Int → World → Prop)  (R : World → Prop) (sB3 : Option Addr → Int → Int → Int → Int → Int → Int → World → Prop) :
    (
  Bm t59 (
    sB3 s id0 term n t (IntKind.i64.wrap (have0 + (1 : Int))) p w) (
    sB3 s id0 term n t have0 p w)) = kstep Tryz.prog 73 Tryz.f188.results.toList (Tryz.f188.body.getD .skip) (syncm_Sync_advance.RV R) (kvc Tryz.prog 73 Tryz.f188.results.toList (Tryz.f188.body.getD .skip) (syncm_Sync_advance.RV R) [([(0, [1, 1, 1, 1, 0, 0, 1, 0, 0, 1, 1, 0, 1, 0, 0, 1, 1]), (2, [1, 1, 1, 1, 0, 0, 1, 0, 0, 1, 1, 0, 1, 0, 0]), (1, [2]), (0, [1, 1, 1, 1, 0, 0, 1, 0, 0, 1, 1, 1]), (1, [1]), (0, [1, 1, 1, 1, 0, 0, 1, 1]), (2, [1, 1, 1, 1, 0, 0]), (1, [0])], fun σ w => dP (slotOf σ 0) fun s_ => dI .i64 (slotOf σ 2) fun id0_ => dI .i64 (slotOf σ 3) fun term_ => dI .i64 (slotOf σ 5) fun n_ => dI .i64 (slotOf σ 6) fun t_ => dI .i64 (slotOf σ 8) fun have0_ => dI .i64 (slotOf σ 9) fun p_ => sB3 s_ id0_ term_ n_ t_ have0_ p_ w)] 2000) [(0, [1, 1, 1, 1, 0, 0, 1, 0, 0, 1, 1, 0, 1, 0, 0, 1, 0, 0, 1]), (1, [3]), (0, [1, 1, 1, 1, 0, 0, 1, 0, 0, 1, 1, 0, 1, 0, 0, 1, 1]), (2, [1, 1, 1, 1, 0, 0, 1, 0, 0, 1, 1, 0, 1, 0, 0]), (1, [2]), (0, [1, 1, 1, 1, 0, 0, 1, 0, 0, 1, 1, 1]), (1, [1]), (0, [1, 1, 1, 1, 0, 0, 1, 1]), (2, [1, 1, 1, 1, 0, 0]), (1, [0])] [(0, .pointer s), (2, .int .i64 id0), (3, .int .i64 term), (5, .int .i64 n), (6, .int .i64 t), (8, .int .i64 have0), (9, .int .i64 p), (59, .bool t59)] w := by kernel_rfl
theorem syncm_Sync_advance.B1_sound {R : World → Prop} {N1 : Option Addr → Int → Int → Int → World → Prop} (hN1 : ∀ s id0 term n w, N1 s id0 term n w → KW Tryz.prog 188 73 (syncm_Sync_advance.RV R) ([(0, [1, 1, 1, 1, 0, 0]), (2, [1, 1, 1, 1, 0, 0]), (1, [0])].map (toItem (Tryz.f188.body.getD .skip))) [(0, .pointer s), (2, .int .i64 id0), (3, .int .i64 term), (5, .int .i64 n)] w) {N2 : Option Addr → Int → Int → Int → Int → Int → Int → World → Prop} (hN2 : ∀ s id0 term n t have0 p w, N2 s id0 term n t have0 p w → KW Tryz.prog 188 73 (syncm_Sync_advance.RV R) ([(0, [1, 1, 1, 1, 0, 0, 1, 0, 0, 1, 1, 0, 1, 0, 0]), (2, [1, 1, 1, 1, 0, 0, 1, 0, 0, 1, 1, 0, 1, 0, 0]), (1, [2]), (0, [1, 1, 1, 1, 0, 0, 1, 0, 0, 1, 1, 1]), (1, [1]), (0, [1, 1, 1, 1, 0, 0, 1, 1]), (2, [1, 1, 1, 1, 0, 0]), (1, [0])].map (toItem (Tryz.f188.body.getD .skip))) [(0, .pointer s), (2, .int .i64 id0), (3, .int .i64 term), (5, .int .i64 n), (6, .int .i64 t), (8, .int .i64 have0), (9, .int .i64 p)] w) (s : Option Addr) (id0 term n t have0 p : Int) (t59 : Bool) (w : World) (h : syncm_Sync_advance.B1 s id0 term n t have0 p t59 w N1 N2  R) :
    KW Tryz.prog 188 73 (syncm_Sync_advance.RV R) ([(0, [1, 1, 1, 1, 0, 0, 1, 0, 0, 1, 1, 0, 1, 0, 0, 1, 0, 0, 1]), (1, [3]), (0, [1, 1, 1, 1, 0, 0, 1, 0, 0, 1, 1, 0, 1, 0, 0, 1, 1]), (2, [1, 1, 1, 1, 0, 0, 1, 0, 0, 1, 1, 0, 1, 0, 0]), (1, [2]), (0, [1, 1, 1, 1, 0, 0, 1, 0, 0, 1, 1, 1]), (1, [1]), (0, [1, 1, 1, 1, 0, 0, 1, 1]), (2, [1, 1, 1, 1, 0, 0]), (1, [0])].map (toItem (Tryz.f188.body.getD .skip))) [(0, .pointer s), (2, .int .i64 id0), (3, .int .i64 term), (5, .int .i64 n), (6, .int .i64 t), (8, .int .i64 have0), (9, .int .i64 p), (59, .bool t59)] w := by
  exact block_spec Tryz.func188 Tryz.mixed (stops_cons (fun σ w h => by
      obtain ⟨s_, e0, h⟩ := dP_elim h
      obtain ⟨id0_, e1, h⟩ := dI_elim h
      obtain ⟨term_, e2, h⟩ := dI_elim h
      obtain ⟨n_, e3, h⟩ := dI_elim h
      obtain ⟨t_, e4, h⟩ := dI_elim h
      obtain ⟨have0_, e5, h⟩ := dI_elim h
      obtain ⟨p_, e6, h⟩ := dI_elim h
      exact (syncm_Sync_advance.B3_sound hN1 hN2 s_ id0_ term_ n_ t_ have0_ p_ w h).weaken (Sub.cons (Sub.cons (Sub.cons (Sub.cons (Sub.cons (Sub.cons (Sub.cons (Sub.nil _) e6) e5) e4) e3) e2) e1) e0)) stops_nil) (Eq.mp (syncm_Sync_advance.B1_eq s id0 term n t have0 p t59 w N1 N2  R (fun s_ id0_ term_ n_ t_ have0_ p_ w => syncm_Sync_advance.B3 s_ id0_ term_ n_ t_ have0_ p_ w N1 N2 R)) h)
def syncm_Sync_advance.B2 (s : Option Addr) (id0 term n : Int) (t68 : Bool) (w : World) (N1 : Option Addr → Int → Int → Int → World → Prop)  (R : World → Prop) : Prop :=
  Bm t68 (
    Pn s fun a =>
    Sts [.int .i64 n] (a.add 2) 0 w fun w1 =>
    R  w1) (
    N1 s id0 term (IntKind.i64.wrap (n - (1 : Int))) w)
theorem syncm_Sync_advance.B2_eq (s : Option Addr) (id0 term n : Int) (t68 : Bool) (w : World) (N1 : Option Addr → Int → Int → Int → World → Prop)  (R : World → Prop)  :
    (
  Bm t68 (
    Pn s fun a =>
    Sts [.int .i64 n] (a.add 2) 0 w fun w1 =>
    R  w1) (
    N1 s id0 term (IntKind.i64.wrap (n - (1 : Int))) w)) = kstep Tryz.prog 73 Tryz.f188.results.toList (Tryz.f188.body.getD .skip) (syncm_Sync_advance.RV R) (kvc Tryz.prog 73 Tryz.f188.results.toList (Tryz.f188.body.getD .skip) (syncm_Sync_advance.RV R) [([(0, [1, 1, 1, 1, 0, 0]), (2, [1, 1, 1, 1, 0, 0]), (1, [0])], fun σ w => dP (slotOf σ 0) fun s_ => dI .i64 (slotOf σ 2) fun id0_ => dI .i64 (slotOf σ 3) fun term_ => dI .i64 (slotOf σ 5) fun n_ => N1 s_ id0_ term_ n_ w)] 2000) [(0, [1, 1, 1, 1, 0, 0, 1, 0, 0, 1, 1, 1, 1]), (1, [1]), (0, [1, 1, 1, 1, 0, 0, 1, 1]), (2, [1, 1, 1, 1, 0, 0]), (1, [0])] [(0, .pointer s), (2, .int .i64 id0), (3, .int .i64 term), (5, .int .i64 n), (68, .bool t68)] w := by kernel_rfl
theorem syncm_Sync_advance.B2_sound {R : World → Prop} {N1 : Option Addr → Int → Int → Int → World → Prop} (hN1 : ∀ s id0 term n w, N1 s id0 term n w → KW Tryz.prog 188 73 (syncm_Sync_advance.RV R) ([(0, [1, 1, 1, 1, 0, 0]), (2, [1, 1, 1, 1, 0, 0]), (1, [0])].map (toItem (Tryz.f188.body.getD .skip))) [(0, .pointer s), (2, .int .i64 id0), (3, .int .i64 term), (5, .int .i64 n)] w) (s : Option Addr) (id0 term n : Int) (t68 : Bool) (w : World) (h : syncm_Sync_advance.B2 s id0 term n t68 w N1  R) :
    KW Tryz.prog 188 73 (syncm_Sync_advance.RV R) ([(0, [1, 1, 1, 1, 0, 0, 1, 0, 0, 1, 1, 1, 1]), (1, [1]), (0, [1, 1, 1, 1, 0, 0, 1, 1]), (2, [1, 1, 1, 1, 0, 0]), (1, [0])].map (toItem (Tryz.f188.body.getD .skip))) [(0, .pointer s), (2, .int .i64 id0), (3, .int .i64 term), (5, .int .i64 n), (68, .bool t68)] w := by
  exact block_spec Tryz.func188 Tryz.mixed (stops_cons (fun σ w h => by
      obtain ⟨s_, e0, h⟩ := dP_elim h
      obtain ⟨id0_, e1, h⟩ := dI_elim h
      obtain ⟨term_, e2, h⟩ := dI_elim h
      obtain ⟨n_, e3, h⟩ := dI_elim h
      exact (hN1 s_ id0_ term_ n_ w h).weaken (Sub.cons (Sub.cons (Sub.cons (Sub.cons (Sub.nil _) e3) e2) e1) e0)) stops_nil) (Eq.mp (syncm_Sync_advance.B2_eq s id0 term n t68 w N1  R ) h)
def syncm_Sync_advance.L2b (s : Option Addr) (id0 term n t have0 p : Int) (w : World) (N1 : Option Addr → Int → Int → Int → World → Prop) (N2 : Option Addr → Int → Int → Int → Int → Int → Int → World → Prop) (R : World → Prop) : Prop :=
  Bm (decide (p < (3 : Int))) (
    Bm (p != id0) (
      Pn s fun a =>
      (0 ≤ p ∧ p < ((3 : Nat) : Int)) ∧
      LdI .i64 (Addr.add (a.add 6) (p.toNat * 1)) w fun x56 =>
      syncm_Sync_advance.B1 s id0 term n t have0 p (decide (x56 ≥ n)) w N1 N2 R) (
      syncm_Sync_advance.B1 s id0 term n t have0 p false w N1 N2 R)) (
    Bm (t == term) (
      syncm_Sync_advance.B2 s id0 term n (decide (have0 ≥ (2 : Int))) w N1 R) (
      syncm_Sync_advance.B2 s id0 term n false w N1 R))
theorem syncm_Sync_advance.L2b_eq (s : Option Addr) (id0 term n t have0 p : Int) (w : World) (N1 : Option Addr → Int → Int → Int → World → Prop) (N2 : Option Addr → Int → Int → Int → Int → Int → Int → World → Prop) (R : World → Prop) (sB1 : Option Addr → Int → Int → Int → Int → Int → Int → Bool → World → Prop) (sB2 : Option Addr → Int → Int → Int → Bool → World → Prop) :
    (
  Bm (decide (p < (3 : Int))) (
    Bm (p != id0) (
      Pn s fun a =>
      (0 ≤ p ∧ p < ((3 : Nat) : Int)) ∧
      LdI .i64 (Addr.add (a.add 6) (p.toNat * 1)) w fun x56 =>
      sB1 s id0 term n t have0 p (decide (x56 ≥ n)) w) (
      sB1 s id0 term n t have0 p false w)) (
    Bm (t == term) (
      sB2 s id0 term n (decide (have0 ≥ (2 : Int))) w) (
      sB2 s id0 term n false w))) = kstep Tryz.prog 73 Tryz.f188.results.toList (Tryz.f188.body.getD .skip) (syncm_Sync_advance.RV R) (kvc Tryz.prog 73 Tryz.f188.results.toList (Tryz.f188.body.getD .skip) (syncm_Sync_advance.RV R) [([(0, [1, 1, 1, 1, 0, 0, 1, 0, 0, 1, 1, 0, 1, 0, 0, 1, 0, 0, 1]), (1, [3]), (0, [1, 1, 1, 1, 0, 0, 1, 0, 0, 1, 1, 0, 1, 0, 0, 1, 1]), (2, [1, 1, 1, 1, 0, 0, 1, 0, 0, 1, 1, 0, 1, 0, 0]), (1, [2]), (0, [1, 1, 1, 1, 0, 0, 1, 0, 0, 1, 1, 1]), (1, [1]), (0, [1, 1, 1, 1, 0, 0, 1, 1]), (2, [1, 1, 1, 1, 0, 0]), (1, [0])], fun σ w => dP (slotOf σ 0) fun s_ => dI .i64 (slotOf σ 2) fun id0_ => dI .i64 (slotOf σ 3) fun term_ => dI .i64 (slotOf σ 5) fun n_ => dI .i64 (slotOf σ 6) fun t_ => dI .i64 (slotOf σ 8) fun have0_ => dI .i64 (slotOf σ 9) fun p_ => dB (slotOf σ 59) fun t59_ => sB1 s_ id0_ term_ n_ t_ have0_ p_ t59_ w),
    ([(0, [1, 1, 1, 1, 0, 0, 1, 0, 0, 1, 1, 1, 1]), (1, [1]), (0, [1, 1, 1, 1, 0, 0, 1, 1]), (2, [1, 1, 1, 1, 0, 0]), (1, [0])], fun σ w => dP (slotOf σ 0) fun s_ => dI .i64 (slotOf σ 2) fun id0_ => dI .i64 (slotOf σ 3) fun term_ => dI .i64 (slotOf σ 5) fun n_ => dB (slotOf σ 68) fun t68_ => sB2 s_ id0_ term_ n_ t68_ w)] 2000) [(0, [1, 1, 1, 1, 0, 0, 1, 0, 0, 1, 1, 0, 1, 0, 0]), (2, [1, 1, 1, 1, 0, 0, 1, 0, 0, 1, 1, 0, 1, 0, 0]), (1, [2]), (0, [1, 1, 1, 1, 0, 0, 1, 0, 0, 1, 1, 1]), (1, [1]), (0, [1, 1, 1, 1, 0, 0, 1, 1]), (2, [1, 1, 1, 1, 0, 0]), (1, [0])] [(0, .pointer s), (2, .int .i64 id0), (3, .int .i64 term), (5, .int .i64 n), (6, .int .i64 t), (8, .int .i64 have0), (9, .int .i64 p)] w := by kernel_rfl
theorem syncm_Sync_advance.L2b_sound {R : World → Prop} {N1 : Option Addr → Int → Int → Int → World → Prop} (hN1 : ∀ s id0 term n w, N1 s id0 term n w → KW Tryz.prog 188 73 (syncm_Sync_advance.RV R) ([(0, [1, 1, 1, 1, 0, 0]), (2, [1, 1, 1, 1, 0, 0]), (1, [0])].map (toItem (Tryz.f188.body.getD .skip))) [(0, .pointer s), (2, .int .i64 id0), (3, .int .i64 term), (5, .int .i64 n)] w) {N2 : Option Addr → Int → Int → Int → Int → Int → Int → World → Prop} (hN2 : ∀ s id0 term n t have0 p w, N2 s id0 term n t have0 p w → KW Tryz.prog 188 73 (syncm_Sync_advance.RV R) ([(0, [1, 1, 1, 1, 0, 0, 1, 0, 0, 1, 1, 0, 1, 0, 0]), (2, [1, 1, 1, 1, 0, 0, 1, 0, 0, 1, 1, 0, 1, 0, 0]), (1, [2]), (0, [1, 1, 1, 1, 0, 0, 1, 0, 0, 1, 1, 1]), (1, [1]), (0, [1, 1, 1, 1, 0, 0, 1, 1]), (2, [1, 1, 1, 1, 0, 0]), (1, [0])].map (toItem (Tryz.f188.body.getD .skip))) [(0, .pointer s), (2, .int .i64 id0), (3, .int .i64 term), (5, .int .i64 n), (6, .int .i64 t), (8, .int .i64 have0), (9, .int .i64 p)] w) (s : Option Addr) (id0 term n t have0 p : Int) (w : World) (h : syncm_Sync_advance.L2b s id0 term n t have0 p w N1 N2 R) :
    KW Tryz.prog 188 73 (syncm_Sync_advance.RV R) ([(0, [1, 1, 1, 1, 0, 0, 1, 0, 0, 1, 1, 0, 1, 0, 0]), (2, [1, 1, 1, 1, 0, 0, 1, 0, 0, 1, 1, 0, 1, 0, 0]), (1, [2]), (0, [1, 1, 1, 1, 0, 0, 1, 0, 0, 1, 1, 1]), (1, [1]), (0, [1, 1, 1, 1, 0, 0, 1, 1]), (2, [1, 1, 1, 1, 0, 0]), (1, [0])].map (toItem (Tryz.f188.body.getD .skip))) [(0, .pointer s), (2, .int .i64 id0), (3, .int .i64 term), (5, .int .i64 n), (6, .int .i64 t), (8, .int .i64 have0), (9, .int .i64 p)] w := by
  exact block_spec Tryz.func188 Tryz.mixed (stops_cons (fun σ w h => by
      obtain ⟨s_, e0, h⟩ := dP_elim h
      obtain ⟨id0_, e1, h⟩ := dI_elim h
      obtain ⟨term_, e2, h⟩ := dI_elim h
      obtain ⟨n_, e3, h⟩ := dI_elim h
      obtain ⟨t_, e4, h⟩ := dI_elim h
      obtain ⟨have0_, e5, h⟩ := dI_elim h
      obtain ⟨p_, e6, h⟩ := dI_elim h
      obtain ⟨t59_, e7, h⟩ := dB_elim h
      exact (syncm_Sync_advance.B1_sound hN1 hN2 s_ id0_ term_ n_ t_ have0_ p_ t59_ w h).weaken (Sub.cons (Sub.cons (Sub.cons (Sub.cons (Sub.cons (Sub.cons (Sub.cons (Sub.cons (Sub.nil _) e7) e6) e5) e4) e3) e2) e1) e0)) (stops_cons (fun σ w h => by
      obtain ⟨s_, e0, h⟩ := dP_elim h
      obtain ⟨id0_, e1, h⟩ := dI_elim h
      obtain ⟨term_, e2, h⟩ := dI_elim h
      obtain ⟨n_, e3, h⟩ := dI_elim h
      obtain ⟨t68_, e4, h⟩ := dB_elim h
      exact (syncm_Sync_advance.B2_sound hN1 s_ id0_ term_ n_ t68_ w h).weaken (Sub.cons (Sub.cons (Sub.cons (Sub.cons (Sub.cons (Sub.nil _) e4) e3) e2) e1) e0)) stops_nil)) (Eq.mp (syncm_Sync_advance.L2b_eq s id0 term n t have0 p w N1 N2 R (fun s_ id0_ term_ n_ t_ have0_ p_ t59_ w => syncm_Sync_advance.B1 s_ id0_ term_ n_ t_ have0_ p_ t59_ w N1 N2 R) (fun s_ id0_ term_ n_ t68_ w => syncm_Sync_advance.B2 s_ id0_ term_ n_ t68_ w N1 R)) h)
def syncm_Sync_advance.L2 (s : Option Addr) (id0 term n t have0 p : Int) (w : World) (N1 : Option Addr → Int → Int → Int → World → Prop) (R : World → Prop) : Prop :=
  ∃ (I : Nat → Option Addr → Int → Int → Int → Int → Int → Int → World → Prop) (m : Nat), I m s id0 term n t have0 p w ∧ ∀ m s id0 term n t have0 p w, I m s id0 term n t have0 p w → syncm_Sync_advance.L2b s id0 term n t have0 p w N1 (fun s' id0' term' n' t' have0' p' w' => ∃ m', m' < m ∧ I m' s' id0' term' n' t' have0' p' w') R
theorem syncm_Sync_advance.L2_sound {R : World → Prop} {N1 : Option Addr → Int → Int → Int → World → Prop} (hN1 : ∀ s id0 term n w, N1 s id0 term n w → KW Tryz.prog 188 73 (syncm_Sync_advance.RV R) ([(0, [1, 1, 1, 1, 0, 0]), (2, [1, 1, 1, 1, 0, 0]), (1, [0])].map (toItem (Tryz.f188.body.getD .skip))) [(0, .pointer s), (2, .int .i64 id0), (3, .int .i64 term), (5, .int .i64 n)] w) (s : Option Addr) (id0 term n t have0 p : Int) (w : World) (h : syncm_Sync_advance.L2 s id0 term n t have0 p w N1 R) :
    KW Tryz.prog 188 73 (syncm_Sync_advance.RV R) ([(0, [1, 1, 1, 1, 0, 0, 1, 0, 0, 1, 1, 0, 1, 0, 0]), (2, [1, 1, 1, 1, 0, 0, 1, 0, 0, 1, 1, 0, 1, 0, 0]), (1, [2]), (0, [1, 1, 1, 1, 0, 0, 1, 0, 0, 1, 1, 1]), (1, [1]), (0, [1, 1, 1, 1, 0, 0, 1, 1]), (2, [1, 1, 1, 1, 0, 0]), (1, [0])].map (toItem (Tryz.f188.body.getD .skip))) [(0, .pointer s), (2, .int .i64 id0), (3, .int .i64 term), (5, .int .i64 n), (6, .int .i64 t), (8, .int .i64 have0), (9, .int .i64 p)] w := by
  obtain ⟨I, m, hBase, hr⟩ := h
  refine KW.loop (fun m σ w => ∃ (s : Option Addr) (id0 term n t have0 p : Int), σ = [(0, .pointer s), (2, .int .i64 id0), (3, .int .i64 term), (5, .int .i64 n), (6, .int .i64 t), (8, .int .i64 have0), (9, .int .i64 p)] ∧ I m s id0 term n t have0 p w) ?_ m _ w ⟨s, id0, term, n, t, have0, p, rfl, hBase⟩
  rintro m ih σ w ⟨s, id0, term, n, t, have0, p, rfl, hI⟩
  exact syncm_Sync_advance.L2b_sound hN1 (N2 := fun s' id0' term' n' t' have0' p' w' => ∃ m', m' < m ∧ I m' s' id0' term' n' t' have0' p' w') (fun s' id0' term' n' t' have0' p' w' hx => by obtain ⟨m', hlt, hI'⟩ := hx; exact ih m' hlt _ w' ⟨s', id0', term', n', t', have0', p', rfl, hI'⟩) s id0 term n t have0 p w (hr m s id0 term n t have0 p w hI)
def syncm_Sync_advance.L1b (s : Option Addr) (id0 term n : Int) (w : World)  (N1 : Option Addr → Int → Int → Int → World → Prop) (R : World → Prop) : Prop :=
  Pn s fun a =>
  LdI .i64 (a.add 2) w fun x30 =>
  Bm (decide (n > x30)) (
    Pn s fun a_1 =>
    LdP a_1 w fun x38 =>
    rlogm_Log_TermAt.Call x38 n w fun r40_0 r40_1 w1 =>
    syncm_Sync_advance.L2 s id0 term n r40_0 (1 : Int) (0 : Int) w1 N1 R) (
    R  w)
theorem syncm_Sync_advance.L1b_eq (s : Option Addr) (id0 term n : Int) (w : World)  (N1 : Option Addr → Int → Int → Int → World → Prop) (R : World → Prop) (sL2 : Option Addr → Int → Int → Int → Int → Int → Int → World → Prop) :
    (
  Pn s fun a =>
  LdI .i64 (a.add 2) w fun x30 =>
  Bm (decide (n > x30)) (
    Pn s fun a_1 =>
    LdP a_1 w fun x38 =>
    rlogm_Log_TermAt.Call x38 n w fun r40_0 r40_1 w1 =>
    sL2 s id0 term n r40_0 (1 : Int) (0 : Int) w1) (
    R  w)) = kstep Tryz.prog 73 Tryz.f188.results.toList (Tryz.f188.body.getD .skip) (syncm_Sync_advance.RV R) (kvc Tryz.prog 73 Tryz.f188.results.toList (Tryz.f188.body.getD .skip) (syncm_Sync_advance.RV R) [([(0, [1, 1, 1, 1, 0, 0, 1, 0, 0, 1, 1, 0, 1, 0, 0]), (2, [1, 1, 1, 1, 0, 0, 1, 0, 0, 1, 1, 0, 1, 0, 0]), (1, [2]), (0, [1, 1, 1, 1, 0, 0, 1, 0, 0, 1, 1, 1]), (1, [1]), (0, [1, 1, 1, 1, 0, 0, 1, 1]), (2, [1, 1, 1, 1, 0, 0]), (1, [0])], fun σ w => dP (slotOf σ 0) fun s_ => dI .i64 (slotOf σ 2) fun id0_ => dI .i64 (slotOf σ 3) fun term_ => dI .i64 (slotOf σ 5) fun n_ => dI .i64 (slotOf σ 6) fun t_ => dI .i64 (slotOf σ 8) fun have0_ => dI .i64 (slotOf σ 9) fun p_ => sL2 s_ id0_ term_ n_ t_ have0_ p_ w)] 2000) [(0, [1, 1, 1, 1, 0, 0]), (2, [1, 1, 1, 1, 0, 0]), (1, [0])] [(0, .pointer s), (2, .int .i64 id0), (3, .int .i64 term), (5, .int .i64 n)] w := by kernel_rfl
theorem syncm_Sync_advance.L1b_sound {R : World → Prop} {N1 : Option Addr → Int → Int → Int → World → Prop} (hN1 : ∀ s id0 term n w, N1 s id0 term n w → KW Tryz.prog 188 73 (syncm_Sync_advance.RV R) ([(0, [1, 1, 1, 1, 0, 0]), (2, [1, 1, 1, 1, 0, 0]), (1, [0])].map (toItem (Tryz.f188.body.getD .skip))) [(0, .pointer s), (2, .int .i64 id0), (3, .int .i64 term), (5, .int .i64 n)] w) (s : Option Addr) (id0 term n : Int) (w : World) (h : syncm_Sync_advance.L1b s id0 term n w  N1 R) :
    KW Tryz.prog 188 73 (syncm_Sync_advance.RV R) ([(0, [1, 1, 1, 1, 0, 0]), (2, [1, 1, 1, 1, 0, 0]), (1, [0])].map (toItem (Tryz.f188.body.getD .skip))) [(0, .pointer s), (2, .int .i64 id0), (3, .int .i64 term), (5, .int .i64 n)] w := by
  exact block_spec Tryz.func188 Tryz.mixed (stops_cons (fun σ w h => by
      obtain ⟨s_, e0, h⟩ := dP_elim h
      obtain ⟨id0_, e1, h⟩ := dI_elim h
      obtain ⟨term_, e2, h⟩ := dI_elim h
      obtain ⟨n_, e3, h⟩ := dI_elim h
      obtain ⟨t_, e4, h⟩ := dI_elim h
      obtain ⟨have0_, e5, h⟩ := dI_elim h
      obtain ⟨p_, e6, h⟩ := dI_elim h
      exact (syncm_Sync_advance.L2_sound hN1 s_ id0_ term_ n_ t_ have0_ p_ w h).weaken (Sub.cons (Sub.cons (Sub.cons (Sub.cons (Sub.cons (Sub.cons (Sub.cons (Sub.nil _) e6) e5) e4) e3) e2) e1) e0)) stops_nil) (Eq.mp (syncm_Sync_advance.L1b_eq s id0 term n w  N1 R (fun s_ id0_ term_ n_ t_ have0_ p_ w => syncm_Sync_advance.L2 s_ id0_ term_ n_ t_ have0_ p_ w N1 R)) h)
def syncm_Sync_advance.L1 (s : Option Addr) (id0 term n : Int) (w : World)  (R : World → Prop) : Prop :=
  ∃ (I : Nat → Option Addr → Int → Int → Int → World → Prop) (m : Nat), I m s id0 term n w ∧ ∀ m s id0 term n w, I m s id0 term n w → syncm_Sync_advance.L1b s id0 term n w  (fun s' id0' term' n' w' => ∃ m', m' < m ∧ I m' s' id0' term' n' w') R
theorem syncm_Sync_advance.L1_sound {R : World → Prop}  (s : Option Addr) (id0 term n : Int) (w : World) (h : syncm_Sync_advance.L1 s id0 term n w  R) :
    KW Tryz.prog 188 73 (syncm_Sync_advance.RV R) ([(0, [1, 1, 1, 1, 0, 0]), (2, [1, 1, 1, 1, 0, 0]), (1, [0])].map (toItem (Tryz.f188.body.getD .skip))) [(0, .pointer s), (2, .int .i64 id0), (3, .int .i64 term), (5, .int .i64 n)] w := by
  obtain ⟨I, m, hBase, hr⟩ := h
  refine KW.loop (fun m σ w => ∃ (s : Option Addr) (id0 term n : Int), σ = [(0, .pointer s), (2, .int .i64 id0), (3, .int .i64 term), (5, .int .i64 n)] ∧ I m s id0 term n w) ?_ m _ w ⟨s, id0, term, n, rfl, hBase⟩
  rintro m ih σ w ⟨s, id0, term, n, rfl, hI⟩
  exact syncm_Sync_advance.L1b_sound  (N1 := fun s' id0' term' n' w' => ∃ m', m' < m ∧ I m' s' id0' term' n' w') (fun s' id0' term' n' w' hx => by obtain ⟨m', hlt, hI'⟩ := hx; exact ih m' hlt _ w' ⟨s', id0', term', n', rfl, hI'⟩) s id0 term n w (hr m s id0 term n w hI)
def syncm_Sync_advance.B0 (s : Option Addr) (w : World)   (R : World → Prop) : Prop :=
  Pn s fun a =>
  LdP (a.add 1) w fun x13 =>
  electm_Elect_Id.Call x13 w fun r14 w1 =>
  Pn s fun a_1 =>
  LdP (a_1.add 1) w1 fun x18 =>
  electm_Elect_Term.Call x18 w1 fun r19 w2 =>
  Pn s fun a_2 =>
  LdP a_2 w2 fun x23 =>
  rlogm_Log_Last.Call x23 w2 fun r24 w3 =>
  syncm_Sync_advance.L1 s r14 r19 r24 w3  R
theorem syncm_Sync_advance.B0_eq (s : Option Addr) (w : World)   (R : World → Prop) (sL1 : Option Addr → Int → Int → Int → World → Prop) :
    (
  Pn s fun a =>
  LdP (a.add 1) w fun x13 =>
  electm_Elect_Id.Call x13 w fun r14 w1 =>
  Pn s fun a_1 =>
  LdP (a_1.add 1) w1 fun x18 =>
  electm_Elect_Term.Call x18 w1 fun r19 w2 =>
  Pn s fun a_2 =>
  LdP a_2 w2 fun x23 =>
  rlogm_Log_Last.Call x23 w2 fun r24 w3 =>
  sL1 s r14 r19 r24 w3) = kstep Tryz.prog 73 Tryz.f188.results.toList (Tryz.f188.body.getD .skip) (syncm_Sync_advance.RV R) (kvc Tryz.prog 73 Tryz.f188.results.toList (Tryz.f188.body.getD .skip) (syncm_Sync_advance.RV R) [([(0, [1, 1, 1, 1, 0, 0]), (2, [1, 1, 1, 1, 0, 0]), (1, [0])], fun σ w => dP (slotOf σ 0) fun s_ => dI .i64 (slotOf σ 2) fun id0_ => dI .i64 (slotOf σ 3) fun term_ => dI .i64 (slotOf σ 5) fun n_ => sL1 s_ id0_ term_ n_ w)] 2000) [(0, [])] [(0, .pointer s)] w := by kernel_rfl
theorem syncm_Sync_advance.B0_sound {R : World → Prop}  (s : Option Addr) (w : World) (h : syncm_Sync_advance.B0 s w   R) :
    KW Tryz.prog 188 73 (syncm_Sync_advance.RV R) ([(0, [])].map (toItem (Tryz.f188.body.getD .skip))) [(0, .pointer s)] w := by
  exact block_spec Tryz.func188 Tryz.mixed (stops_cons (fun σ w h => by
      obtain ⟨s_, e0, h⟩ := dP_elim h
      obtain ⟨id0_, e1, h⟩ := dI_elim h
      obtain ⟨term_, e2, h⟩ := dI_elim h
      obtain ⟨n_, e3, h⟩ := dI_elim h
      exact (syncm_Sync_advance.L1_sound  s_ id0_ term_ n_ w h).weaken (Sub.cons (Sub.cons (Sub.cons (Sub.cons (Sub.nil _) e3) e2) e1) e0)) stops_nil) (Eq.mp (syncm_Sync_advance.B0_eq s w   R (fun s_ id0_ term_ n_ w => syncm_Sync_advance.L1 s_ id0_ term_ n_ w  R)) h)
theorem syncm_Sync_advance.sound (s : Option Addr) (w : World) (R : World → Prop) (h : syncm_Sync_advance.B0 s w R) : syncm_Sync_advance.Call s w R := by
  have hc := calls_of_block (args := #[.pointer s]) Tryz.func188 (body := (Tryz.f188.body.getD .skip)) (by kernel_rfl) (by kernel_rfl) (args_slot _) (syncm_Sync_advance.B0_sound s w h)
  exact hc.mono fun e w' he => by
    obtain ⟨v, rfl, hv⟩ := he
    exact syncm_Sync_advance.RV_elim hv
def syncm_Sync_send.B1 (s : Option Addr) (p : Int) (t4 : Nat) (last : Int) (m0 : Nat) (i : Int) (t109 : Bool) (w : World) (N1 : Option Addr → Int → Nat → Int → Nat → Int → World → Prop)  (R : Int → Int → Int → Int → Int → Int → Int → Bool → Option Addr → Nat → Nat → ByteArray → World → Prop) : Prop :=
  Bm t109 (
    Pn s fun a =>
    LdP a w fun x116 =>
    rlogm_Log_At.Call x116 i w fun r118_0_0 r118_0_1 r118_1 w1 =>
    New (.cells #[.int .i64 (0 : Int), .string (ByteArray.mk #[])] 155) w1 fun e_ w2 =>
    Sts [.int .i64 r118_0_0, .string r118_0_1] ⟨e_, 0, none⟩ 0 w2 fun w3 =>
    LdL ⟨m0, 8, none⟩ w3 fun x122_b x122_l x122_c =>
    LdI .i64 ⟨e_, 0, none⟩ w3 fun x123_0 =>
    LdS ⟨e_, 1, none⟩ w3 fun x123_1 =>
    New (.cells #[.int .i64 x123_0, .string x123_1] 155) w3 fun b124 w4 =>
    Append 155 (.agg #[.int .i64 (0 : Int), .string (ByteArray.mk #[])]) 2 24 x122_b x122_l x122_c (some ⟨b124, 0, none⟩) 1 w4 fun b125 c125 w5 =>
    Sts [.slice b125 (x122_l + 1) c125] ⟨m0, 8, none⟩ 0 w5 fun w6 =>
    N1 s p t4 last m0 (IntKind.i64.wrap (i + (1 : Int))) w6) (
    LdI .i64 ⟨m0, 0, none⟩ w fun x127_0 =>
    LdI .i64 ⟨m0, 1, none⟩ w fun x127_1 =>
    LdI .i64 ⟨m0, 2, none⟩ w fun x127_2 =>
    LdI .i64 ⟨m0, 3, none⟩ w fun x127_3 =>
    LdI .i64 ⟨m0, 4, none⟩ w fun x127_4 =>
    LdI .i64 ⟨m0, 5, none⟩ w fun x127_5 =>
    LdI .i64 ⟨m0, 6, none⟩ w fun x127_6 =>
    LdB ⟨m0, 7, none⟩ w fun x127_7 =>
    LdL ⟨m0, 8, none⟩ w fun x127_8_b x127_8_l x127_8_c =>
    LdS ⟨m0, 9, none⟩ w fun x127_9 =>
    Sts [.int .i64 x127_0, .int .i64 x127_1, .int .i64 x127_2, .int .i64 x127_3, .int .i64 x127_4, .int .i64 x127_5, .int .i64 x127_6, .bool x127_7, .slice x127_8_b x127_8_l x127_8_c, .string x127_9] ⟨t4, 0, none⟩ 0 w fun w7 =>
    LdI .i64 ⟨t4, 0, none⟩ w7 fun r_0 =>
    LdI .i64 ⟨t4, 1, none⟩ w7 fun r_1 =>
    LdI .i64 ⟨t4, 2, none⟩ w7 fun r_2 =>
    LdI .i64 ⟨t4, 3, none⟩ w7 fun r_3 =>
    LdI .i64 ⟨t4, 4, none⟩ w7 fun r_4 =>
    LdI .i64 ⟨t4, 5, none⟩ w7 fun r_5 =>
    LdI .i64 ⟨t4, 6, none⟩ w7 fun r_6 =>
    LdB ⟨t4, 7, none⟩ w7 fun r_7 =>
    LdL ⟨t4, 8, none⟩ w7 fun r_8_b r_8_l r_8_c =>
    LdS ⟨t4, 9, none⟩ w7 fun r_9 =>
    R r_0 r_1 r_2 r_3 r_4 r_5 r_6 r_7 r_8_b r_8_l r_8_c r_9 w7)
theorem syncm_Sync_send.B1_eq (s : Option Addr) (p : Int) (t4 : Nat) (last : Int) (m0 : Nat) (i : Int) (t109 : Bool) (w : World) (N1 : Option Addr → Int → Nat → Int → Nat → Int → World → Prop)  (R : Int → Int → Int → Int → Int → Int → Int → Bool → Option Addr → Nat → Nat → ByteArray → World → Prop)  :
    (
  Bm t109 (
    Pn s fun a =>
    LdP a w fun x116 =>
    rlogm_Log_At.Call x116 i w fun r118_0_0 r118_0_1 r118_1 w1 =>
    New (.cells #[.int .i64 (0 : Int), .string (ByteArray.mk #[])] 155) w1 fun e_ w2 =>
    Sts [.int .i64 r118_0_0, .string r118_0_1] ⟨e_, 0, none⟩ 0 w2 fun w3 =>
    LdL ⟨m0, 8, none⟩ w3 fun x122_b x122_l x122_c =>
    LdI .i64 ⟨e_, 0, none⟩ w3 fun x123_0 =>
    LdS ⟨e_, 1, none⟩ w3 fun x123_1 =>
    New (.cells #[.int .i64 x123_0, .string x123_1] 155) w3 fun b124 w4 =>
    Append 155 (.agg #[.int .i64 (0 : Int), .string (ByteArray.mk #[])]) 2 24 x122_b x122_l x122_c (some ⟨b124, 0, none⟩) 1 w4 fun b125 c125 w5 =>
    Sts [.slice b125 (x122_l + 1) c125] ⟨m0, 8, none⟩ 0 w5 fun w6 =>
    N1 s p t4 last m0 (IntKind.i64.wrap (i + (1 : Int))) w6) (
    LdI .i64 ⟨m0, 0, none⟩ w fun x127_0 =>
    LdI .i64 ⟨m0, 1, none⟩ w fun x127_1 =>
    LdI .i64 ⟨m0, 2, none⟩ w fun x127_2 =>
    LdI .i64 ⟨m0, 3, none⟩ w fun x127_3 =>
    LdI .i64 ⟨m0, 4, none⟩ w fun x127_4 =>
    LdI .i64 ⟨m0, 5, none⟩ w fun x127_5 =>
    LdI .i64 ⟨m0, 6, none⟩ w fun x127_6 =>
    LdB ⟨m0, 7, none⟩ w fun x127_7 =>
    LdL ⟨m0, 8, none⟩ w fun x127_8_b x127_8_l x127_8_c =>
    LdS ⟨m0, 9, none⟩ w fun x127_9 =>
    Sts [.int .i64 x127_0, .int .i64 x127_1, .int .i64 x127_2, .int .i64 x127_3, .int .i64 x127_4, .int .i64 x127_5, .int .i64 x127_6, .bool x127_7, .slice x127_8_b x127_8_l x127_8_c, .string x127_9] ⟨t4, 0, none⟩ 0 w fun w7 =>
    LdI .i64 ⟨t4, 0, none⟩ w7 fun r_0 =>
    LdI .i64 ⟨t4, 1, none⟩ w7 fun r_1 =>
    LdI .i64 ⟨t4, 2, none⟩ w7 fun r_2 =>
    LdI .i64 ⟨t4, 3, none⟩ w7 fun r_3 =>
    LdI .i64 ⟨t4, 4, none⟩ w7 fun r_4 =>
    LdI .i64 ⟨t4, 5, none⟩ w7 fun r_5 =>
    LdI .i64 ⟨t4, 6, none⟩ w7 fun r_6 =>
    LdB ⟨t4, 7, none⟩ w7 fun r_7 =>
    LdL ⟨t4, 8, none⟩ w7 fun r_8_b r_8_l r_8_c =>
    LdS ⟨t4, 9, none⟩ w7 fun r_9 =>
    R r_0 r_1 r_2 r_3 r_4 r_5 r_6 r_7 r_8_b r_8_l r_8_c r_9 w7)) = kstep Tryz.prog 128 Tryz.f189.results.toList (Tryz.f189.body.getD .skip) (syncm_Sync_send.RV R) (kvc Tryz.prog 128 Tryz.f189.results.toList (Tryz.f189.body.getD .skip) (syncm_Sync_send.RV R) [([(0, [1, 1, 1, 1, 1, 1, 1, 1, 1, 0, 1, 0, 0]), (2, [1, 1, 1, 1, 1, 1, 1, 1, 1, 0, 1, 0, 0]), (1, [0]), (0, [1, 1, 1, 1, 1, 1, 1, 1, 1, 1])], fun σ w => dP (slotOf σ 0) fun s_ => dI .i64 (slotOf σ 1) fun p_ => dK (slotOf σ 4) fun t4_ => dI .i64 (slotOf σ 8) fun last_ => dK (slotOf σ 9) fun m0_ => dI .i64 (slotOf σ 12) fun i_ => N1 s_ p_ t4_ last_ m0_ i_ w)] 2000) [(0, [1, 1, 1, 1, 1, 1, 1, 1, 1, 0, 1, 0, 0, 0, 1]), (0, [1, 1, 1, 1, 1, 1, 1, 1, 1, 0, 1, 0, 0, 1]), (2, [1, 1, 1, 1, 1, 1, 1, 1, 1, 0, 1, 0, 0]), (1, [0]), (0, [1, 1, 1, 1, 1, 1, 1, 1, 1, 1])] [(0, .pointer s), (1, .int .i64 p), (4, .pointer (some ⟨t4, 0, none⟩)), (8, .int .i64 last), (9, .pointer (some ⟨m0, 0, none⟩)), (12, .int .i64 i), (109, .bool t109)] w := by kernel_rfl
theorem syncm_Sync_send.B1_sound {R : Int → Int → Int → Int → Int → Int → Int → Bool → Option Addr → Nat → Nat → ByteArray → World → Prop} {N1 : Option Addr → Int → Nat → Int → Nat → Int → World → Prop} (hN1 : ∀ s p t4 last m0 i w, N1 s p t4 last m0 i w → KW Tryz.prog 189 128 (syncm_Sync_send.RV R) ([(0, [1, 1, 1, 1, 1, 1, 1, 1, 1, 0, 1, 0, 0]), (2, [1, 1, 1, 1, 1, 1, 1, 1, 1, 0, 1, 0, 0]), (1, [0]), (0, [1, 1, 1, 1, 1, 1, 1, 1, 1, 1])].map (toItem (Tryz.f189.body.getD .skip))) [(0, .pointer s), (1, .int .i64 p), (4, .pointer (some ⟨t4, 0, none⟩)), (8, .int .i64 last), (9, .pointer (some ⟨m0, 0, none⟩)), (12, .int .i64 i)] w) (s : Option Addr) (p : Int) (t4 : Nat) (last : Int) (m0 : Nat) (i : Int) (t109 : Bool) (w : World) (h : syncm_Sync_send.B1 s p t4 last m0 i t109 w N1  R) :
    KW Tryz.prog 189 128 (syncm_Sync_send.RV R) ([(0, [1, 1, 1, 1, 1, 1, 1, 1, 1, 0, 1, 0, 0, 0, 1]), (0, [1, 1, 1, 1, 1, 1, 1, 1, 1, 0, 1, 0, 0, 1]), (2, [1, 1, 1, 1, 1, 1, 1, 1, 1, 0, 1, 0, 0]), (1, [0]), (0, [1, 1, 1, 1, 1, 1, 1, 1, 1, 1])].map (toItem (Tryz.f189.body.getD .skip))) [(0, .pointer s), (1, .int .i64 p), (4, .pointer (some ⟨t4, 0, none⟩)), (8, .int .i64 last), (9, .pointer (some ⟨m0, 0, none⟩)), (12, .int .i64 i), (109, .bool t109)] w := by
  exact block_spec Tryz.func189 Tryz.mixed (stops_cons (fun σ w h => by
      obtain ⟨s_, e0, h⟩ := dP_elim h
      obtain ⟨p_, e1, h⟩ := dI_elim h
      obtain ⟨t4_, e2, h⟩ := dK_elim h
      obtain ⟨last_, e3, h⟩ := dI_elim h
      obtain ⟨m0_, e4, h⟩ := dK_elim h
      obtain ⟨i_, e5, h⟩ := dI_elim h
      exact (hN1 s_ p_ t4_ last_ m0_ i_ w h).weaken (Sub.cons (Sub.cons (Sub.cons (Sub.cons (Sub.cons (Sub.cons (Sub.nil _) e5) e4) e3) e2) e1) e0)) stops_nil) (Eq.mp (syncm_Sync_send.B1_eq s p t4 last m0 i t109 w N1  R ) h)
def syncm_Sync_send.L1b (s : Option Addr) (p : Int) (t4 : Nat) (last : Int) (m0 : Nat) (i : Int) (w : World)  (N1 : Option Addr → Int → Nat → Int → Nat → Int → World → Prop) (R : Int → Int → Int → Int → Int → Int → Int → Bool → Option Addr → Nat → Nat → ByteArray → World → Prop) : Prop :=
  Bm (decide (i ≤ last)) (
    Pn s fun a =>
    (0 ≤ p ∧ p < ((3 : Nat) : Int)) ∧
    LdI .i64 (Addr.add (a.add 3) (p.toNat * 1)) w fun x106 =>
    syncm_Sync_send.B1 s p t4 last m0 i (decide (i < (IntKind.i64.wrap (x106 + (2 : Int))))) w N1 R) (
    syncm_Sync_send.B1 s p t4 last m0 i false w N1 R)
theorem syncm_Sync_send.L1b_eq (s : Option Addr) (p : Int) (t4 : Nat) (last : Int) (m0 : Nat) (i : Int) (w : World)  (N1 : Option Addr → Int → Nat → Int → Nat → Int → World → Prop) (R : Int → Int → Int → Int → Int → Int → Int → Bool → Option Addr → Nat → Nat → ByteArray → World → Prop) (sB1 : Option Addr → Int → Nat → Int → Nat → Int → Bool → World → Prop) :
    (
  Bm (decide (i ≤ last)) (
    Pn s fun a =>
    (0 ≤ p ∧ p < ((3 : Nat) : Int)) ∧
    LdI .i64 (Addr.add (a.add 3) (p.toNat * 1)) w fun x106 =>
    sB1 s p t4 last m0 i (decide (i < (IntKind.i64.wrap (x106 + (2 : Int))))) w) (
    sB1 s p t4 last m0 i false w)) = kstep Tryz.prog 128 Tryz.f189.results.toList (Tryz.f189.body.getD .skip) (syncm_Sync_send.RV R) (kvc Tryz.prog 128 Tryz.f189.results.toList (Tryz.f189.body.getD .skip) (syncm_Sync_send.RV R) [([(0, [1, 1, 1, 1, 1, 1, 1, 1, 1, 0, 1, 0, 0, 0, 1]), (0, [1, 1, 1, 1, 1, 1, 1, 1, 1, 0, 1, 0, 0, 1]), (2, [1, 1, 1, 1, 1, 1, 1, 1, 1, 0, 1, 0, 0]), (1, [0]), (0, [1, 1, 1, 1, 1, 1, 1, 1, 1, 1])], fun σ w => dP (slotOf σ 0) fun s_ => dI .i64 (slotOf σ 1) fun p_ => dK (slotOf σ 4) fun t4_ => dI .i64 (slotOf σ 8) fun last_ => dK (slotOf σ 9) fun m0_ => dI .i64 (slotOf σ 12) fun i_ => dB (slotOf σ 109) fun t109_ => sB1 s_ p_ t4_ last_ m0_ i_ t109_ w)] 2000) [(0, [1, 1, 1, 1, 1, 1, 1, 1, 1, 0, 1, 0, 0]), (2, [1, 1, 1, 1, 1, 1, 1, 1, 1, 0, 1, 0, 0]), (1, [0]), (0, [1, 1, 1, 1, 1, 1, 1, 1, 1, 1])] [(0, .pointer s), (1, .int .i64 p), (4, .pointer (some ⟨t4, 0, none⟩)), (8, .int .i64 last), (9, .pointer (some ⟨m0, 0, none⟩)), (12, .int .i64 i)] w := by kernel_rfl
theorem syncm_Sync_send.L1b_sound {R : Int → Int → Int → Int → Int → Int → Int → Bool → Option Addr → Nat → Nat → ByteArray → World → Prop} {N1 : Option Addr → Int → Nat → Int → Nat → Int → World → Prop} (hN1 : ∀ s p t4 last m0 i w, N1 s p t4 last m0 i w → KW Tryz.prog 189 128 (syncm_Sync_send.RV R) ([(0, [1, 1, 1, 1, 1, 1, 1, 1, 1, 0, 1, 0, 0]), (2, [1, 1, 1, 1, 1, 1, 1, 1, 1, 0, 1, 0, 0]), (1, [0]), (0, [1, 1, 1, 1, 1, 1, 1, 1, 1, 1])].map (toItem (Tryz.f189.body.getD .skip))) [(0, .pointer s), (1, .int .i64 p), (4, .pointer (some ⟨t4, 0, none⟩)), (8, .int .i64 last), (9, .pointer (some ⟨m0, 0, none⟩)), (12, .int .i64 i)] w) (s : Option Addr) (p : Int) (t4 : Nat) (last : Int) (m0 : Nat) (i : Int) (w : World) (h : syncm_Sync_send.L1b s p t4 last m0 i w  N1 R) :
    KW Tryz.prog 189 128 (syncm_Sync_send.RV R) ([(0, [1, 1, 1, 1, 1, 1, 1, 1, 1, 0, 1, 0, 0]), (2, [1, 1, 1, 1, 1, 1, 1, 1, 1, 0, 1, 0, 0]), (1, [0]), (0, [1, 1, 1, 1, 1, 1, 1, 1, 1, 1])].map (toItem (Tryz.f189.body.getD .skip))) [(0, .pointer s), (1, .int .i64 p), (4, .pointer (some ⟨t4, 0, none⟩)), (8, .int .i64 last), (9, .pointer (some ⟨m0, 0, none⟩)), (12, .int .i64 i)] w := by
  exact block_spec Tryz.func189 Tryz.mixed (stops_cons (fun σ w h => by
      obtain ⟨s_, e0, h⟩ := dP_elim h
      obtain ⟨p_, e1, h⟩ := dI_elim h
      obtain ⟨t4_, e2, h⟩ := dK_elim h
      obtain ⟨last_, e3, h⟩ := dI_elim h
      obtain ⟨m0_, e4, h⟩ := dK_elim h
      obtain ⟨i_, e5, h⟩ := dI_elim h
      obtain ⟨t109_, e6, h⟩ := dB_elim h
      exact (syncm_Sync_send.B1_sound hN1 s_ p_ t4_ last_ m0_ i_ t109_ w h).weaken (Sub.cons (Sub.cons (Sub.cons (Sub.cons (Sub.cons (Sub.cons (Sub.cons (Sub.nil _) e6) e5) e4) e3) e2) e1) e0)) stops_nil) (Eq.mp (syncm_Sync_send.L1b_eq s p t4 last m0 i w  N1 R (fun s_ p_ t4_ last_ m0_ i_ t109_ w => syncm_Sync_send.B1 s_ p_ t4_ last_ m0_ i_ t109_ w N1 R)) h)
def syncm_Sync_send.L1 (s : Option Addr) (p : Int) (t4 : Nat) (last : Int) (m0 : Nat) (i : Int) (w : World)  (R : Int → Int → Int → Int → Int → Int → Int → Bool → Option Addr → Nat → Nat → ByteArray → World → Prop) : Prop :=
  ∃ (I : Nat → Option Addr → Int → Nat → Int → Nat → Int → World → Prop) (m : Nat), I m s p t4 last m0 i w ∧ ∀ m s p t4 last m0 i w, I m s p t4 last m0 i w → syncm_Sync_send.L1b s p t4 last m0 i w  (fun s' p' t4' last' m0' i' w' => ∃ m', m' < m ∧ I m' s' p' t4' last' m0' i' w') R
theorem syncm_Sync_send.L1_sound {R : Int → Int → Int → Int → Int → Int → Int → Bool → Option Addr → Nat → Nat → ByteArray → World → Prop}  (s : Option Addr) (p : Int) (t4 : Nat) (last : Int) (m0 : Nat) (i : Int) (w : World) (h : syncm_Sync_send.L1 s p t4 last m0 i w  R) :
    KW Tryz.prog 189 128 (syncm_Sync_send.RV R) ([(0, [1, 1, 1, 1, 1, 1, 1, 1, 1, 0, 1, 0, 0]), (2, [1, 1, 1, 1, 1, 1, 1, 1, 1, 0, 1, 0, 0]), (1, [0]), (0, [1, 1, 1, 1, 1, 1, 1, 1, 1, 1])].map (toItem (Tryz.f189.body.getD .skip))) [(0, .pointer s), (1, .int .i64 p), (4, .pointer (some ⟨t4, 0, none⟩)), (8, .int .i64 last), (9, .pointer (some ⟨m0, 0, none⟩)), (12, .int .i64 i)] w := by
  obtain ⟨I, m, hBase, hr⟩ := h
  refine KW.loop (fun m σ w => ∃ (s : Option Addr) (p : Int) (t4 : Nat) (last : Int) (m0 : Nat) (i : Int), σ = [(0, .pointer s), (1, .int .i64 p), (4, .pointer (some ⟨t4, 0, none⟩)), (8, .int .i64 last), (9, .pointer (some ⟨m0, 0, none⟩)), (12, .int .i64 i)] ∧ I m s p t4 last m0 i w) ?_ m _ w ⟨s, p, t4, last, m0, i, rfl, hBase⟩
  rintro m ih σ w ⟨s, p, t4, last, m0, i, rfl, hI⟩
  exact syncm_Sync_send.L1b_sound  (N1 := fun s' p' t4' last' m0' i' w' => ∃ m', m' < m ∧ I m' s' p' t4' last' m0' i' w') (fun s' p' t4' last' m0' i' w' hx => by obtain ⟨m', hlt, hI'⟩ := hx; exact ih m' hlt _ w' ⟨s', p', t4', last', m0', i', rfl, hI'⟩) s p t4 last m0 i w (hr m s p t4 last m0 i w hI)
def syncm_Sync_send.B0 (s : Option Addr) (p : Int) (w : World)   (R : Int → Int → Int → Int → Int → Int → Int → Bool → Option Addr → Nat → Nat → ByteArray → World → Prop) : Prop :=
  New (.cells #[.int .i64 (0 : Int), .int .i64 (0 : Int), .int .i64 (0 : Int), .int .i64 (0 : Int), .int .i64 (0 : Int), .int .i64 (0 : Int), .int .i64 (0 : Int), .bool false, .slice none 0 0, .string (ByteArray.mk #[])] 101) w fun b4 w1 =>
  Pn s fun a =>
  LdP (a.add 1) w1 fun x18 =>
  electm_Elect_Id.Call x18 w1 fun r19 w2 =>
  Pn s fun a_1 =>
  LdP (a_1.add 1) w2 fun x23 =>
  electm_Elect_Term.Call x23 w2 fun r24 w3 =>
  Pn s fun a_2 =>
  LdP a_2 w3 fun x28 =>
  rlogm_Log_Base.Call x28 w3 fun r29 w4 =>
  Pn s fun a_3 =>
  LdP a_3 w4 fun x33 =>
  rlogm_Log_Last.Call x33 w4 fun r34 w5 =>
  New (.cells #[.int .i64 (0 : Int), .int .i64 (0 : Int), .int .i64 (0 : Int), .int .i64 (0 : Int), .int .i64 (0 : Int), .int .i64 (0 : Int), .int .i64 (0 : Int), .bool false, .slice none 0 0, .string (ByteArray.mk #[])] 101) w5 fun m0_ w6 =>
  Sts [.int .i64 (0 : Int), .int .i64 r19, .int .i64 p, .int .i64 r24, .int .i64 (0 : Int), .int .i64 (0 : Int), .int .i64 (0 : Int), .bool false, .slice none 0 0, .string (ByteArray.mk #[])] ⟨m0_, 0, none⟩ 0 w6 fun w7 =>
  Pn s fun a_4 =>
  (0 ≤ p ∧ p < ((3 : Nat) : Int)) ∧
  LdI .i64 (Addr.add (a_4.add 3) (p.toNat * 1)) w7 fun x44 =>
  Bm (decide (x44 ≤ r29)) (
    Pn s fun a_5 =>
    LdP a_5 w7 fun x50 =>
    rlogm_Log_BaseTerm.Call x50 w7 fun r51 w8 =>
    Pn s fun a_6 =>
    LdP a_6 w8 fun x55 =>
    rlogm_Log_Snap.Call x55 w8 fun r56 w9 =>
    Sts [.int .i64 (5 : Int)] ⟨m0_, 0, none⟩ 0 w9 fun w10 =>
    Sts [.int .i64 r29] ⟨m0_, 4, none⟩ 0 w10 fun w11 =>
    Sts [.int .i64 r51] ⟨m0_, 5, none⟩ 0 w11 fun w12 =>
    Sts [.string r56] ⟨m0_, 9, none⟩ 0 w12 fun w13 =>
    LdI .i64 ⟨m0_, 0, none⟩ w13 fun x64_0 =>
    LdI .i64 ⟨m0_, 1, none⟩ w13 fun x64_1 =>
    LdI .i64 ⟨m0_, 2, none⟩ w13 fun x64_2 =>
    LdI .i64 ⟨m0_, 3, none⟩ w13 fun x64_3 =>
    LdI .i64 ⟨m0_, 4, none⟩ w13 fun x64_4 =>
    LdI .i64 ⟨m0_, 5, none⟩ w13 fun x64_5 =>
    LdI .i64 ⟨m0_, 6, none⟩ w13 fun x64_6 =>
    LdB ⟨m0_, 7, none⟩ w13 fun x64_7 =>
    LdL ⟨m0_, 8, none⟩ w13 fun x64_8_b x64_8_l x64_8_c =>
    LdS ⟨m0_, 9, none⟩ w13 fun x64_9 =>
    Sts [.int .i64 x64_0, .int .i64 x64_1, .int .i64 x64_2, .int .i64 x64_3, .int .i64 x64_4, .int .i64 x64_5, .int .i64 x64_6, .bool x64_7, .slice x64_8_b x64_8_l x64_8_c, .string x64_9] ⟨b4, 0, none⟩ 0 w13 fun w14 =>
    LdI .i64 ⟨b4, 0, none⟩ w14 fun r_0 =>
    LdI .i64 ⟨b4, 1, none⟩ w14 fun r_1 =>
    LdI .i64 ⟨b4, 2, none⟩ w14 fun r_2 =>
    LdI .i64 ⟨b4, 3, none⟩ w14 fun r_3 =>
    LdI .i64 ⟨b4, 4, none⟩ w14 fun r_4 =>
    LdI .i64 ⟨b4, 5, none⟩ w14 fun r_5 =>
    LdI .i64 ⟨b4, 6, none⟩ w14 fun r_6 =>
    LdB ⟨b4, 7, none⟩ w14 fun r_7 =>
    LdL ⟨b4, 8, none⟩ w14 fun r_8_b r_8_l r_8_c =>
    LdS ⟨b4, 9, none⟩ w14 fun r_9 =>
    R r_0 r_1 r_2 r_3 r_4 r_5 r_6 r_7 r_8_b r_8_l r_8_c r_9 w14) (
    Pn s fun a_7 =>
    (0 ≤ p ∧ p < ((3 : Nat) : Int)) ∧
    LdI .i64 (Addr.add (a_7.add 3) (p.toNat * 1)) w7.drew fun x70 =>
    Pn s fun a_8 =>
    LdI .i64 (a_8.add 2) w7.drew fun x75 =>
    Sts [.int .i64 (3 : Int)] ⟨m0_, 0, none⟩ 0 w7.drew fun w15 =>
    w15.cell? (a_8.add 2) = some (.int .i64 x75) ∧
    w15.cell? (Addr.add (a_7.add 3) (p.toNat * 1)) = some (.int .i64 x70) ∧
    Sts [.int .i64 (IntKind.i64.wrap (x70 - (1 : Int)))] ⟨m0_, 4, none⟩ 0 w15 fun w16 =>
    w16.cell? (a_8.add 2) = some (.int .i64 x75) ∧
    Sts [.int .i64 x75] ⟨m0_, 6, none⟩ 0 w16 fun w17 =>
    Pn s fun a_9 =>
    LdP a_9 w17.drew fun x83 =>
    LdI .i64 ⟨m0_, 4, none⟩ w17.drew fun x85 =>
    rlogm_Log_TermAt.Call x83 x85 w17.drew fun r86_0 r86_1 w18 =>
    Sts [.int .i64 r86_0] ⟨m0_, 5, none⟩ 0 w18 fun w19 =>
    Pn s fun a_10 =>
    (0 ≤ p ∧ p < ((3 : Nat) : Int)) ∧
    LdI .i64 (Addr.add (a_10.add 3) (p.toNat * 1)) w19 fun x95 =>
    syncm_Sync_send.L1 s p b4 r34 m0_ x95 w19  R)
theorem syncm_Sync_send.B0_eq (s : Option Addr) (p : Int) (w : World)   (R : Int → Int → Int → Int → Int → Int → Int → Bool → Option Addr → Nat → Nat → ByteArray → World → Prop) (sL1 : Option Addr → Int → Nat → Int → Nat → Int → World → Prop) :
    (
  New (.cells #[.int .i64 (0 : Int), .int .i64 (0 : Int), .int .i64 (0 : Int), .int .i64 (0 : Int), .int .i64 (0 : Int), .int .i64 (0 : Int), .int .i64 (0 : Int), .bool false, .slice none 0 0, .string (ByteArray.mk #[])] 101) w fun b4 w1 =>
  Pn s fun a =>
  LdP (a.add 1) w1 fun x18 =>
  electm_Elect_Id.Call x18 w1 fun r19 w2 =>
  Pn s fun a_1 =>
  LdP (a_1.add 1) w2 fun x23 =>
  electm_Elect_Term.Call x23 w2 fun r24 w3 =>
  Pn s fun a_2 =>
  LdP a_2 w3 fun x28 =>
  rlogm_Log_Base.Call x28 w3 fun r29 w4 =>
  Pn s fun a_3 =>
  LdP a_3 w4 fun x33 =>
  rlogm_Log_Last.Call x33 w4 fun r34 w5 =>
  New (.cells #[.int .i64 (0 : Int), .int .i64 (0 : Int), .int .i64 (0 : Int), .int .i64 (0 : Int), .int .i64 (0 : Int), .int .i64 (0 : Int), .int .i64 (0 : Int), .bool false, .slice none 0 0, .string (ByteArray.mk #[])] 101) w5 fun m0_ w6 =>
  Sts [.int .i64 (0 : Int), .int .i64 r19, .int .i64 p, .int .i64 r24, .int .i64 (0 : Int), .int .i64 (0 : Int), .int .i64 (0 : Int), .bool false, .slice none 0 0, .string (ByteArray.mk #[])] ⟨m0_, 0, none⟩ 0 w6 fun w7 =>
  Pn s fun a_4 =>
  (0 ≤ p ∧ p < ((3 : Nat) : Int)) ∧
  LdI .i64 (Addr.add (a_4.add 3) (p.toNat * 1)) w7 fun x44 =>
  Bm (decide (x44 ≤ r29)) (
    Pn s fun a_5 =>
    LdP a_5 w7 fun x50 =>
    rlogm_Log_BaseTerm.Call x50 w7 fun r51 w8 =>
    Pn s fun a_6 =>
    LdP a_6 w8 fun x55 =>
    rlogm_Log_Snap.Call x55 w8 fun r56 w9 =>
    Sts [.int .i64 (5 : Int)] ⟨m0_, 0, none⟩ 0 w9 fun w10 =>
    Sts [.int .i64 r29] ⟨m0_, 4, none⟩ 0 w10 fun w11 =>
    Sts [.int .i64 r51] ⟨m0_, 5, none⟩ 0 w11 fun w12 =>
    Sts [.string r56] ⟨m0_, 9, none⟩ 0 w12 fun w13 =>
    LdI .i64 ⟨m0_, 0, none⟩ w13 fun x64_0 =>
    LdI .i64 ⟨m0_, 1, none⟩ w13 fun x64_1 =>
    LdI .i64 ⟨m0_, 2, none⟩ w13 fun x64_2 =>
    LdI .i64 ⟨m0_, 3, none⟩ w13 fun x64_3 =>
    LdI .i64 ⟨m0_, 4, none⟩ w13 fun x64_4 =>
    LdI .i64 ⟨m0_, 5, none⟩ w13 fun x64_5 =>
    LdI .i64 ⟨m0_, 6, none⟩ w13 fun x64_6 =>
    LdB ⟨m0_, 7, none⟩ w13 fun x64_7 =>
    LdL ⟨m0_, 8, none⟩ w13 fun x64_8_b x64_8_l x64_8_c =>
    LdS ⟨m0_, 9, none⟩ w13 fun x64_9 =>
    Sts [.int .i64 x64_0, .int .i64 x64_1, .int .i64 x64_2, .int .i64 x64_3, .int .i64 x64_4, .int .i64 x64_5, .int .i64 x64_6, .bool x64_7, .slice x64_8_b x64_8_l x64_8_c, .string x64_9] ⟨b4, 0, none⟩ 0 w13 fun w14 =>
    LdI .i64 ⟨b4, 0, none⟩ w14 fun r_0 =>
    LdI .i64 ⟨b4, 1, none⟩ w14 fun r_1 =>
    LdI .i64 ⟨b4, 2, none⟩ w14 fun r_2 =>
    LdI .i64 ⟨b4, 3, none⟩ w14 fun r_3 =>
    LdI .i64 ⟨b4, 4, none⟩ w14 fun r_4 =>
    LdI .i64 ⟨b4, 5, none⟩ w14 fun r_5 =>
    LdI .i64 ⟨b4, 6, none⟩ w14 fun r_6 =>
    LdB ⟨b4, 7, none⟩ w14 fun r_7 =>
    LdL ⟨b4, 8, none⟩ w14 fun r_8_b r_8_l r_8_c =>
    LdS ⟨b4, 9, none⟩ w14 fun r_9 =>
    R r_0 r_1 r_2 r_3 r_4 r_5 r_6 r_7 r_8_b r_8_l r_8_c r_9 w14) (
    Pn s fun a_7 =>
    (0 ≤ p ∧ p < ((3 : Nat) : Int)) ∧
    LdI .i64 (Addr.add (a_7.add 3) (p.toNat * 1)) w7.drew fun x70 =>
    Pn s fun a_8 =>
    LdI .i64 (a_8.add 2) w7.drew fun x75 =>
    Sts [.int .i64 (3 : Int)] ⟨m0_, 0, none⟩ 0 w7.drew fun w15 =>
    w15.cell? (a_8.add 2) = some (.int .i64 x75) ∧
    w15.cell? (Addr.add (a_7.add 3) (p.toNat * 1)) = some (.int .i64 x70) ∧
    Sts [.int .i64 (IntKind.i64.wrap (x70 - (1 : Int)))] ⟨m0_, 4, none⟩ 0 w15 fun w16 =>
    w16.cell? (a_8.add 2) = some (.int .i64 x75) ∧
    Sts [.int .i64 x75] ⟨m0_, 6, none⟩ 0 w16 fun w17 =>
    Pn s fun a_9 =>
    LdP a_9 w17.drew fun x83 =>
    LdI .i64 ⟨m0_, 4, none⟩ w17.drew fun x85 =>
    rlogm_Log_TermAt.Call x83 x85 w17.drew fun r86_0 r86_1 w18 =>
    Sts [.int .i64 r86_0] ⟨m0_, 5, none⟩ 0 w18 fun w19 =>
    Pn s fun a_10 =>
    (0 ≤ p ∧ p < ((3 : Nat) : Int)) ∧
    LdI .i64 (Addr.add (a_10.add 3) (p.toNat * 1)) w19 fun x95 =>
    sL1 s p b4 r34 m0_ x95 w19)) = kstep Tryz.prog 128 Tryz.f189.results.toList (Tryz.f189.body.getD .skip) (syncm_Sync_send.RV R) (kvc Tryz.prog 128 Tryz.f189.results.toList (Tryz.f189.body.getD .skip) (syncm_Sync_send.RV R) [([(0, [1, 1, 1, 1, 1, 1, 1, 1, 1, 0, 1, 0, 0]), (2, [1, 1, 1, 1, 1, 1, 1, 1, 1, 0, 1, 0, 0]), (1, [0]), (0, [1, 1, 1, 1, 1, 1, 1, 1, 1, 1])], fun σ w => dP (slotOf σ 0) fun s_ => dI .i64 (slotOf σ 1) fun p_ => dK (slotOf σ 4) fun t4_ => dI .i64 (slotOf σ 8) fun last_ => dK (slotOf σ 9) fun m0_ => dI .i64 (slotOf σ 12) fun i_ => sL1 s_ p_ t4_ last_ m0_ i_ w)] 2000) [(0, [])] [(0, .pointer s), (1, .int .i64 p)] w := by kernel_rfl
theorem syncm_Sync_send.B0_sound {R : Int → Int → Int → Int → Int → Int → Int → Bool → Option Addr → Nat → Nat → ByteArray → World → Prop}  (s : Option Addr) (p : Int) (w : World) (h : syncm_Sync_send.B0 s p w   R) :
    KW Tryz.prog 189 128 (syncm_Sync_send.RV R) ([(0, [])].map (toItem (Tryz.f189.body.getD .skip))) [(0, .pointer s), (1, .int .i64 p)] w := by
  exact block_spec Tryz.func189 Tryz.mixed (stops_cons (fun σ w h => by
      obtain ⟨s_, e0, h⟩ := dP_elim h
      obtain ⟨p_, e1, h⟩ := dI_elim h
      obtain ⟨t4_, e2, h⟩ := dK_elim h
      obtain ⟨last_, e3, h⟩ := dI_elim h
      obtain ⟨m0_, e4, h⟩ := dK_elim h
      obtain ⟨i_, e5, h⟩ := dI_elim h
      exact (syncm_Sync_send.L1_sound  s_ p_ t4_ last_ m0_ i_ w h).weaken (Sub.cons (Sub.cons (Sub.cons (Sub.cons (Sub.cons (Sub.cons (Sub.nil _) e5) e4) e3) e2) e1) e0)) stops_nil) (Eq.mp (syncm_Sync_send.B0_eq s p w   R (fun s_ p_ t4_ last_ m0_ i_ w => syncm_Sync_send.L1 s_ p_ t4_ last_ m0_ i_ w  R)) h)
theorem syncm_Sync_send.sound (s : Option Addr) (p : Int) (w : World) (R : Int → Int → Int → Int → Int → Int → Int → Bool → Option Addr → Nat → Nat → ByteArray → World → Prop) (h : syncm_Sync_send.B0 s p w R) : syncm_Sync_send.Call s p w R := by
  have hc := calls_of_block (args := #[.pointer s, .int .i64 p]) Tryz.func189 (body := (Tryz.f189.body.getD .skip)) (by kernel_rfl) (by kernel_rfl) (args_slot _) (syncm_Sync_send.B0_sound s p w h)
  exact hc.mono fun e w' he => by
    obtain ⟨v, rfl, hv⟩ := he
    exact syncm_Sync_send.RV_elim hv
def sync_Sync_At.B0 (s : Option Addr) (i : Int) (w : World)   (R : Int → ByteArray → Int → World → Prop) : Prop :=
  New (.cells #[.int .i64 (0 : Int), .string (ByteArray.mk #[])] 155) w fun b4 w1 =>
  Pn s fun a =>
  LdP a w1 fun x9 =>
  rlog_Log_At.Call x9 i w1 fun r11_0_0 r11_0_1 r11_1 w2 =>
  Sts [.int .i64 r11_0_0, .string r11_0_1] ⟨b4, 0, none⟩ 0 w2 fun w3 =>
  LdI .i64 ⟨b4, 0, none⟩ w3 fun r_0 =>
  LdS ⟨b4, 1, none⟩ w3 fun r_1 =>
  R r_0 r_1 r11_1 w3
theorem sync_Sync_At.B0_eq (s : Option Addr) (i : Int) (w : World)   (R : Int → ByteArray → Int → World → Prop)  :
    (
  New (.cells #[.int .i64 (0 : Int), .string (ByteArray.mk #[])] 155) w fun b4 w1 =>
  Pn s fun a =>
  LdP a w1 fun x9 =>
  rlog_Log_At.Call x9 i w1 fun r11_0_0 r11_0_1 r11_1 w2 =>
  Sts [.int .i64 r11_0_0, .string r11_0_1] ⟨b4, 0, none⟩ 0 w2 fun w3 =>
  LdI .i64 ⟨b4, 0, none⟩ w3 fun r_0 =>
  LdS ⟨b4, 1, none⟩ w3 fun r_1 =>
  R r_0 r_1 r11_1 w3) = kstep Tryz.prog 14 Tryz.f190.results.toList (Tryz.f190.body.getD .skip) (sync_Sync_At.RV R) (kvc Tryz.prog 14 Tryz.f190.results.toList (Tryz.f190.body.getD .skip) (sync_Sync_At.RV R) [] 2000) [(0, [])] [(0, .pointer s), (1, .int .i64 i)] w := by kernel_rfl
theorem sync_Sync_At.B0_sound {R : Int → ByteArray → Int → World → Prop}  (s : Option Addr) (i : Int) (w : World) (h : sync_Sync_At.B0 s i w   R) :
    KW Tryz.prog 190 14 (sync_Sync_At.RV R) ([(0, [])].map (toItem (Tryz.f190.body.getD .skip))) [(0, .pointer s), (1, .int .i64 i)] w := by
  exact block_spec Tryz.func190 Tryz.mixed stops_nil (Eq.mp (sync_Sync_At.B0_eq s i w   R ) h)
theorem sync_Sync_At.sound (s : Option Addr) (i : Int) (w : World) (R : Int → ByteArray → Int → World → Prop) (h : sync_Sync_At.B0 s i w R) : sync_Sync_At.Call s i w R := by
  have hc := calls_of_block (args := #[.pointer s, .int .i64 i]) Tryz.func190 (body := (Tryz.f190.body.getD .skip)) (by kernel_rfl) (by kernel_rfl) (args_slot _) (sync_Sync_At.B0_sound s i w h)
  exact hc.mono fun e w' he => by
    obtain ⟨v, rfl, hv⟩ := he
    exact sync_Sync_At.RV_elim hv
def sync_Sync_TermAt.B0 (s : Option Addr) (i : Int) (w : World)   (R : Int → Int → World → Prop) : Prop :=
  Pn s fun a =>
  LdP a w fun x9 =>
  rlog_Log_TermAt.Call x9 i w fun r11_0 r11_1 w1 =>
  R r11_0 r11_1 w1
theorem sync_Sync_TermAt.B0_eq (s : Option Addr) (i : Int) (w : World)   (R : Int → Int → World → Prop)  :
    (
  Pn s fun a =>
  LdP a w fun x9 =>
  rlog_Log_TermAt.Call x9 i w fun r11_0 r11_1 w1 =>
  R r11_0 r11_1 w1) = kstep Tryz.prog 14 Tryz.f191.results.toList (Tryz.f191.body.getD .skip) (sync_Sync_TermAt.RV R) (kvc Tryz.prog 14 Tryz.f191.results.toList (Tryz.f191.body.getD .skip) (sync_Sync_TermAt.RV R) [] 2000) [(0, [])] [(0, .pointer s), (1, .int .i64 i)] w := by kernel_rfl
theorem sync_Sync_TermAt.B0_sound {R : Int → Int → World → Prop}  (s : Option Addr) (i : Int) (w : World) (h : sync_Sync_TermAt.B0 s i w   R) :
    KW Tryz.prog 191 14 (sync_Sync_TermAt.RV R) ([(0, [])].map (toItem (Tryz.f191.body.getD .skip))) [(0, .pointer s), (1, .int .i64 i)] w := by
  exact block_spec Tryz.func191 Tryz.mixed stops_nil (Eq.mp (sync_Sync_TermAt.B0_eq s i w   R ) h)
theorem sync_Sync_TermAt.sound (s : Option Addr) (i : Int) (w : World) (R : Int → Int → World → Prop) (h : sync_Sync_TermAt.B0 s i w R) : sync_Sync_TermAt.Call s i w R := by
  have hc := calls_of_block (args := #[.pointer s, .int .i64 i]) Tryz.func191 (body := (Tryz.f191.body.getD .skip)) (by kernel_rfl) (by kernel_rfl) (args_slot _) (sync_Sync_TermAt.B0_sound s i w h)
  exact hc.mono fun e w' he => by
    obtain ⟨v, rfl, hv⟩ := he
    exact sync_Sync_TermAt.RV_elim hv
def syncm_Sync_TermAt.B0 (s : Option Addr) (i : Int) (w : World)   (R : Int → Int → World → Prop) : Prop :=
  Pn s fun a =>
  LdP a w fun x9 =>
  rlogm_Log_TermAt.Call x9 i w fun r11_0 r11_1 w1 =>
  R r11_0 r11_1 w1
theorem syncm_Sync_TermAt.B0_eq (s : Option Addr) (i : Int) (w : World)   (R : Int → Int → World → Prop)  :
    (
  Pn s fun a =>
  LdP a w fun x9 =>
  rlogm_Log_TermAt.Call x9 i w fun r11_0 r11_1 w1 =>
  R r11_0 r11_1 w1) = kstep Tryz.prog 14 Tryz.f192.results.toList (Tryz.f192.body.getD .skip) (syncm_Sync_TermAt.RV R) (kvc Tryz.prog 14 Tryz.f192.results.toList (Tryz.f192.body.getD .skip) (syncm_Sync_TermAt.RV R) [] 2000) [(0, [])] [(0, .pointer s), (1, .int .i64 i)] w := by kernel_rfl
theorem syncm_Sync_TermAt.B0_sound {R : Int → Int → World → Prop}  (s : Option Addr) (i : Int) (w : World) (h : syncm_Sync_TermAt.B0 s i w   R) :
    KW Tryz.prog 192 14 (syncm_Sync_TermAt.RV R) ([(0, [])].map (toItem (Tryz.f192.body.getD .skip))) [(0, .pointer s), (1, .int .i64 i)] w := by
  exact block_spec Tryz.func192 Tryz.mixed stops_nil (Eq.mp (syncm_Sync_TermAt.B0_eq s i w   R ) h)
theorem syncm_Sync_TermAt.sound (s : Option Addr) (i : Int) (w : World) (R : Int → Int → World → Prop) (h : syncm_Sync_TermAt.B0 s i w R) : syncm_Sync_TermAt.Call s i w R := by
  have hc := calls_of_block (args := #[.pointer s, .int .i64 i]) Tryz.func192 (body := (Tryz.f192.body.getD .skip)) (by kernel_rfl) (by kernel_rfl) (args_slot _) (syncm_Sync_TermAt.B0_sound s i w h)
  exact hc.mono fun e w' he => by
    obtain ⟨v, rfl, hv⟩ := he
    exact syncm_Sync_TermAt.RV_elim hv
def kv_KV_Val.B0 (k : Option Addr) (key : ByteArray) (w : World)   (R : ByteArray → Bool → World → Prop) : Prop :=
  Bm (decide (((key.size : Nat) : Int) > (2 : Int))) (
    R (ByteArray.mk #[]) false w) (
    Pn k fun a =>
    kv_table_find.Call (some a) key w fun r14 w1 =>
    Bm (decide (r14 < (0 : Int))) (
      R (ByteArray.mk #[]) false w1) (
      Pn k fun a_1 =>
      (0 ≤ r14 ∧ r14 < ((8 : Nat) : Int)) ∧
      LdI .i64 (Addr.add a_1 (r14.toNat * 8)) w1 fun x23_0 =>
      LdI .i64 ((Addr.add a_1 (r14.toNat * 8)).add 1) w1 fun x23_1 =>
      LdI .u8 ((Addr.add a_1 (r14.toNat * 8)).add 2) w1 fun x23_2 =>
      LdI .u8 ((Addr.add a_1 (r14.toNat * 8)).add 3) w1 fun x23_3 =>
      LdI .i64 ((Addr.add a_1 (r14.toNat * 8)).add 4) w1 fun x23_4 =>
      LdI .u8 ((Addr.add a_1 (r14.toNat * 8)).add 5) w1 fun x23_5 =>
      LdI .u8 ((Addr.add a_1 (r14.toNat * 8)).add 6) w1 fun x23_6 =>
      LdI .u8 ((Addr.add a_1 (r14.toNat * 8)).add 7) w1 fun x23_7 =>
      kv_valOf.Call x23_0 x23_1 x23_2 x23_3 x23_4 x23_5 x23_6 x23_7 w1 fun r24 w2 =>
      R r24 true w2))
theorem kv_KV_Val.B0_eq (k : Option Addr) (key : ByteArray) (w : World)   (R : ByteArray → Bool → World → Prop)  :
    (
  Bm (decide (((key.size : Nat) : Int) > (2 : Int))) (
    R (ByteArray.mk #[]) false w) (
    Pn k fun a =>
    kv_table_find.Call (some a) key w fun r14 w1 =>
    Bm (decide (r14 < (0 : Int))) (
      R (ByteArray.mk #[]) false w1) (
      Pn k fun a_1 =>
      (0 ≤ r14 ∧ r14 < ((8 : Nat) : Int)) ∧
      LdI .i64 (Addr.add a_1 (r14.toNat * 8)) w1 fun x23_0 =>
      LdI .i64 ((Addr.add a_1 (r14.toNat * 8)).add 1) w1 fun x23_1 =>
      LdI .u8 ((Addr.add a_1 (r14.toNat * 8)).add 2) w1 fun x23_2 =>
      LdI .u8 ((Addr.add a_1 (r14.toNat * 8)).add 3) w1 fun x23_3 =>
      LdI .i64 ((Addr.add a_1 (r14.toNat * 8)).add 4) w1 fun x23_4 =>
      LdI .u8 ((Addr.add a_1 (r14.toNat * 8)).add 5) w1 fun x23_5 =>
      LdI .u8 ((Addr.add a_1 (r14.toNat * 8)).add 6) w1 fun x23_6 =>
      LdI .u8 ((Addr.add a_1 (r14.toNat * 8)).add 7) w1 fun x23_7 =>
      kv_valOf.Call x23_0 x23_1 x23_2 x23_3 x23_4 x23_5 x23_6 x23_7 w1 fun r24 w2 =>
      R r24 true w2))) = kstep Tryz.prog 25 Tryz.f193.results.toList (Tryz.f193.body.getD .skip) (kv_KV_Val.RV R) (kvc Tryz.prog 25 Tryz.f193.results.toList (Tryz.f193.body.getD .skip) (kv_KV_Val.RV R) [] 2000) [(0, [])] [(0, .pointer k), (1, .string key)] w := by kernel_rfl
theorem kv_KV_Val.B0_sound {R : ByteArray → Bool → World → Prop}  (k : Option Addr) (key : ByteArray) (w : World) (h : kv_KV_Val.B0 k key w   R) :
    KW Tryz.prog 193 25 (kv_KV_Val.RV R) ([(0, [])].map (toItem (Tryz.f193.body.getD .skip))) [(0, .pointer k), (1, .string key)] w := by
  exact block_spec Tryz.func193 Tryz.mixed stops_nil (Eq.mp (kv_KV_Val.B0_eq k key w   R ) h)
theorem kv_KV_Val.sound (k : Option Addr) (key : ByteArray) (w : World) (R : ByteArray → Bool → World → Prop) (h : kv_KV_Val.B0 k key w R) : kv_KV_Val.Call k key w R := by
  have hc := calls_of_block (args := #[.pointer k, .string key]) Tryz.func193 (body := (Tryz.f193.body.getD .skip)) (by kernel_rfl) (by kernel_rfl) (args_slot _) (kv_KV_Val.B0_sound k key w h)
  exact hc.mono fun e w' he => by
    obtain ⟨v, rfl, hv⟩ := he
    exact kv_KV_Val.RV_elim hv
end Go.Proofs.Qxb6500430aGreat
