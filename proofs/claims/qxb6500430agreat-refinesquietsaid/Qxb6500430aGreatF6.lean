import Derived.Test.Qxb6500430aGreatSig
set_option maxRecDepth 100000
set_option linter.unusedVariables false
open Go.Vc
namespace Go.Proofs.Qxb6500430aGreat
def rlog_Open.B1 (l : Nat) (t58 : Bool) (w : World) (N1 : Nat → World → Prop)  (R : Option Addr → World → Prop) : Prop :=
  Bm t58 (
    LdI .i64 ⟨l, 6, none⟩ w fun x62 =>
    Sts [.int .i64 (IntKind.i64.wrap (x62 + (1 : Int)))] ⟨l, 6, none⟩ 0 w fun w1 =>
    N1 l w1) (
    rlog_Log_sweep.Call (some ⟨l, 0, none⟩) w fun w2 =>
    R (some ⟨l, 0, none⟩) w2)
theorem rlog_Open.B1_eq (l : Nat) (t58 : Bool) (w : World) (N1 : Nat → World → Prop)  (R : Option Addr → World → Prop)  :
    (
  Bm t58 (
    LdI .i64 ⟨l, 6, none⟩ w fun x62 =>
    Sts [.int .i64 (IntKind.i64.wrap (x62 + (1 : Int)))] ⟨l, 6, none⟩ 0 w fun w1 =>
    N1 l w1) (
    rlog_Log_sweep.Call (some ⟨l, 0, none⟩) w fun w2 =>
    R (some ⟨l, 0, none⟩) w2)) = kstep Tryz.prog 69 Tryz.f65.results.toList (Tryz.f65.body.getD .skip) (rlog_Open.RV R) (kvc Tryz.prog 69 Tryz.f65.results.toList (Tryz.f65.body.getD .skip) (rlog_Open.RV R) [([(0, [1, 1, 1, 1, 1, 0, 0, 0]), (2, [1, 1, 1, 1, 1, 0, 0, 0]), (1, [0]), (0, [1, 1, 1, 1, 1, 1])], fun σ w => dK (slotOf σ 3) fun l_ => N1 l_ w)] 2000) [(0, [1, 1, 1, 1, 1, 0, 0, 0, 0, 1]), (0, [1, 1, 1, 1, 1, 0, 0, 0, 1]), (2, [1, 1, 1, 1, 1, 0, 0, 0]), (1, [0]), (0, [1, 1, 1, 1, 1, 1])] [(3, .pointer (some ⟨l, 0, none⟩)), (58, .bool t58)] w := by kernel_rfl
theorem rlog_Open.B1_sound {R : Option Addr → World → Prop} {N1 : Nat → World → Prop} (hN1 : ∀ l w, N1 l w → KW Tryz.prog 65 69 (rlog_Open.RV R) ([(0, [1, 1, 1, 1, 1, 0, 0, 0]), (2, [1, 1, 1, 1, 1, 0, 0, 0]), (1, [0]), (0, [1, 1, 1, 1, 1, 1])].map (toItem (Tryz.f65.body.getD .skip))) [(3, .pointer (some ⟨l, 0, none⟩))] w) (l : Nat) (t58 : Bool) (w : World) (h : rlog_Open.B1 l t58 w N1  R) :
    KW Tryz.prog 65 69 (rlog_Open.RV R) ([(0, [1, 1, 1, 1, 1, 0, 0, 0, 0, 1]), (0, [1, 1, 1, 1, 1, 0, 0, 0, 1]), (2, [1, 1, 1, 1, 1, 0, 0, 0]), (1, [0]), (0, [1, 1, 1, 1, 1, 1])].map (toItem (Tryz.f65.body.getD .skip))) [(3, .pointer (some ⟨l, 0, none⟩)), (58, .bool t58)] w := by
  exact block_spec Tryz.func65 Tryz.mixed (stops_cons (fun σ w h => by
      obtain ⟨l_, e0, h⟩ := dK_elim h
      exact (hN1 l_ w h).weaken (Sub.cons (Sub.nil _) e0)) stops_nil) (Eq.mp (rlog_Open.B1_eq l t58 w N1  R ) h)
def rlog_Open.L1b (l : Nat) (w : World)  (N1 : Nat → World → Prop) (R : Option Addr → World → Prop) : Prop :=
  LdI .i64 ⟨l, 6, none⟩ w.drew fun x43 =>
  LdI .i64 ⟨l, 3, none⟩ w.drew fun x47 =>
  Bm (decide ((IntKind.i64.wrap (x43 - x47)) < (6 : Int))) (
    LdI .i64 ⟨l, 6, none⟩ w.drew fun x55 =>
    rlog_Log_load.Call (some ⟨l, 0, none⟩) (IntKind.i64.wrap (x55 + (1 : Int))) w.drew fun r57 w1 =>
    rlog_Open.B1 l r57 w1 N1 R) (
    rlog_Open.B1 l false w.drew N1 R)
theorem rlog_Open.L1b_eq (l : Nat) (w : World)  (N1 : Nat → World → Prop) (R : Option Addr → World → Prop) (sB1 : Nat → Bool → World → Prop) :
    (
  LdI .i64 ⟨l, 6, none⟩ w.drew fun x43 =>
  LdI .i64 ⟨l, 3, none⟩ w.drew fun x47 =>
  Bm (decide ((IntKind.i64.wrap (x43 - x47)) < (6 : Int))) (
    LdI .i64 ⟨l, 6, none⟩ w.drew fun x55 =>
    rlog_Log_load.Call (some ⟨l, 0, none⟩) (IntKind.i64.wrap (x55 + (1 : Int))) w.drew fun r57 w1 =>
    sB1 l r57 w1) (
    sB1 l false w.drew)) = kstep Tryz.prog 69 Tryz.f65.results.toList (Tryz.f65.body.getD .skip) (rlog_Open.RV R) (kvc Tryz.prog 69 Tryz.f65.results.toList (Tryz.f65.body.getD .skip) (rlog_Open.RV R) [([(0, [1, 1, 1, 1, 1, 0, 0, 0, 0, 1]), (0, [1, 1, 1, 1, 1, 0, 0, 0, 1]), (2, [1, 1, 1, 1, 1, 0, 0, 0]), (1, [0]), (0, [1, 1, 1, 1, 1, 1])], fun σ w => dK (slotOf σ 3) fun l_ => dB (slotOf σ 58) fun t58_ => sB1 l_ t58_ w)] 2000) [(0, [1, 1, 1, 1, 1, 0, 0, 0]), (2, [1, 1, 1, 1, 1, 0, 0, 0]), (1, [0]), (0, [1, 1, 1, 1, 1, 1])] [(3, .pointer (some ⟨l, 0, none⟩))] w := by kernel_rfl
theorem rlog_Open.L1b_sound {R : Option Addr → World → Prop} {N1 : Nat → World → Prop} (hN1 : ∀ l w, N1 l w → KW Tryz.prog 65 69 (rlog_Open.RV R) ([(0, [1, 1, 1, 1, 1, 0, 0, 0]), (2, [1, 1, 1, 1, 1, 0, 0, 0]), (1, [0]), (0, [1, 1, 1, 1, 1, 1])].map (toItem (Tryz.f65.body.getD .skip))) [(3, .pointer (some ⟨l, 0, none⟩))] w) (l : Nat) (w : World) (h : rlog_Open.L1b l w  N1 R) :
    KW Tryz.prog 65 69 (rlog_Open.RV R) ([(0, [1, 1, 1, 1, 1, 0, 0, 0]), (2, [1, 1, 1, 1, 1, 0, 0, 0]), (1, [0]), (0, [1, 1, 1, 1, 1, 1])].map (toItem (Tryz.f65.body.getD .skip))) [(3, .pointer (some ⟨l, 0, none⟩))] w := by
  exact block_spec Tryz.func65 Tryz.mixed (stops_cons (fun σ w h => by
      obtain ⟨l_, e0, h⟩ := dK_elim h
      obtain ⟨t58_, e1, h⟩ := dB_elim h
      exact (rlog_Open.B1_sound hN1 l_ t58_ w h).weaken (Sub.cons (Sub.cons (Sub.nil _) e1) e0)) stops_nil) (Eq.mp (rlog_Open.L1b_eq l w  N1 R (fun l_ t58_ w => rlog_Open.B1 l_ t58_ w N1 R)) h)
def rlog_Open.L1 (l : Nat) (w : World)  (R : Option Addr → World → Prop) : Prop :=
  ∃ (I : Nat → Nat → World → Prop) (m : Nat), I m l w ∧ ∀ m l w, I m l w → rlog_Open.L1b l w  (fun l' w' => ∃ m', m' < m ∧ I m' l' w') R
theorem rlog_Open.L1_sound {R : Option Addr → World → Prop}  (l : Nat) (w : World) (h : rlog_Open.L1 l w  R) :
    KW Tryz.prog 65 69 (rlog_Open.RV R) ([(0, [1, 1, 1, 1, 1, 0, 0, 0]), (2, [1, 1, 1, 1, 1, 0, 0, 0]), (1, [0]), (0, [1, 1, 1, 1, 1, 1])].map (toItem (Tryz.f65.body.getD .skip))) [(3, .pointer (some ⟨l, 0, none⟩))] w := by
  obtain ⟨I, m, hBase, hr⟩ := h
  refine KW.loop (fun m σ w => ∃ (l : Nat), σ = [(3, .pointer (some ⟨l, 0, none⟩))] ∧ I m l w) ?_ m _ w ⟨l, rfl, hBase⟩
  rintro m ih σ w ⟨l, rfl, hI⟩
  exact rlog_Open.L1b_sound  (N1 := fun l' w' => ∃ m', m' < m ∧ I m' l' w') (fun l' w' hx => by obtain ⟨m', hlt, hI'⟩ := hx; exact ih m' hlt _ w' ⟨l', rfl, hI'⟩) l w (hr m l w hI)
def rlog_Open.B0 (st : Option Addr) (w : World)   (R : Option Addr → World → Prop) : Prop :=
  New (.cells #[.pointer st, .int .i64 (0 : Int), .int .i64 (0 : Int), .int .i64 (0 : Int), .int .i64 (0 : Int), .string (ByteArray.mk #[]), .int .i64 (0 : Int), .int .i64 (0 : Int), .int .i64 (0 : Int), .int .i64 (0 : Int), .int .i64 (0 : Int), .int .i64 (0 : Int), .int .i64 (0 : Int), .string (ByteArray.mk #[]), .string (ByteArray.mk #[]), .string (ByteArray.mk #[]), .string (ByteArray.mk #[]), .string (ByteArray.mk #[]), .string (ByteArray.mk #[])] 197) w fun b6 w1 =>
  store_Store_Meta.Call st w1 fun r11_0 r11_1 w2 =>
  Sts [.int .i64 r11_0] ⟨b6, 1, none⟩ 0 w2 fun w3 =>
  Sts [.int .i64 r11_1] ⟨b6, 2, none⟩ 0 w3 fun w4 =>
  store_Store_Snap.Call st w4 fun r23_0 r23_1 r23_2 w5 =>
  Sts [.int .i64 r23_0] ⟨b6, 3, none⟩ 0 w5 fun w6 =>
  Sts [.int .i64 r23_1] ⟨b6, 4, none⟩ 0 w6 fun w7 =>
  Sts [.string r23_2] ⟨b6, 5, none⟩ 0 w7 fun w8 =>
  LdI .i64 ⟨b6, 3, none⟩ w8 fun x37 =>
  Sts [.int .i64 x37] ⟨b6, 6, none⟩ 0 w8 fun w9 =>
  rlog_Open.L1 b6 w9  R
theorem rlog_Open.B0_eq (st : Option Addr) (w : World)   (R : Option Addr → World → Prop) (sL1 : Nat → World → Prop) :
    (
  New (.cells #[.pointer st, .int .i64 (0 : Int), .int .i64 (0 : Int), .int .i64 (0 : Int), .int .i64 (0 : Int), .string (ByteArray.mk #[]), .int .i64 (0 : Int), .int .i64 (0 : Int), .int .i64 (0 : Int), .int .i64 (0 : Int), .int .i64 (0 : Int), .int .i64 (0 : Int), .int .i64 (0 : Int), .string (ByteArray.mk #[]), .string (ByteArray.mk #[]), .string (ByteArray.mk #[]), .string (ByteArray.mk #[]), .string (ByteArray.mk #[]), .string (ByteArray.mk #[])] 197) w fun b6 w1 =>
  store_Store_Meta.Call st w1 fun r11_0 r11_1 w2 =>
  Sts [.int .i64 r11_0] ⟨b6, 1, none⟩ 0 w2 fun w3 =>
  Sts [.int .i64 r11_1] ⟨b6, 2, none⟩ 0 w3 fun w4 =>
  store_Store_Snap.Call st w4 fun r23_0 r23_1 r23_2 w5 =>
  Sts [.int .i64 r23_0] ⟨b6, 3, none⟩ 0 w5 fun w6 =>
  Sts [.int .i64 r23_1] ⟨b6, 4, none⟩ 0 w6 fun w7 =>
  Sts [.string r23_2] ⟨b6, 5, none⟩ 0 w7 fun w8 =>
  LdI .i64 ⟨b6, 3, none⟩ w8 fun x37 =>
  Sts [.int .i64 x37] ⟨b6, 6, none⟩ 0 w8 fun w9 =>
  sL1 b6 w9) = kstep Tryz.prog 69 Tryz.f65.results.toList (Tryz.f65.body.getD .skip) (rlog_Open.RV R) (kvc Tryz.prog 69 Tryz.f65.results.toList (Tryz.f65.body.getD .skip) (rlog_Open.RV R) [([(0, [1, 1, 1, 1, 1, 0, 0, 0]), (2, [1, 1, 1, 1, 1, 0, 0, 0]), (1, [0]), (0, [1, 1, 1, 1, 1, 1])], fun σ w => dK (slotOf σ 3) fun l_ => sL1 l_ w)] 2000) [(0, [])] [(0, .pointer st)] w := by kernel_rfl
theorem rlog_Open.B0_sound {R : Option Addr → World → Prop}  (st : Option Addr) (w : World) (h : rlog_Open.B0 st w   R) :
    KW Tryz.prog 65 69 (rlog_Open.RV R) ([(0, [])].map (toItem (Tryz.f65.body.getD .skip))) [(0, .pointer st)] w := by
  exact block_spec Tryz.func65 Tryz.mixed (stops_cons (fun σ w h => by
      obtain ⟨l_, e0, h⟩ := dK_elim h
      exact (rlog_Open.L1_sound  l_ w h).weaken (Sub.cons (Sub.nil _) e0)) stops_nil) (Eq.mp (rlog_Open.B0_eq st w   R (fun l_ w => rlog_Open.L1 l_ w  R)) h)
theorem rlog_Open.sound (st : Option Addr) (w : World) (R : Option Addr → World → Prop) (h : rlog_Open.B0 st w R) : rlog_Open.Call st w R := by
  have hc := calls_of_block (args := #[.pointer st]) Tryz.func65 (body := (Tryz.f65.body.getD .skip)) (by kernel_rfl) (by kernel_rfl) (args_slot _) (rlog_Open.B0_sound st w h)
  exact hc.mono fun e w' he => by
    obtain ⟨v, rfl, hv⟩ := he
    exact rlog_Open.RV_elim hv
def elect_New.B2 (id0 : Int) (w : World)   (R : Option Addr → World → Prop) : Prop :=
  New (.cells #[.int .i64 id0, .int .i64 (0 : Int), .int .i64 (0 : Int), .int .i64 (0 : Int), .int .i64 (0 : Int), .int .i64 (0 : Int)] 202) w fun b12 w1 =>
  elect_Elect_put.Call (some ⟨b12, 0, none⟩) (0 : Int) (-1 : Int) (-1 : Int) w1 fun w2 =>
  elect_Elect_wind.Call (some ⟨b12, 0, none⟩) w2 fun w3 =>
  R (some ⟨b12, 0, none⟩) w3
theorem elect_New.B2_eq (id0 : Int) (w : World)   (R : Option Addr → World → Prop)  :
    (
  New (.cells #[.int .i64 id0, .int .i64 (0 : Int), .int .i64 (0 : Int), .int .i64 (0 : Int), .int .i64 (0 : Int), .int .i64 (0 : Int)] 202) w fun b12 w1 =>
  elect_Elect_put.Call (some ⟨b12, 0, none⟩) (0 : Int) (-1 : Int) (-1 : Int) w1 fun w2 =>
  elect_Elect_wind.Call (some ⟨b12, 0, none⟩) w2 fun w3 =>
  R (some ⟨b12, 0, none⟩) w3) = kstep Tryz.prog 18 Tryz.f66.results.toList (Tryz.f66.body.getD .skip) (elect_New.RV R) (kvc Tryz.prog 18 Tryz.f66.results.toList (Tryz.f66.body.getD .skip) (elect_New.RV R) [] 2000) [(0, [1, 1])] [(0, .int .i64 id0)] w := by kernel_rfl
theorem elect_New.B2_sound {R : Option Addr → World → Prop}  (id0 : Int) (w : World) (h : elect_New.B2 id0 w   R) :
    KW Tryz.prog 66 18 (elect_New.RV R) ([(0, [1, 1])].map (toItem (Tryz.f66.body.getD .skip))) [(0, .int .i64 id0)] w := by
  exact block_spec Tryz.func66 Tryz.mixed stops_nil (Eq.mp (elect_New.B2_eq id0 w   R ) h)
def elect_New.B1 (id0 : Int) (t9 : Bool) (w : World)   (R : Option Addr → World → Prop) : Prop :=
  Bm t9 (
    elect_New.B2 (0 : Int) w  R) (
    elect_New.B2 id0 w  R)
theorem elect_New.B1_eq (id0 : Int) (t9 : Bool) (w : World)   (R : Option Addr → World → Prop) (sB2 : Int → World → Prop) :
    (
  Bm t9 (
    sB2 (0 : Int) w) (
    sB2 id0 w)) = kstep Tryz.prog 18 Tryz.f66.results.toList (Tryz.f66.body.getD .skip) (elect_New.RV R) (kvc Tryz.prog 18 Tryz.f66.results.toList (Tryz.f66.body.getD .skip) (elect_New.RV R) [([(0, [1, 1])], fun σ w => dI .i64 (slotOf σ 0) fun id0_ => sB2 id0_ w)] 2000) [(0, [1, 0, 1]), (0, [1, 1])] [(0, .int .i64 id0), (9, .bool t9)] w := by kernel_rfl
theorem elect_New.B1_sound {R : Option Addr → World → Prop}  (id0 : Int) (t9 : Bool) (w : World) (h : elect_New.B1 id0 t9 w   R) :
    KW Tryz.prog 66 18 (elect_New.RV R) ([(0, [1, 0, 1]), (0, [1, 1])].map (toItem (Tryz.f66.body.getD .skip))) [(0, .int .i64 id0), (9, .bool t9)] w := by
  exact block_spec Tryz.func66 Tryz.mixed (stops_cons (fun σ w h => by
      obtain ⟨id0_, e0, h⟩ := dI_elim h
      exact (elect_New.B2_sound  id0_ w h).weaken (Sub.cons (Sub.nil _) e0)) stops_nil) (Eq.mp (elect_New.B1_eq id0 t9 w   R (fun id0_ w => elect_New.B2 id0_ w  R)) h)
def elect_New.B0 (id0 : Int) (w : World)   (R : Option Addr → World → Prop) : Prop :=
  Bm (decide (id0 < (0 : Int))) (
    elect_New.B1 id0 true w  R) (
    elect_New.B1 id0 (decide (id0 ≥ (3 : Int))) w  R)
theorem elect_New.B0_eq (id0 : Int) (w : World)   (R : Option Addr → World → Prop) (sB1 : Int → Bool → World → Prop) :
    (
  Bm (decide (id0 < (0 : Int))) (
    sB1 id0 true w) (
    sB1 id0 (decide (id0 ≥ (3 : Int))) w)) = kstep Tryz.prog 18 Tryz.f66.results.toList (Tryz.f66.body.getD .skip) (elect_New.RV R) (kvc Tryz.prog 18 Tryz.f66.results.toList (Tryz.f66.body.getD .skip) (elect_New.RV R) [([(0, [1, 0, 1]), (0, [1, 1])], fun σ w => dI .i64 (slotOf σ 0) fun id0_ => dB (slotOf σ 9) fun t9_ => sB1 id0_ t9_ w)] 2000) [(0, [])] [(0, .int .i64 id0)] w := by kernel_rfl
theorem elect_New.B0_sound {R : Option Addr → World → Prop}  (id0 : Int) (w : World) (h : elect_New.B0 id0 w   R) :
    KW Tryz.prog 66 18 (elect_New.RV R) ([(0, [])].map (toItem (Tryz.f66.body.getD .skip))) [(0, .int .i64 id0)] w := by
  exact block_spec Tryz.func66 Tryz.mixed (stops_cons (fun σ w h => by
      obtain ⟨id0_, e0, h⟩ := dI_elim h
      obtain ⟨t9_, e1, h⟩ := dB_elim h
      exact (elect_New.B1_sound  id0_ t9_ w h).weaken (Sub.cons (Sub.cons (Sub.nil _) e1) e0)) stops_nil) (Eq.mp (elect_New.B0_eq id0 w   R (fun id0_ t9_ w => elect_New.B1 id0_ t9_ w  R)) h)
theorem elect_New.sound (id0 : Int) (w : World) (R : Option Addr → World → Prop) (h : elect_New.B0 id0 w R) : elect_New.Call id0 w R := by
  have hc := calls_of_block (args := #[.int .i64 id0]) Tryz.func66 (body := (Tryz.f66.body.getD .skip)) (by kernel_rfl) (by kernel_rfl) (args_slot _) (elect_New.B0_sound id0 w h)
  exact hc.mono fun e w' he => by
    obtain ⟨v, rfl, hv⟩ := he
    exact elect_New.RV_elim hv
def sync_Open.B0 (lg el : Option Addr) (w : World)   (R : Option Addr → World → Prop) : Prop :=
  New (.cells #[.pointer lg, .pointer el, .int .i64 (0 : Int), .int .i64 (0 : Int), .int .i64 (0 : Int), .int .i64 (0 : Int), .int .i64 (0 : Int), .int .i64 (0 : Int), .int .i64 (0 : Int), .int .i64 (0 : Int), .int .i64 (0 : Int), .int .i64 (0 : Int), .int .i64 (0 : Int), .int .i64 (0 : Int), .int .i64 (0 : Int), .int .i64 (0 : Int), .int .i64 (0 : Int), .int .i64 (0 : Int), .bool false, .slice none 0 0, .string (ByteArray.mk #[]), .int .i64 (0 : Int), .int .i64 (0 : Int), .int .i64 (0 : Int), .int .i64 (0 : Int), .int .i64 (0 : Int), .int .i64 (0 : Int), .int .i64 (0 : Int), .bool false, .slice none 0 0, .string (ByteArray.mk #[]), .int .i64 (0 : Int), .int .i64 (0 : Int), .int .i64 (0 : Int), .int .i64 (0 : Int), .int .i64 (0 : Int), .int .i64 (0 : Int), .int .i64 (0 : Int), .bool false, .slice none 0 0, .string (ByteArray.mk #[]), .int .i64 (0 : Int)] 174) w fun b11 w1 =>
  rlog_Log_Term.Call lg w1 fun r13 w2 =>
  rlog_Log_Vote.Call lg w2 fun r15 w3 =>
  elect_Elect_Restore.Call el r13 r15 w3 fun r19 w4 =>
  rlog_Log_Base.Call lg w4 fun r22 w5 =>
  Sts [.int .i64 r22] ⟨b11, 2, none⟩ 0 w5 fun w6 =>
  sync_Sync_refresh.Call (some ⟨b11, 0, none⟩) w6 fun w7 =>
  R (some ⟨b11, 0, none⟩) w7
theorem sync_Open.B0_eq (lg el : Option Addr) (w : World)   (R : Option Addr → World → Prop)  :
    (
  New (.cells #[.pointer lg, .pointer el, .int .i64 (0 : Int), .int .i64 (0 : Int), .int .i64 (0 : Int), .int .i64 (0 : Int), .int .i64 (0 : Int), .int .i64 (0 : Int), .int .i64 (0 : Int), .int .i64 (0 : Int), .int .i64 (0 : Int), .int .i64 (0 : Int), .int .i64 (0 : Int), .int .i64 (0 : Int), .int .i64 (0 : Int), .int .i64 (0 : Int), .int .i64 (0 : Int), .int .i64 (0 : Int), .bool false, .slice none 0 0, .string (ByteArray.mk #[]), .int .i64 (0 : Int), .int .i64 (0 : Int), .int .i64 (0 : Int), .int .i64 (0 : Int), .int .i64 (0 : Int), .int .i64 (0 : Int), .int .i64 (0 : Int), .bool false, .slice none 0 0, .string (ByteArray.mk #[]), .int .i64 (0 : Int), .int .i64 (0 : Int), .int .i64 (0 : Int), .int .i64 (0 : Int), .int .i64 (0 : Int), .int .i64 (0 : Int), .int .i64 (0 : Int), .bool false, .slice none 0 0, .string (ByteArray.mk #[]), .int .i64 (0 : Int)] 174) w fun b11 w1 =>
  rlog_Log_Term.Call lg w1 fun r13 w2 =>
  rlog_Log_Vote.Call lg w2 fun r15 w3 =>
  elect_Elect_Restore.Call el r13 r15 w3 fun r19 w4 =>
  rlog_Log_Base.Call lg w4 fun r22 w5 =>
  Sts [.int .i64 r22] ⟨b11, 2, none⟩ 0 w5 fun w6 =>
  sync_Sync_refresh.Call (some ⟨b11, 0, none⟩) w6 fun w7 =>
  R (some ⟨b11, 0, none⟩) w7) = kstep Tryz.prog 28 Tryz.f67.results.toList (Tryz.f67.body.getD .skip) (sync_Open.RV R) (kvc Tryz.prog 28 Tryz.f67.results.toList (Tryz.f67.body.getD .skip) (sync_Open.RV R) [] 2000) [(0, [])] [(0, .pointer lg), (1, .pointer el)] w := by kernel_rfl
theorem sync_Open.B0_sound {R : Option Addr → World → Prop}  (lg el : Option Addr) (w : World) (h : sync_Open.B0 lg el w   R) :
    KW Tryz.prog 67 28 (sync_Open.RV R) ([(0, [])].map (toItem (Tryz.f67.body.getD .skip))) [(0, .pointer lg), (1, .pointer el)] w := by
  exact block_spec Tryz.func67 Tryz.mixed stops_nil (Eq.mp (sync_Open.B0_eq lg el w   R ) h)
theorem sync_Open.sound (lg el : Option Addr) (w : World) (R : Option Addr → World → Prop) (h : sync_Open.B0 lg el w R) : sync_Open.Call lg el w R := by
  have hc := calls_of_block (args := #[.pointer lg, .pointer el]) Tryz.func67 (body := (Tryz.f67.body.getD .skip)) (by kernel_rfl) (by kernel_rfl) (args_slot _) (sync_Open.B0_sound lg el w h)
  exact hc.mono fun e w' he => by
    obtain ⟨v, rfl, hv⟩ := he
    exact sync_Open.RV_elim hv
def rlogm_New.B0  (w : World)   (R : Option Addr → World → Prop) : Prop :=
  New (.cells #[.int .i64 (0 : Int), .int .i64 (-1 : Int), .int .i64 (0 : Int), .int .i64 (0 : Int), .string (ByteArray.mk #[]), .int .i64 (0 : Int), .int .i64 (0 : Int), .string (ByteArray.mk #[]), .int .i64 (0 : Int), .string (ByteArray.mk #[]), .int .i64 (0 : Int), .string (ByteArray.mk #[]), .int .i64 (0 : Int), .string (ByteArray.mk #[]), .int .i64 (0 : Int), .string (ByteArray.mk #[]), .int .i64 (0 : Int), .string (ByteArray.mk #[])] 208) w fun b3 w1 =>
  New (.cells #[.pointer (some ⟨b3, 0, none⟩), .pointer none, .slice none 0 0] 211) w1 fun b5 w2 =>
  LdP ⟨b5, 0, none⟩ w2 fun x10 =>
  rlogm_state_clone.Call x10 w2 fun r11 w3 =>
  Sts [.pointer r11] ⟨b5, 1, none⟩ 0 w3 fun w4 =>
  R (some ⟨b5, 0, none⟩) w4
theorem rlogm_New.B0_eq  (w : World)   (R : Option Addr → World → Prop)  :
    (
  New (.cells #[.int .i64 (0 : Int), .int .i64 (-1 : Int), .int .i64 (0 : Int), .int .i64 (0 : Int), .string (ByteArray.mk #[]), .int .i64 (0 : Int), .int .i64 (0 : Int), .string (ByteArray.mk #[]), .int .i64 (0 : Int), .string (ByteArray.mk #[]), .int .i64 (0 : Int), .string (ByteArray.mk #[]), .int .i64 (0 : Int), .string (ByteArray.mk #[]), .int .i64 (0 : Int), .string (ByteArray.mk #[]), .int .i64 (0 : Int), .string (ByteArray.mk #[])] 208) w fun b3 w1 =>
  New (.cells #[.pointer (some ⟨b3, 0, none⟩), .pointer none, .slice none 0 0] 211) w1 fun b5 w2 =>
  LdP ⟨b5, 0, none⟩ w2 fun x10 =>
  rlogm_state_clone.Call x10 w2 fun r11 w3 =>
  Sts [.pointer r11] ⟨b5, 1, none⟩ 0 w3 fun w4 =>
  R (some ⟨b5, 0, none⟩) w4) = kstep Tryz.prog 15 Tryz.f68.results.toList (Tryz.f68.body.getD .skip) (rlogm_New.RV R) (kvc Tryz.prog 15 Tryz.f68.results.toList (Tryz.f68.body.getD .skip) (rlogm_New.RV R) [] 2000) [(0, [])] [] w := by kernel_rfl
theorem rlogm_New.B0_sound {R : Option Addr → World → Prop}   (w : World) (h : rlogm_New.B0  w   R) :
    KW Tryz.prog 68 15 (rlogm_New.RV R) ([(0, [])].map (toItem (Tryz.f68.body.getD .skip))) [] w := by
  exact block_spec Tryz.func68 Tryz.mixed stops_nil (Eq.mp (rlogm_New.B0_eq  w   R ) h)
theorem rlogm_New.sound  (w : World) (R : Option Addr → World → Prop) (h : rlogm_New.B0  w R) : rlogm_New.Call  w R := by
  have hc := calls_of_block (args := #[]) Tryz.func68 (body := (Tryz.f68.body.getD .skip)) (by kernel_rfl) (by kernel_rfl) (args_slot _) (rlogm_New.B0_sound  w h)
  exact hc.mono fun e w' he => by
    obtain ⟨v, rfl, hv⟩ := he
    exact rlogm_New.RV_elim hv
def electm_New.B2 (id0 : Int) (w : World)   (R : Option Addr → World → Prop) : Prop :=
  New (.cells #[.int .i64 id0, .int .i64 (0 : Int), .int .i64 (-1 : Int), .int .i64 (0 : Int), .int .i64 (-1 : Int), .int .i64 (0 : Int), .bool false, .bool false, .bool false] 214) w fun b11 w1 =>
  R (some ⟨b11, 0, none⟩) w1
theorem electm_New.B2_eq (id0 : Int) (w : World)   (R : Option Addr → World → Prop)  :
    (
  New (.cells #[.int .i64 id0, .int .i64 (0 : Int), .int .i64 (-1 : Int), .int .i64 (0 : Int), .int .i64 (-1 : Int), .int .i64 (0 : Int), .bool false, .bool false, .bool false] 214) w fun b11 w1 =>
  R (some ⟨b11, 0, none⟩) w1) = kstep Tryz.prog 12 Tryz.f69.results.toList (Tryz.f69.body.getD .skip) (electm_New.RV R) (kvc Tryz.prog 12 Tryz.f69.results.toList (Tryz.f69.body.getD .skip) (electm_New.RV R) [] 2000) [(0, [1, 1])] [(0, .int .i64 id0)] w := by kernel_rfl
theorem electm_New.B2_sound {R : Option Addr → World → Prop}  (id0 : Int) (w : World) (h : electm_New.B2 id0 w   R) :
    KW Tryz.prog 69 12 (electm_New.RV R) ([(0, [1, 1])].map (toItem (Tryz.f69.body.getD .skip))) [(0, .int .i64 id0)] w := by
  exact block_spec Tryz.func69 Tryz.mixed stops_nil (Eq.mp (electm_New.B2_eq id0 w   R ) h)
def electm_New.B1 (id0 : Int) (t8 : Bool) (w : World)   (R : Option Addr → World → Prop) : Prop :=
  Bm t8 (
    electm_New.B2 (0 : Int) w  R) (
    electm_New.B2 id0 w  R)
theorem electm_New.B1_eq (id0 : Int) (t8 : Bool) (w : World)   (R : Option Addr → World → Prop) (sB2 : Int → World → Prop) :
    (
  Bm t8 (
    sB2 (0 : Int) w) (
    sB2 id0 w)) = kstep Tryz.prog 12 Tryz.f69.results.toList (Tryz.f69.body.getD .skip) (electm_New.RV R) (kvc Tryz.prog 12 Tryz.f69.results.toList (Tryz.f69.body.getD .skip) (electm_New.RV R) [([(0, [1, 1])], fun σ w => dI .i64 (slotOf σ 0) fun id0_ => sB2 id0_ w)] 2000) [(0, [1, 0, 1]), (0, [1, 1])] [(0, .int .i64 id0), (8, .bool t8)] w := by kernel_rfl
theorem electm_New.B1_sound {R : Option Addr → World → Prop}  (id0 : Int) (t8 : Bool) (w : World) (h : electm_New.B1 id0 t8 w   R) :
    KW Tryz.prog 69 12 (electm_New.RV R) ([(0, [1, 0, 1]), (0, [1, 1])].map (toItem (Tryz.f69.body.getD .skip))) [(0, .int .i64 id0), (8, .bool t8)] w := by
  exact block_spec Tryz.func69 Tryz.mixed (stops_cons (fun σ w h => by
      obtain ⟨id0_, e0, h⟩ := dI_elim h
      exact (electm_New.B2_sound  id0_ w h).weaken (Sub.cons (Sub.nil _) e0)) stops_nil) (Eq.mp (electm_New.B1_eq id0 t8 w   R (fun id0_ w => electm_New.B2 id0_ w  R)) h)
def electm_New.B0 (id0 : Int) (w : World)   (R : Option Addr → World → Prop) : Prop :=
  Bm (decide (id0 < (0 : Int))) (
    electm_New.B1 id0 true w  R) (
    electm_New.B1 id0 (decide (id0 ≥ (3 : Int))) w  R)
theorem electm_New.B0_eq (id0 : Int) (w : World)   (R : Option Addr → World → Prop) (sB1 : Int → Bool → World → Prop) :
    (
  Bm (decide (id0 < (0 : Int))) (
    sB1 id0 true w) (
    sB1 id0 (decide (id0 ≥ (3 : Int))) w)) = kstep Tryz.prog 12 Tryz.f69.results.toList (Tryz.f69.body.getD .skip) (electm_New.RV R) (kvc Tryz.prog 12 Tryz.f69.results.toList (Tryz.f69.body.getD .skip) (electm_New.RV R) [([(0, [1, 0, 1]), (0, [1, 1])], fun σ w => dI .i64 (slotOf σ 0) fun id0_ => dB (slotOf σ 8) fun t8_ => sB1 id0_ t8_ w)] 2000) [(0, [])] [(0, .int .i64 id0)] w := by kernel_rfl
theorem electm_New.B0_sound {R : Option Addr → World → Prop}  (id0 : Int) (w : World) (h : electm_New.B0 id0 w   R) :
    KW Tryz.prog 69 12 (electm_New.RV R) ([(0, [])].map (toItem (Tryz.f69.body.getD .skip))) [(0, .int .i64 id0)] w := by
  exact block_spec Tryz.func69 Tryz.mixed (stops_cons (fun σ w h => by
      obtain ⟨id0_, e0, h⟩ := dI_elim h
      obtain ⟨t8_, e1, h⟩ := dB_elim h
      exact (electm_New.B1_sound  id0_ t8_ w h).weaken (Sub.cons (Sub.cons (Sub.nil _) e1) e0)) stops_nil) (Eq.mp (electm_New.B0_eq id0 w   R (fun id0_ t8_ w => electm_New.B1 id0_ t8_ w  R)) h)
theorem electm_New.sound (id0 : Int) (w : World) (R : Option Addr → World → Prop) (h : electm_New.B0 id0 w R) : electm_New.Call id0 w R := by
  have hc := calls_of_block (args := #[.int .i64 id0]) Tryz.func69 (body := (Tryz.f69.body.getD .skip)) (by kernel_rfl) (by kernel_rfl) (args_slot _) (electm_New.B0_sound id0 w h)
  exact hc.mono fun e w' he => by
    obtain ⟨v, rfl, hv⟩ := he
    exact electm_New.RV_elim hv
def syncm_open.B0 (lg el : Option Addr) (w : World)   (R : Option Addr → World → Prop) : Prop :=
  New (.cells #[.pointer lg, .pointer el, .int .i64 (0 : Int), .int .i64 (0 : Int), .int .i64 (0 : Int), .int .i64 (0 : Int), .int .i64 (0 : Int), .int .i64 (0 : Int), .int .i64 (0 : Int)] 139) w fun b11 w1 =>
  rlogm_Log_Term.Call lg w1 fun r13 w2 =>
  rlogm_Log_Vote.Call lg w2 fun r15 w3 =>
  electm_Elect_Restore.Call el r13 r15 w3 fun r19 w4 =>
  rlogm_Log_Base.Call lg w4 fun r22 w5 =>
  Sts [.int .i64 r22] ⟨b11, 2, none⟩ 0 w5 fun w6 =>
  R (some ⟨b11, 0, none⟩) w6
theorem syncm_open.B0_eq (lg el : Option Addr) (w : World)   (R : Option Addr → World → Prop)  :
    (
  New (.cells #[.pointer lg, .pointer el, .int .i64 (0 : Int), .int .i64 (0 : Int), .int .i64 (0 : Int), .int .i64 (0 : Int), .int .i64 (0 : Int), .int .i64 (0 : Int), .int .i64 (0 : Int)] 139) w fun b11 w1 =>
  rlogm_Log_Term.Call lg w1 fun r13 w2 =>
  rlogm_Log_Vote.Call lg w2 fun r15 w3 =>
  electm_Elect_Restore.Call el r13 r15 w3 fun r19 w4 =>
  rlogm_Log_Base.Call lg w4 fun r22 w5 =>
  Sts [.int .i64 r22] ⟨b11, 2, none⟩ 0 w5 fun w6 =>
  R (some ⟨b11, 0, none⟩) w6) = kstep Tryz.prog 26 Tryz.f70.results.toList (Tryz.f70.body.getD .skip) (syncm_open.RV R) (kvc Tryz.prog 26 Tryz.f70.results.toList (Tryz.f70.body.getD .skip) (syncm_open.RV R) [] 2000) [(0, [])] [(0, .pointer lg), (1, .pointer el)] w := by kernel_rfl
theorem syncm_open.B0_sound {R : Option Addr → World → Prop}  (lg el : Option Addr) (w : World) (h : syncm_open.B0 lg el w   R) :
    KW Tryz.prog 70 26 (syncm_open.RV R) ([(0, [])].map (toItem (Tryz.f70.body.getD .skip))) [(0, .pointer lg), (1, .pointer el)] w := by
  exact block_spec Tryz.func70 Tryz.mixed stops_nil (Eq.mp (syncm_open.B0_eq lg el w   R ) h)
theorem syncm_open.sound (lg el : Option Addr) (w : World) (R : Option Addr → World → Prop) (h : syncm_open.B0 lg el w R) : syncm_open.Call lg el w R := by
  have hc := calls_of_block (args := #[.pointer lg, .pointer el]) Tryz.func70 (body := (Tryz.f70.body.getD .skip)) (by kernel_rfl) (by kernel_rfl) (args_slot _) (syncm_open.B0_sound lg el w h)
  exact hc.mono fun e w' he => by
    obtain ⟨v, rfl, hv⟩ := he
    exact syncm_open.RV_elim hv
def nodem_Node_catchUp.B0 (n : Option Addr) (w : World)   (R : World → Prop) : Prop :=
  Pn n fun a =>
  LdP a w fun x6 =>
  syncm_Sync_View.Call x6 w fun r7 w1 =>
  Pn r7 fun a_1 =>
  LdI .i64 (a_1.add 10) w1.drew fun x11 =>
  Pn n fun a_2 =>
  LdI .i64 (a_2.add 2) w1.drew fun x15 =>
  Bm (decide (x11 > x15)) (
    Pn n fun a_3 =>
    LdP (a_3.add 1) w1.drew.drew fun x20 =>
    Pn r7 fun a_4 =>
    LdS (a_4.add 13) w1.drew.drew fun x24 =>
    kvm_KV_Restore.Call x20 x24 w1.drew.drew fun r25 w2 =>
    Pn r7 fun a_5 =>
    LdI .i64 (a_5.add 10) w2 fun x30 =>
    Pn n fun a_6 =>
    Sts [.int .i64 x30] (a_6.add 2) 0 w2 fun w3 =>
    R  w3) (
    R  w1.drew)
theorem nodem_Node_catchUp.B0_eq (n : Option Addr) (w : World)   (R : World → Prop)  :
    (
  Pn n fun a =>
  LdP a w fun x6 =>
  syncm_Sync_View.Call x6 w fun r7 w1 =>
  Pn r7 fun a_1 =>
  LdI .i64 (a_1.add 10) w1.drew fun x11 =>
  Pn n fun a_2 =>
  LdI .i64 (a_2.add 2) w1.drew fun x15 =>
  Bm (decide (x11 > x15)) (
    Pn n fun a_3 =>
    LdP (a_3.add 1) w1.drew.drew fun x20 =>
    Pn r7 fun a_4 =>
    LdS (a_4.add 13) w1.drew.drew fun x24 =>
    kvm_KV_Restore.Call x20 x24 w1.drew.drew fun r25 w2 =>
    Pn r7 fun a_5 =>
    LdI .i64 (a_5.add 10) w2 fun x30 =>
    Pn n fun a_6 =>
    Sts [.int .i64 x30] (a_6.add 2) 0 w2 fun w3 =>
    R  w3) (
    R  w1.drew)) = kstep Tryz.prog 33 Tryz.f71.results.toList (Tryz.f71.body.getD .skip) (nodem_Node_catchUp.RV R) (kvc Tryz.prog 33 Tryz.f71.results.toList (Tryz.f71.body.getD .skip) (nodem_Node_catchUp.RV R) [] 2000) [(0, [])] [(0, .pointer n)] w := by kernel_rfl
theorem nodem_Node_catchUp.B0_sound {R : World → Prop}  (n : Option Addr) (w : World) (h : nodem_Node_catchUp.B0 n w   R) :
    KW Tryz.prog 71 33 (nodem_Node_catchUp.RV R) ([(0, [])].map (toItem (Tryz.f71.body.getD .skip))) [(0, .pointer n)] w := by
  exact block_spec Tryz.func71 Tryz.mixed stops_nil (Eq.mp (nodem_Node_catchUp.B0_eq n w   R ) h)
theorem nodem_Node_catchUp.sound (n : Option Addr) (w : World) (R : World → Prop) (h : nodem_Node_catchUp.B0 n w R) : nodem_Node_catchUp.Call n w R := by
  have hc := calls_of_block (args := #[.pointer n]) Tryz.func71 (body := (Tryz.f71.body.getD .skip)) (by kernel_rfl) (by kernel_rfl) (args_slot _) (nodem_Node_catchUp.B0_sound n w h)
  exact hc.mono fun e w' he => by
    obtain ⟨v, rfl, hv⟩ := he
    exact nodem_Node_catchUp.RV_elim hv
def rlogm_Log_Mark.B0 (l : Option Addr) (w : World)   (R : World → Prop) : Prop :=
  Pn l fun a =>
  LdP a w fun x6 =>
  rlogm_state_clone.Call x6 w fun r7 w1 =>
  Pn l fun a_1 =>
  Sts [.pointer r7] (a_1.add 1) 0 w1 fun w2 =>
  Pn l fun a_2 =>
  Sts [.slice none 0 0] (a_2.add 2) 0 w2 fun w3 =>
  R  w3
theorem rlogm_Log_Mark.B0_eq (l : Option Addr) (w : World)   (R : World → Prop)  :
    (
  Pn l fun a =>
  LdP a w fun x6 =>
  rlogm_state_clone.Call x6 w fun r7 w1 =>
  Pn l fun a_1 =>
  Sts [.pointer r7] (a_1.add 1) 0 w1 fun w2 =>
  Pn l fun a_2 =>
  Sts [.slice none 0 0] (a_2.add 2) 0 w2 fun w3 =>
  R  w3) = kstep Tryz.prog 13 Tryz.f72.results.toList (Tryz.f72.body.getD .skip) (rlogm_Log_Mark.RV R) (kvc Tryz.prog 13 Tryz.f72.results.toList (Tryz.f72.body.getD .skip) (rlogm_Log_Mark.RV R) [] 2000) [(0, [])] [(0, .pointer l)] w := by kernel_rfl
theorem rlogm_Log_Mark.B0_sound {R : World → Prop}  (l : Option Addr) (w : World) (h : rlogm_Log_Mark.B0 l w   R) :
    KW Tryz.prog 72 13 (rlogm_Log_Mark.RV R) ([(0, [])].map (toItem (Tryz.f72.body.getD .skip))) [(0, .pointer l)] w := by
  exact block_spec Tryz.func72 Tryz.mixed stops_nil (Eq.mp (rlogm_Log_Mark.B0_eq l w   R ) h)
theorem rlogm_Log_Mark.sound (l : Option Addr) (w : World) (R : World → Prop) (h : rlogm_Log_Mark.B0 l w R) : rlogm_Log_Mark.Call l w R := by
  have hc := calls_of_block (args := #[.pointer l]) Tryz.func72 (body := (Tryz.f72.body.getD .skip)) (by kernel_rfl) (by kernel_rfl) (args_slot _) (rlogm_Log_Mark.B0_sound l w h)
  exact hc.mono fun e w' he => by
    obtain ⟨v, rfl, hv⟩ := he
    exact rlogm_Log_Mark.RV_elim hv
def sync_Sync_Tick.B2 (s : Option Addr) (id0 term p : Int) (w : World) (N1 : Option Addr → Int → Int → Int → World → Prop)  (R : Option Addr → Nat → Nat → World → Prop) : Prop :=
  N1 s id0 term (IntKind.i64.wrap (p + (1 : Int))) w
theorem sync_Sync_Tick.B2_eq (s : Option Addr) (id0 term p : Int) (w : World) (N1 : Option Addr → Int → Int → Int → World → Prop)  (R : Option Addr → Nat → Nat → World → Prop)  :
    (
  N1 s id0 term (IntKind.i64.wrap (p + (1 : Int))) w) = kstep Tryz.prog 53 Tryz.f73.results.toList (Tryz.f73.body.getD .skip) (sync_Sync_Tick.RV R) (kvc Tryz.prog 53 Tryz.f73.results.toList (Tryz.f73.body.getD .skip) (sync_Sync_Tick.RV R) [([(0, [1, 1, 1, 1, 0, 1, 0, 1, 1, 1, 0, 0]), (2, [1, 1, 1, 1, 0, 1, 0, 1, 1, 1, 0, 0]), (1, [0]), (0, [1, 1, 1, 1, 1])], fun σ w => dP (slotOf σ 0) fun s_ => dI .i64 (slotOf σ 4) fun id0_ => dI .i64 (slotOf σ 5) fun term_ => dI .i64 (slotOf σ 6) fun p_ => N1 s_ id0_ term_ p_ w)] 2000) [(0, [1, 1, 1, 1, 0, 1, 0, 1, 1, 1, 0, 0, 1, 1]), (2, [1, 1, 1, 1, 0, 1, 0, 1, 1, 1, 0, 0]), (1, [0]), (0, [1, 1, 1, 1, 1])] [(0, .pointer s), (4, .int .i64 id0), (5, .int .i64 term), (6, .int .i64 p)] w := by kernel_rfl
theorem sync_Sync_Tick.B2_sound {R : Option Addr → Nat → Nat → World → Prop} {N1 : Option Addr → Int → Int → Int → World → Prop} (hN1 : ∀ s id0 term p w, N1 s id0 term p w → KW Tryz.prog 73 53 (sync_Sync_Tick.RV R) ([(0, [1, 1, 1, 1, 0, 1, 0, 1, 1, 1, 0, 0]), (2, [1, 1, 1, 1, 0, 1, 0, 1, 1, 1, 0, 0]), (1, [0]), (0, [1, 1, 1, 1, 1])].map (toItem (Tryz.f73.body.getD .skip))) [(0, .pointer s), (4, .int .i64 id0), (5, .int .i64 term), (6, .int .i64 p)] w) (s : Option Addr) (id0 term p : Int) (w : World) (h : sync_Sync_Tick.B2 s id0 term p w N1  R) :
    KW Tryz.prog 73 53 (sync_Sync_Tick.RV R) ([(0, [1, 1, 1, 1, 0, 1, 0, 1, 1, 1, 0, 0, 1, 1]), (2, [1, 1, 1, 1, 0, 1, 0, 1, 1, 1, 0, 0]), (1, [0]), (0, [1, 1, 1, 1, 1])].map (toItem (Tryz.f73.body.getD .skip))) [(0, .pointer s), (4, .int .i64 id0), (5, .int .i64 term), (6, .int .i64 p)] w := by
  exact block_spec Tryz.func73 Tryz.mixed (stops_cons (fun σ w h => by
      obtain ⟨s_, e0, h⟩ := dP_elim h
      obtain ⟨id0_, e1, h⟩ := dI_elim h
      obtain ⟨term_, e2, h⟩ := dI_elim h
      obtain ⟨p_, e3, h⟩ := dI_elim h
      exact (hN1 s_ id0_ term_ p_ w h).weaken (Sub.cons (Sub.cons (Sub.cons (Sub.cons (Sub.nil _) e3) e2) e1) e0)) stops_nil) (Eq.mp (sync_Sync_Tick.B2_eq s id0 term p w N1  R ) h)
def sync_Sync_Tick.L1b (s : Option Addr) (id0 term p : Int) (w : World)  (N1 : Option Addr → Int → Int → Int → World → Prop) (R : Option Addr → Nat → Nat → World → Prop) : Prop :=
  Bm (decide (p < (3 : Int))) (
    Bm (p != id0) (
      Pn s fun a =>
      LdI .i64 (a.add 9) w.drew fun x44 =>
      Pn s fun a_1 =>
      LdI .i64 (a_1.add 10) w.drew fun x48 =>
      sync_Sync_post.Call s (1 : Int) id0 p term x44 x48 (0 : Int) false none 0 0 (ByteArray.mk #[]) w.drew fun w1 =>
      sync_Sync_Tick.B2 s id0 term p w1 N1 R) (
      sync_Sync_Tick.B2 s id0 term p w N1 R)) (
    sync_Sync_flush.Call s w fun r52_b r52_l r52_c w2 =>
    R r52_b r52_l r52_c w2)
theorem sync_Sync_Tick.L1b_eq (s : Option Addr) (id0 term p : Int) (w : World)  (N1 : Option Addr → Int → Int → Int → World → Prop) (R : Option Addr → Nat → Nat → World → Prop) (sB2 : Option Addr → Int → Int → Int → World → Prop) :
    (
  Bm (decide (p < (3 : Int))) (
    Bm (p != id0) (
      Pn s fun a =>
      LdI .i64 (a.add 9) w.drew fun x44 =>
      Pn s fun a_1 =>
      LdI .i64 (a_1.add 10) w.drew fun x48 =>
      sync_Sync_post.Call s (1 : Int) id0 p term x44 x48 (0 : Int) false none 0 0 (ByteArray.mk #[]) w.drew fun w1 =>
      sB2 s id0 term p w1) (
      sB2 s id0 term p w)) (
    sync_Sync_flush.Call s w fun r52_b r52_l r52_c w2 =>
    R r52_b r52_l r52_c w2)) = kstep Tryz.prog 53 Tryz.f73.results.toList (Tryz.f73.body.getD .skip) (sync_Sync_Tick.RV R) (kvc Tryz.prog 53 Tryz.f73.results.toList (Tryz.f73.body.getD .skip) (sync_Sync_Tick.RV R) [([(0, [1, 1, 1, 1, 0, 1, 0, 1, 1, 1, 0, 0, 1, 1]), (2, [1, 1, 1, 1, 0, 1, 0, 1, 1, 1, 0, 0]), (1, [0]), (0, [1, 1, 1, 1, 1])], fun σ w => dP (slotOf σ 0) fun s_ => dI .i64 (slotOf σ 4) fun id0_ => dI .i64 (slotOf σ 5) fun term_ => dI .i64 (slotOf σ 6) fun p_ => sB2 s_ id0_ term_ p_ w)] 2000) [(0, [1, 1, 1, 1, 0, 1, 0, 1, 1, 1, 0, 0]), (2, [1, 1, 1, 1, 0, 1, 0, 1, 1, 1, 0, 0]), (1, [0]), (0, [1, 1, 1, 1, 1])] [(0, .pointer s), (4, .int .i64 id0), (5, .int .i64 term), (6, .int .i64 p)] w := by kernel_rfl
theorem sync_Sync_Tick.L1b_sound {R : Option Addr → Nat → Nat → World → Prop} {N1 : Option Addr → Int → Int → Int → World → Prop} (hN1 : ∀ s id0 term p w, N1 s id0 term p w → KW Tryz.prog 73 53 (sync_Sync_Tick.RV R) ([(0, [1, 1, 1, 1, 0, 1, 0, 1, 1, 1, 0, 0]), (2, [1, 1, 1, 1, 0, 1, 0, 1, 1, 1, 0, 0]), (1, [0]), (0, [1, 1, 1, 1, 1])].map (toItem (Tryz.f73.body.getD .skip))) [(0, .pointer s), (4, .int .i64 id0), (5, .int .i64 term), (6, .int .i64 p)] w) (s : Option Addr) (id0 term p : Int) (w : World) (h : sync_Sync_Tick.L1b s id0 term p w  N1 R) :
    KW Tryz.prog 73 53 (sync_Sync_Tick.RV R) ([(0, [1, 1, 1, 1, 0, 1, 0, 1, 1, 1, 0, 0]), (2, [1, 1, 1, 1, 0, 1, 0, 1, 1, 1, 0, 0]), (1, [0]), (0, [1, 1, 1, 1, 1])].map (toItem (Tryz.f73.body.getD .skip))) [(0, .pointer s), (4, .int .i64 id0), (5, .int .i64 term), (6, .int .i64 p)] w := by
  exact block_spec Tryz.func73 Tryz.mixed (stops_cons (fun σ w h => by
      obtain ⟨s_, e0, h⟩ := dP_elim h
      obtain ⟨id0_, e1, h⟩ := dI_elim h
      obtain ⟨term_, e2, h⟩ := dI_elim h
      obtain ⟨p_, e3, h⟩ := dI_elim h
      exact (sync_Sync_Tick.B2_sound hN1 s_ id0_ term_ p_ w h).weaken (Sub.cons (Sub.cons (Sub.cons (Sub.cons (Sub.nil _) e3) e2) e1) e0)) stops_nil) (Eq.mp (sync_Sync_Tick.L1b_eq s id0 term p w  N1 R (fun s_ id0_ term_ p_ w => sync_Sync_Tick.B2 s_ id0_ term_ p_ w N1 R)) h)
def sync_Sync_Tick.L1 (s : Option Addr) (id0 term p : Int) (w : World)  (R : Option Addr → Nat → Nat → World → Prop) : Prop :=
  ∃ (I : Nat → Option Addr → Int → Int → Int → World → Prop) (m : Nat), I m s id0 term p w ∧ ∀ m s id0 term p w, I m s id0 term p w → sync_Sync_Tick.L1b s id0 term p w  (fun s' id0' term' p' w' => ∃ m', m' < m ∧ I m' s' id0' term' p' w') R
theorem sync_Sync_Tick.L1_sound {R : Option Addr → Nat → Nat → World → Prop}  (s : Option Addr) (id0 term p : Int) (w : World) (h : sync_Sync_Tick.L1 s id0 term p w  R) :
    KW Tryz.prog 73 53 (sync_Sync_Tick.RV R) ([(0, [1, 1, 1, 1, 0, 1, 0, 1, 1, 1, 0, 0]), (2, [1, 1, 1, 1, 0, 1, 0, 1, 1, 1, 0, 0]), (1, [0]), (0, [1, 1, 1, 1, 1])].map (toItem (Tryz.f73.body.getD .skip))) [(0, .pointer s), (4, .int .i64 id0), (5, .int .i64 term), (6, .int .i64 p)] w := by
  obtain ⟨I, m, hBase, hr⟩ := h
  refine KW.loop (fun m σ w => ∃ (s : Option Addr) (id0 term p : Int), σ = [(0, .pointer s), (4, .int .i64 id0), (5, .int .i64 term), (6, .int .i64 p)] ∧ I m s id0 term p w) ?_ m _ w ⟨s, id0, term, p, rfl, hBase⟩
  rintro m ih σ w ⟨s, id0, term, p, rfl, hI⟩
  exact sync_Sync_Tick.L1b_sound  (N1 := fun s' id0' term' p' w' => ∃ m', m' < m ∧ I m' s' id0' term' p' w') (fun s' id0' term' p' w' hx => by obtain ⟨m', hlt, hI'⟩ := hx; exact ih m' hlt _ w' ⟨s', id0', term', p', rfl, hI'⟩) s id0 term p w (hr m s id0 term p w hI)
def sync_Sync_Tick.B1 (s : Option Addr) (act : Int) (w : World)   (R : Option Addr → Nat → Nat → World → Prop) : Prop :=
  Bm (act == (1 : Int)) (
    Pn s fun a =>
    LdP (a.add 1) w fun x23 =>
    elect_Elect_Id.Call x23 w fun r24 w1 =>
    Pn s fun a_1 =>
    LdP (a_1.add 1) w1 fun x28 =>
    elect_Elect_Term.Call x28 w1 fun r29 w2 =>
    sync_Sync_Tick.L1 s r24 r29 (0 : Int) w2  R) (
    sync_Sync_flush.Call s w fun r52_b r52_l r52_c w3 =>
    R r52_b r52_l r52_c w3)
theorem sync_Sync_Tick.B1_eq (s : Option Addr) (act : Int) (w : World)   (R : Option Addr → Nat → Nat → World → Prop) (sL1 : Option Addr → Int → Int → Int → World → Prop) :
    (
  Bm (act == (1 : Int)) (
    Pn s fun a =>
    LdP (a.add 1) w fun x23 =>
    elect_Elect_Id.Call x23 w fun r24 w1 =>
    Pn s fun a_1 =>
    LdP (a_1.add 1) w1 fun x28 =>
    elect_Elect_Term.Call x28 w1 fun r29 w2 =>
    sL1 s r24 r29 (0 : Int) w2) (
    sync_Sync_flush.Call s w fun r52_b r52_l r52_c w3 =>
    R r52_b r52_l r52_c w3)) = kstep Tryz.prog 53 Tryz.f73.results.toList (Tryz.f73.body.getD .skip) (sync_Sync_Tick.RV R) (kvc Tryz.prog 53 Tryz.f73.results.toList (Tryz.f73.body.getD .skip) (sync_Sync_Tick.RV R) [([(0, [1, 1, 1, 1, 0, 1, 0, 1, 1, 1, 0, 0]), (2, [1, 1, 1, 1, 0, 1, 0, 1, 1, 1, 0, 0]), (1, [0]), (0, [1, 1, 1, 1, 1])], fun σ w => dP (slotOf σ 0) fun s_ => dI .i64 (slotOf σ 4) fun id0_ => dI .i64 (slotOf σ 5) fun term_ => dI .i64 (slotOf σ 6) fun p_ => sL1 s_ id0_ term_ p_ w)] 2000) [(0, [1, 1, 1, 1])] [(0, .pointer s), (3, .int .i64 act)] w := by kernel_rfl
theorem sync_Sync_Tick.B1_sound {R : Option Addr → Nat → Nat → World → Prop}  (s : Option Addr) (act : Int) (w : World) (h : sync_Sync_Tick.B1 s act w   R) :
    KW Tryz.prog 73 53 (sync_Sync_Tick.RV R) ([(0, [1, 1, 1, 1])].map (toItem (Tryz.f73.body.getD .skip))) [(0, .pointer s), (3, .int .i64 act)] w := by
  exact block_spec Tryz.func73 Tryz.mixed (stops_cons (fun σ w h => by
      obtain ⟨s_, e0, h⟩ := dP_elim h
      obtain ⟨id0_, e1, h⟩ := dI_elim h
      obtain ⟨term_, e2, h⟩ := dI_elim h
      obtain ⟨p_, e3, h⟩ := dI_elim h
      exact (sync_Sync_Tick.L1_sound  s_ id0_ term_ p_ w h).weaken (Sub.cons (Sub.cons (Sub.cons (Sub.cons (Sub.nil _) e3) e2) e1) e0)) stops_nil) (Eq.mp (sync_Sync_Tick.B1_eq s act w   R (fun s_ id0_ term_ p_ w => sync_Sync_Tick.L1 s_ id0_ term_ p_ w  R)) h)
def sync_Sync_Tick.B0 (s : Option Addr) (w : World)   (R : Option Addr → Nat → Nat → World → Prop) : Prop :=
  Pn s fun a =>
  LdP (a.add 1) w fun x10 =>
  elect_Elect_Tick.Call x10 w fun r11 w1 =>
  sync_Sync_persist.Call s w1 fun w2 =>
  Bm (r11 == (2 : Int)) (
    sync_Sync_sendAll.Call s w2 fun w3 =>
    sync_Sync_Tick.B1 s r11 w3  R) (
    sync_Sync_Tick.B1 s r11 w2  R)
theorem sync_Sync_Tick.B0_eq (s : Option Addr) (w : World)   (R : Option Addr → Nat → Nat → World → Prop) (sB1 : Option Addr → Int → World → Prop) :
    (
  Pn s fun a =>
  LdP (a.add 1) w fun x10 =>
  elect_Elect_Tick.Call x10 w fun r11 w1 =>
  sync_Sync_persist.Call s w1 fun w2 =>
  Bm (r11 == (2 : Int)) (
    sync_Sync_sendAll.Call s w2 fun w3 =>
    sB1 s r11 w3) (
    sB1 s r11 w2)) = kstep Tryz.prog 53 Tryz.f73.results.toList (Tryz.f73.body.getD .skip) (sync_Sync_Tick.RV R) (kvc Tryz.prog 53 Tryz.f73.results.toList (Tryz.f73.body.getD .skip) (sync_Sync_Tick.RV R) [([(0, [1, 1, 1, 1])], fun σ w => dP (slotOf σ 0) fun s_ => dI .i64 (slotOf σ 3) fun act_ => sB1 s_ act_ w)] 2000) [(0, [])] [(0, .pointer s)] w := by kernel_rfl
theorem sync_Sync_Tick.B0_sound {R : Option Addr → Nat → Nat → World → Prop}  (s : Option Addr) (w : World) (h : sync_Sync_Tick.B0 s w   R) :
    KW Tryz.prog 73 53 (sync_Sync_Tick.RV R) ([(0, [])].map (toItem (Tryz.f73.body.getD .skip))) [(0, .pointer s)] w := by
  exact block_spec Tryz.func73 Tryz.mixed (stops_cons (fun σ w h => by
      obtain ⟨s_, e0, h⟩ := dP_elim h
      obtain ⟨act_, e1, h⟩ := dI_elim h
      exact (sync_Sync_Tick.B1_sound  s_ act_ w h).weaken (Sub.cons (Sub.cons (Sub.nil _) e1) e0)) stops_nil) (Eq.mp (sync_Sync_Tick.B0_eq s w   R (fun s_ act_ w => sync_Sync_Tick.B1 s_ act_ w  R)) h)
theorem sync_Sync_Tick.sound (s : Option Addr) (w : World) (R : Option Addr → Nat → Nat → World → Prop) (h : sync_Sync_Tick.B0 s w R) : sync_Sync_Tick.Call s w R := by
  have hc := calls_of_block (args := #[.pointer s]) Tryz.func73 (body := (Tryz.f73.body.getD .skip)) (by kernel_rfl) (by kernel_rfl) (args_slot _) (sync_Sync_Tick.B0_sound s w h)
  exact hc.mono fun e w' he => by
    obtain ⟨v, rfl, hv⟩ := he
    exact sync_Sync_Tick.RV_elim hv
def node_Node_after.B0 (n msgs_b : Option Addr) (msgs_l msgs_c : Nat) (w : World)   (R : Int → Option Addr → Nat → Nat → Option Addr → Nat → Nat → World → Prop) : Prop :=
  New (.cells #[.int .i64 (0 : Int), .slice none 0 0, .slice none 0 0] 42) w fun b4 w1 =>
  Pn n fun a =>
  Sts [.int .i64 (0 : Int)] (a.add 25) 0 w1 fun w2 =>
  node_Node_catchUp.Call n w2 fun w3 =>
  Pn n fun a_1 =>
  LdP a_1 w3 fun x14 =>
  sync_Sync_View.Call x14 w3 fun r15 w4 =>
  Pn r15 fun a_2 =>
  LdI .i64 (a_2.add 10) w4.drew fun x20 =>
  Pn r15 fun a_3 =>
  LdI .i64 (a_3.add 12) w4.drew fun x24 =>
  node_Node_compact.Call n x20 x24 w4.drew fun w5 =>
  Pn r15 fun a_4 =>
  LdI .i64 (a_4.add 9) w5 fun x30 =>
  node_Node_apply.Call n x30 w5 fun w6 =>
  Pn r15 fun a_5 =>
  LdI .i64 (a_5.add 3) w6 fun x36 =>
  node_Node_giveUp.Call n x36 w6 fun w7 =>
  node_Node_did.Call n msgs_b msgs_l msgs_c w7 fun r40_0 r40_1_b r40_1_l r40_1_c r40_2_b r40_2_l r40_2_c w8 =>
  Sts [.int .i64 r40_0, .slice r40_1_b r40_1_l r40_1_c, .slice r40_2_b r40_2_l r40_2_c] ⟨b4, 0, none⟩ 0 w8 fun w9 =>
  LdI .i64 ⟨b4, 0, none⟩ w9 fun r_0 =>
  LdL ⟨b4, 1, none⟩ w9 fun r_1_b r_1_l r_1_c =>
  LdL ⟨b4, 2, none⟩ w9 fun r_2_b r_2_l r_2_c =>
  R r_0 r_1_b r_1_l r_1_c r_2_b r_2_l r_2_c w9
theorem node_Node_after.B0_eq (n msgs_b : Option Addr) (msgs_l msgs_c : Nat) (w : World)   (R : Int → Option Addr → Nat → Nat → Option Addr → Nat → Nat → World → Prop)  :
    (
  New (.cells #[.int .i64 (0 : Int), .slice none 0 0, .slice none 0 0] 42) w fun b4 w1 =>
  Pn n fun a =>
  Sts [.int .i64 (0 : Int)] (a.add 25) 0 w1 fun w2 =>
  node_Node_catchUp.Call n w2 fun w3 =>
  Pn n fun a_1 =>
  LdP a_1 w3 fun x14 =>
  sync_Sync_View.Call x14 w3 fun r15 w4 =>
  Pn r15 fun a_2 =>
  LdI .i64 (a_2.add 10) w4.drew fun x20 =>
  Pn r15 fun a_3 =>
  LdI .i64 (a_3.add 12) w4.drew fun x24 =>
  node_Node_compact.Call n x20 x24 w4.drew fun w5 =>
  Pn r15 fun a_4 =>
  LdI .i64 (a_4.add 9) w5 fun x30 =>
  node_Node_apply.Call n x30 w5 fun w6 =>
  Pn r15 fun a_5 =>
  LdI .i64 (a_5.add 3) w6 fun x36 =>
  node_Node_giveUp.Call n x36 w6 fun w7 =>
  node_Node_did.Call n msgs_b msgs_l msgs_c w7 fun r40_0 r40_1_b r40_1_l r40_1_c r40_2_b r40_2_l r40_2_c w8 =>
  Sts [.int .i64 r40_0, .slice r40_1_b r40_1_l r40_1_c, .slice r40_2_b r40_2_l r40_2_c] ⟨b4, 0, none⟩ 0 w8 fun w9 =>
  LdI .i64 ⟨b4, 0, none⟩ w9 fun r_0 =>
  LdL ⟨b4, 1, none⟩ w9 fun r_1_b r_1_l r_1_c =>
  LdL ⟨b4, 2, none⟩ w9 fun r_2_b r_2_l r_2_c =>
  R r_0 r_1_b r_1_l r_1_c r_2_b r_2_l r_2_c w9) = kstep Tryz.prog 41 Tryz.f74.results.toList (Tryz.f74.body.getD .skip) (node_Node_after.RV R) (kvc Tryz.prog 41 Tryz.f74.results.toList (Tryz.f74.body.getD .skip) (node_Node_after.RV R) [] 2000) [(0, [])] [(0, .pointer n), (1, .slice msgs_b msgs_l msgs_c)] w := by kernel_rfl
theorem node_Node_after.B0_sound {R : Int → Option Addr → Nat → Nat → Option Addr → Nat → Nat → World → Prop}  (n msgs_b : Option Addr) (msgs_l msgs_c : Nat) (w : World) (h : node_Node_after.B0 n msgs_b msgs_l msgs_c w   R) :
    KW Tryz.prog 74 41 (node_Node_after.RV R) ([(0, [])].map (toItem (Tryz.f74.body.getD .skip))) [(0, .pointer n), (1, .slice msgs_b msgs_l msgs_c)] w := by
  exact block_spec Tryz.func74 Tryz.mixed stops_nil (Eq.mp (node_Node_after.B0_eq n msgs_b msgs_l msgs_c w   R ) h)
theorem node_Node_after.sound (n msgs_b : Option Addr) (msgs_l msgs_c : Nat) (w : World) (R : Int → Option Addr → Nat → Nat → Option Addr → Nat → Nat → World → Prop) (h : node_Node_after.B0 n msgs_b msgs_l msgs_c w R) : node_Node_after.Call n msgs_b msgs_l msgs_c w R := by
  have hc := calls_of_block (args := #[.pointer n, .slice msgs_b msgs_l msgs_c]) Tryz.func74 (body := (Tryz.f74.body.getD .skip)) (by kernel_rfl) (by kernel_rfl) (args_slot _) (node_Node_after.B0_sound n msgs_b msgs_l msgs_c w h)
  exact hc.mono fun e w' he => by
    obtain ⟨v, rfl, hv⟩ := he
    exact node_Node_after.RV_elim hv
def node_decode.B5 (t2 m0 : Nat) (ok : Int) (t141 : Bool) (w : World)   (R : Int → Int → Int → Int → Int → Int → Int → Bool → Option Addr → Nat → Nat → ByteArray → Bool → World → Prop) : Prop :=
  Bm t141 (
    Sts [.int .i64 (0 : Int), .int .i64 (0 : Int), .int .i64 (0 : Int), .int .i64 (0 : Int), .int .i64 (0 : Int), .int .i64 (0 : Int), .int .i64 (0 : Int), .bool false, .slice none 0 0, .string (ByteArray.mk #[])] ⟨t2, 0, none⟩ 0 w fun w1 =>
    LdI .i64 ⟨t2, 0, none⟩ w1 fun r_0 =>
    LdI .i64 ⟨t2, 1, none⟩ w1 fun r_1 =>
    LdI .i64 ⟨t2, 2, none⟩ w1 fun r_2 =>
    LdI .i64 ⟨t2, 3, none⟩ w1 fun r_3 =>
    LdI .i64 ⟨t2, 4, none⟩ w1 fun r_4 =>
    LdI .i64 ⟨t2, 5, none⟩ w1 fun r_5 =>
    LdI .i64 ⟨t2, 6, none⟩ w1 fun r_6 =>
    LdB ⟨t2, 7, none⟩ w1 fun r_7 =>
    LdL ⟨t2, 8, none⟩ w1 fun r_8_b r_8_l r_8_c =>
    LdS ⟨t2, 9, none⟩ w1 fun r_9 =>
    R r_0 r_1 r_2 r_3 r_4 r_5 r_6 r_7 r_8_b r_8_l r_8_c r_9 false w1) (
    Sts [.bool (ok == (1 : Int))] ⟨m0, 7, none⟩ 0 w fun w2 =>
    LdI .i64 ⟨m0, 0, none⟩ w2 fun x146_0 =>
    LdI .i64 ⟨m0, 1, none⟩ w2 fun x146_1 =>
    LdI .i64 ⟨m0, 2, none⟩ w2 fun x146_2 =>
    LdI .i64 ⟨m0, 3, none⟩ w2 fun x146_3 =>
    LdI .i64 ⟨m0, 4, none⟩ w2 fun x146_4 =>
    LdI .i64 ⟨m0, 5, none⟩ w2 fun x146_5 =>
    LdI .i64 ⟨m0, 6, none⟩ w2 fun x146_6 =>
    LdB ⟨m0, 7, none⟩ w2 fun x146_7 =>
    LdL ⟨m0, 8, none⟩ w2 fun x146_8_b x146_8_l x146_8_c =>
    LdS ⟨m0, 9, none⟩ w2 fun x146_9 =>
    Sts [.int .i64 x146_0, .int .i64 x146_1, .int .i64 x146_2, .int .i64 x146_3, .int .i64 x146_4, .int .i64 x146_5, .int .i64 x146_6, .bool x146_7, .slice x146_8_b x146_8_l x146_8_c, .string x146_9] ⟨t2, 0, none⟩ 0 w2 fun w3 =>
    LdI .i64 ⟨t2, 0, none⟩ w3 fun r_0_1 =>
    LdI .i64 ⟨t2, 1, none⟩ w3 fun r_1_1 =>
    LdI .i64 ⟨t2, 2, none⟩ w3 fun r_2_1 =>
    LdI .i64 ⟨t2, 3, none⟩ w3 fun r_3_1 =>
    LdI .i64 ⟨t2, 4, none⟩ w3 fun r_4_1 =>
    LdI .i64 ⟨t2, 5, none⟩ w3 fun r_5_1 =>
    LdI .i64 ⟨t2, 6, none⟩ w3 fun r_6_1 =>
    LdB ⟨t2, 7, none⟩ w3 fun r_7_1 =>
    LdL ⟨t2, 8, none⟩ w3 fun r_8_b_1 r_8_l_1 r_8_c_1 =>
    LdS ⟨t2, 9, none⟩ w3 fun r_9_1 =>
    R r_0_1 r_1_1 r_2_1 r_3_1 r_4_1 r_5_1 r_6_1 r_7_1 r_8_b_1 r_8_l_1 r_8_c_1 r_9_1 true w3)
theorem node_decode.B5_eq (t2 m0 : Nat) (ok : Int) (t141 : Bool) (w : World)   (R : Int → Int → Int → Int → Int → Int → Int → Bool → Option Addr → Nat → Nat → ByteArray → Bool → World → Prop)  :
    (
  Bm t141 (
    Sts [.int .i64 (0 : Int), .int .i64 (0 : Int), .int .i64 (0 : Int), .int .i64 (0 : Int), .int .i64 (0 : Int), .int .i64 (0 : Int), .int .i64 (0 : Int), .bool false, .slice none 0 0, .string (ByteArray.mk #[])] ⟨t2, 0, none⟩ 0 w fun w1 =>
    LdI .i64 ⟨t2, 0, none⟩ w1 fun r_0 =>
    LdI .i64 ⟨t2, 1, none⟩ w1 fun r_1 =>
    LdI .i64 ⟨t2, 2, none⟩ w1 fun r_2 =>
    LdI .i64 ⟨t2, 3, none⟩ w1 fun r_3 =>
    LdI .i64 ⟨t2, 4, none⟩ w1 fun r_4 =>
    LdI .i64 ⟨t2, 5, none⟩ w1 fun r_5 =>
    LdI .i64 ⟨t2, 6, none⟩ w1 fun r_6 =>
    LdB ⟨t2, 7, none⟩ w1 fun r_7 =>
    LdL ⟨t2, 8, none⟩ w1 fun r_8_b r_8_l r_8_c =>
    LdS ⟨t2, 9, none⟩ w1 fun r_9 =>
    R r_0 r_1 r_2 r_3 r_4 r_5 r_6 r_7 r_8_b r_8_l r_8_c r_9 false w1) (
    Sts [.bool (ok == (1 : Int))] ⟨m0, 7, none⟩ 0 w fun w2 =>
    LdI .i64 ⟨m0, 0, none⟩ w2 fun x146_0 =>
    LdI .i64 ⟨m0, 1, none⟩ w2 fun x146_1 =>
    LdI .i64 ⟨m0, 2, none⟩ w2 fun x146_2 =>
    LdI .i64 ⟨m0, 3, none⟩ w2 fun x146_3 =>
    LdI .i64 ⟨m0, 4, none⟩ w2 fun x146_4 =>
    LdI .i64 ⟨m0, 5, none⟩ w2 fun x146_5 =>
    LdI .i64 ⟨m0, 6, none⟩ w2 fun x146_6 =>
    LdB ⟨m0, 7, none⟩ w2 fun x146_7 =>
    LdL ⟨m0, 8, none⟩ w2 fun x146_8_b x146_8_l x146_8_c =>
    LdS ⟨m0, 9, none⟩ w2 fun x146_9 =>
    Sts [.int .i64 x146_0, .int .i64 x146_1, .int .i64 x146_2, .int .i64 x146_3, .int .i64 x146_4, .int .i64 x146_5, .int .i64 x146_6, .bool x146_7, .slice x146_8_b x146_8_l x146_8_c, .string x146_9] ⟨t2, 0, none⟩ 0 w2 fun w3 =>
    LdI .i64 ⟨t2, 0, none⟩ w3 fun r_0_1 =>
    LdI .i64 ⟨t2, 1, none⟩ w3 fun r_1_1 =>
    LdI .i64 ⟨t2, 2, none⟩ w3 fun r_2_1 =>
    LdI .i64 ⟨t2, 3, none⟩ w3 fun r_3_1 =>
    LdI .i64 ⟨t2, 4, none⟩ w3 fun r_4_1 =>
    LdI .i64 ⟨t2, 5, none⟩ w3 fun r_5_1 =>
    LdI .i64 ⟨t2, 6, none⟩ w3 fun r_6_1 =>
    LdB ⟨t2, 7, none⟩ w3 fun r_7_1 =>
    LdL ⟨t2, 8, none⟩ w3 fun r_8_b_1 r_8_l_1 r_8_c_1 =>
    LdS ⟨t2, 9, none⟩ w3 fun r_9_1 =>
    R r_0_1 r_1_1 r_2_1 r_3_1 r_4_1 r_5_1 r_6_1 r_7_1 r_8_b_1 r_8_l_1 r_8_c_1 r_9_1 true w3)) = kstep Tryz.prog 147 Tryz.f75.results.toList (Tryz.f75.body.getD .skip) (node_decode.RV R) (kvc Tryz.prog 147 Tryz.f75.results.toList (Tryz.f75.body.getD .skip) (node_decode.RV R) [] 2000) [(0, [1, 1, 1, 1, 1, 1, 1, 1, 1, 1, 1, 1, 1, 1, 1, 1, 1, 1, 1, 0, 1]), (0, [1, 1, 1, 1, 1, 1, 1, 1, 1, 1, 1, 1, 1, 1, 1, 1, 1, 1, 1, 1])] [(2, .pointer (some ⟨t2, 0, none⟩)), (7, .pointer (some ⟨m0, 0, none⟩)), (8, .int .i64 ok), (141, .bool t141)] w := by kernel_rfl
theorem node_decode.B5_sound {R : Int → Int → Int → Int → Int → Int → Int → Bool → Option Addr → Nat → Nat → ByteArray → Bool → World → Prop}  (t2 m0 : Nat) (ok : Int) (t141 : Bool) (w : World) (h : node_decode.B5 t2 m0 ok t141 w   R) :
    KW Tryz.prog 75 147 (node_decode.RV R) ([(0, [1, 1, 1, 1, 1, 1, 1, 1, 1, 1, 1, 1, 1, 1, 1, 1, 1, 1, 1, 0, 1]), (0, [1, 1, 1, 1, 1, 1, 1, 1, 1, 1, 1, 1, 1, 1, 1, 1, 1, 1, 1, 1])].map (toItem (Tryz.f75.body.getD .skip))) [(2, .pointer (some ⟨t2, 0, none⟩)), (7, .pointer (some ⟨m0, 0, none⟩)), (8, .int .i64 ok), (141, .bool t141)] w := by
  exact block_spec Tryz.func75 Tryz.mixed stops_nil (Eq.mp (node_decode.B5_eq t2 m0 ok t141 w   R ) h)
def node_decode.B4 (t2 d m0 : Nat) (ok count i : Int) (t109 : Bool) (w : World) (N1 : Nat → Nat → Nat → Int → Int → Int → World → Prop)  (R : Int → Int → Int → Int → Int → Int → Int → Bool → Option Addr → Nat → Nat → ByteArray → Bool → World → Prop) : Prop :=
  Bm t109 (
    node_dec_num.Call (some ⟨d, 0, none⟩) w fun r113 w1 =>
    node_dec_text.Call (some ⟨d, 0, none⟩) (24 : Int) w1 fun r115 w2 =>
    LdL ⟨m0, 8, none⟩ w2 fun x117_b x117_l x117_c =>
    New (.cells #[.int .i64 r113, .string r115] 155) w2 fun b121 w3 =>
    Append 155 (.agg #[.int .i64 (0 : Int), .string (ByteArray.mk #[])]) 2 24 x117_b x117_l x117_c (some ⟨b121, 0, none⟩) 1 w3 fun b122 c122 w4 =>
    Sts [.slice b122 (x117_l + 1) c122] ⟨m0, 8, none⟩ 0 w4 fun w5 =>
    N1 t2 d m0 ok count (IntKind.i64.wrap (i + (1 : Int))) w5) (
    node_dec_text.Call (some ⟨d, 0, none⟩) (128 : Int) w fun r125 w6 =>
    Sts [.string r125] ⟨m0, 9, none⟩ 0 w6 fun w7 =>
    LdB ⟨d, 3, none⟩ w7.drew fun x130 =>
    Bm x130 (
      node_decode.B5 t2 m0 ok true w7.drew  R) (
      LdI .i64 ⟨d, 1, none⟩ w7.drew fun x135 =>
      LdI .i64 ⟨d, 2, none⟩ w7.drew fun x139 =>
      node_decode.B5 t2 m0 ok (x135 != x139) w7.drew  R))
theorem node_decode.B4_eq (t2 d m0 : Nat) (ok count i : Int) (t109 : Bool) (w : World) (N1 : Nat → Nat → Nat → Int → Int → Int → World → Prop)  (R : Int → Int → Int → Int → Int → Int → Int → Bool → Option Addr → Nat → Nat → ByteArray → Bool → World → Prop) (sB5 : Nat → Nat → Int → Bool → World → Prop) :
    (
  Bm t109 (
    node_dec_num.Call (some ⟨d, 0, none⟩) w fun r113 w1 =>
    node_dec_text.Call (some ⟨d, 0, none⟩) (24 : Int) w1 fun r115 w2 =>
    LdL ⟨m0, 8, none⟩ w2 fun x117_b x117_l x117_c =>
    New (.cells #[.int .i64 r113, .string r115] 155) w2 fun b121 w3 =>
    Append 155 (.agg #[.int .i64 (0 : Int), .string (ByteArray.mk #[])]) 2 24 x117_b x117_l x117_c (some ⟨b121, 0, none⟩) 1 w3 fun b122 c122 w4 =>
    Sts [.slice b122 (x117_l + 1) c122] ⟨m0, 8, none⟩ 0 w4 fun w5 =>
    N1 t2 d m0 ok count (IntKind.i64.wrap (i + (1 : Int))) w5) (
    node_dec_text.Call (some ⟨d, 0, none⟩) (128 : Int) w fun r125 w6 =>
    Sts [.string r125] ⟨m0, 9, none⟩ 0 w6 fun w7 =>
    LdB ⟨d, 3, none⟩ w7.drew fun x130 =>
    Bm x130 (
      sB5 t2 m0 ok true w7.drew) (
      LdI .i64 ⟨d, 1, none⟩ w7.drew fun x135 =>
      LdI .i64 ⟨d, 2, none⟩ w7.drew fun x139 =>
      sB5 t2 m0 ok (x135 != x139) w7.drew))) = kstep Tryz.prog 147 Tryz.f75.results.toList (Tryz.f75.body.getD .skip) (node_decode.RV R) (kvc Tryz.prog 147 Tryz.f75.results.toList (Tryz.f75.body.getD .skip) (node_decode.RV R) [([(0, [1, 1, 1, 1, 1, 1, 1, 1, 1, 1, 1, 1, 1, 1, 1, 1, 1, 0, 1, 0, 0]), (2, [1, 1, 1, 1, 1, 1, 1, 1, 1, 1, 1, 1, 1, 1, 1, 1, 1, 0, 1, 0, 0]), (1, [0]), (0, [1, 1, 1, 1, 1, 1, 1, 1, 1, 1, 1, 1, 1, 1, 1, 1, 1, 1])], fun σ w => dK (slotOf σ 2) fun t2_ => dK (slotOf σ 6) fun d_ => dK (slotOf σ 7) fun m0_ => dI .i64 (slotOf σ 8) fun ok_ => dI .i64 (slotOf σ 9) fun count_ => dI .i64 (slotOf σ 10) fun i_ => N1 t2_ d_ m0_ ok_ count_ i_ w),
    ([(0, [1, 1, 1, 1, 1, 1, 1, 1, 1, 1, 1, 1, 1, 1, 1, 1, 1, 1, 1, 0, 1]), (0, [1, 1, 1, 1, 1, 1, 1, 1, 1, 1, 1, 1, 1, 1, 1, 1, 1, 1, 1, 1])], fun σ w => dK (slotOf σ 2) fun t2_ => dK (slotOf σ 7) fun m0_ => dI .i64 (slotOf σ 8) fun ok_ => dB (slotOf σ 141) fun t141_ => sB5 t2_ m0_ ok_ t141_ w)] 2000) [(0, [1, 1, 1, 1, 1, 1, 1, 1, 1, 1, 1, 1, 1, 1, 1, 1, 1, 0, 1, 0, 0, 0, 1]), (0, [1, 1, 1, 1, 1, 1, 1, 1, 1, 1, 1, 1, 1, 1, 1, 1, 1, 0, 1, 0, 0, 1]), (2, [1, 1, 1, 1, 1, 1, 1, 1, 1, 1, 1, 1, 1, 1, 1, 1, 1, 0, 1, 0, 0]), (1, [0]), (0, [1, 1, 1, 1, 1, 1, 1, 1, 1, 1, 1, 1, 1, 1, 1, 1, 1, 1])] [(2, .pointer (some ⟨t2, 0, none⟩)), (6, .pointer (some ⟨d, 0, none⟩)), (7, .pointer (some ⟨m0, 0, none⟩)), (8, .int .i64 ok), (9, .int .i64 count), (10, .int .i64 i), (109, .bool t109)] w := by kernel_rfl
theorem node_decode.B4_sound {R : Int → Int → Int → Int → Int → Int → Int → Bool → Option Addr → Nat → Nat → ByteArray → Bool → World → Prop} {N1 : Nat → Nat → Nat → Int → Int → Int → World → Prop} (hN1 : ∀ t2 d m0 ok count i w, N1 t2 d m0 ok count i w → KW Tryz.prog 75 147 (node_decode.RV R) ([(0, [1, 1, 1, 1, 1, 1, 1, 1, 1, 1, 1, 1, 1, 1, 1, 1, 1, 0, 1, 0, 0]), (2, [1, 1, 1, 1, 1, 1, 1, 1, 1, 1, 1, 1, 1, 1, 1, 1, 1, 0, 1, 0, 0]), (1, [0]), (0, [1, 1, 1, 1, 1, 1, 1, 1, 1, 1, 1, 1, 1, 1, 1, 1, 1, 1])].map (toItem (Tryz.f75.body.getD .skip))) [(2, .pointer (some ⟨t2, 0, none⟩)), (6, .pointer (some ⟨d, 0, none⟩)), (7, .pointer (some ⟨m0, 0, none⟩)), (8, .int .i64 ok), (9, .int .i64 count), (10, .int .i64 i)] w) (t2 d m0 : Nat) (ok count i : Int) (t109 : Bool) (w : World) (h : node_decode.B4 t2 d m0 ok count i t109 w N1  R) :
    KW Tryz.prog 75 147 (node_decode.RV R) ([(0, [1, 1, 1, 1, 1, 1, 1, 1, 1, 1, 1, 1, 1, 1, 1, 1, 1, 0, 1, 0, 0, 0, 1]), (0, [1, 1, 1, 1, 1, 1, 1, 1, 1, 1, 1, 1, 1, 1, 1, 1, 1, 0, 1, 0, 0, 1]), (2, [1, 1, 1, 1, 1, 1, 1, 1, 1, 1, 1, 1, 1, 1, 1, 1, 1, 0, 1, 0, 0]), (1, [0]), (0, [1, 1, 1, 1, 1, 1, 1, 1, 1, 1, 1, 1, 1, 1, 1, 1, 1, 1])].map (toItem (Tryz.f75.body.getD .skip))) [(2, .pointer (some ⟨t2, 0, none⟩)), (6, .pointer (some ⟨d, 0, none⟩)), (7, .pointer (some ⟨m0, 0, none⟩)), (8, .int .i64 ok), (9, .int .i64 count), (10, .int .i64 i), (109, .bool t109)] w := by
  exact block_spec Tryz.func75 Tryz.mixed (stops_cons (fun σ w h => by
      obtain ⟨t2_, e0, h⟩ := dK_elim h
      obtain ⟨d_, e1, h⟩ := dK_elim h
      obtain ⟨m0_, e2, h⟩ := dK_elim h
      obtain ⟨ok_, e3, h⟩ := dI_elim h
      obtain ⟨count_, e4, h⟩ := dI_elim h
      obtain ⟨i_, e5, h⟩ := dI_elim h
      exact (hN1 t2_ d_ m0_ ok_ count_ i_ w h).weaken (Sub.cons (Sub.cons (Sub.cons (Sub.cons (Sub.cons (Sub.cons (Sub.nil _) e5) e4) e3) e2) e1) e0)) (stops_cons (fun σ w h => by
      obtain ⟨t2_, e0, h⟩ := dK_elim h
      obtain ⟨m0_, e1, h⟩ := dK_elim h
      obtain ⟨ok_, e2, h⟩ := dI_elim h
      obtain ⟨t141_, e3, h⟩ := dB_elim h
      exact (node_decode.B5_sound  t2_ m0_ ok_ t141_ w h).weaken (Sub.cons (Sub.cons (Sub.cons (Sub.cons (Sub.nil _) e3) e2) e1) e0)) stops_nil)) (Eq.mp (node_decode.B4_eq t2 d m0 ok count i t109 w N1  R (fun t2_ m0_ ok_ t141_ w => node_decode.B5 t2_ m0_ ok_ t141_ w  R)) h)
def node_decode.L1b (t2 d m0 : Nat) (ok count i : Int) (w : World)  (N1 : Nat → Nat → Nat → Int → Int → Int → World → Prop) (R : Int → Int → Int → Int → Int → Int → Int → Bool → Option Addr → Nat → Nat → ByteArray → Bool → World → Prop) : Prop :=
  Bm (decide (i < count)) (
    LdB ⟨d, 3, none⟩ w fun x107 =>
    node_decode.B4 t2 d m0 ok count i (!x107) w N1 R) (
    node_decode.B4 t2 d m0 ok count i false w N1 R)
theorem node_decode.L1b_eq (t2 d m0 : Nat) (ok count i : Int) (w : World)  (N1 : Nat → Nat → Nat → Int → Int → Int → World → Prop) (R : Int → Int → Int → Int → Int → Int → Int → Bool → Option Addr → Nat → Nat → ByteArray → Bool → World → Prop) (sB4 : Nat → Nat → Nat → Int → Int → Int → Bool → World → Prop) :
    (
  Bm (decide (i < count)) (
    LdB ⟨d, 3, none⟩ w fun x107 =>
    sB4 t2 d m0 ok count i (!x107) w) (
    sB4 t2 d m0 ok count i false w)) = kstep Tryz.prog 147 Tryz.f75.results.toList (Tryz.f75.body.getD .skip) (node_decode.RV R) (kvc Tryz.prog 147 Tryz.f75.results.toList (Tryz.f75.body.getD .skip) (node_decode.RV R) [([(0, [1, 1, 1, 1, 1, 1, 1, 1, 1, 1, 1, 1, 1, 1, 1, 1, 1, 0, 1, 0, 0, 0, 1]), (0, [1, 1, 1, 1, 1, 1, 1, 1, 1, 1, 1, 1, 1, 1, 1, 1, 1, 0, 1, 0, 0, 1]), (2, [1, 1, 1, 1, 1, 1, 1, 1, 1, 1, 1, 1, 1, 1, 1, 1, 1, 0, 1, 0, 0]), (1, [0]), (0, [1, 1, 1, 1, 1, 1, 1, 1, 1, 1, 1, 1, 1, 1, 1, 1, 1, 1])], fun σ w => dK (slotOf σ 2) fun t2_ => dK (slotOf σ 6) fun d_ => dK (slotOf σ 7) fun m0_ => dI .i64 (slotOf σ 8) fun ok_ => dI .i64 (slotOf σ 9) fun count_ => dI .i64 (slotOf σ 10) fun i_ => dB (slotOf σ 109) fun t109_ => sB4 t2_ d_ m0_ ok_ count_ i_ t109_ w)] 2000) [(0, [1, 1, 1, 1, 1, 1, 1, 1, 1, 1, 1, 1, 1, 1, 1, 1, 1, 0, 1, 0, 0]), (2, [1, 1, 1, 1, 1, 1, 1, 1, 1, 1, 1, 1, 1, 1, 1, 1, 1, 0, 1, 0, 0]), (1, [0]), (0, [1, 1, 1, 1, 1, 1, 1, 1, 1, 1, 1, 1, 1, 1, 1, 1, 1, 1])] [(2, .pointer (some ⟨t2, 0, none⟩)), (6, .pointer (some ⟨d, 0, none⟩)), (7, .pointer (some ⟨m0, 0, none⟩)), (8, .int .i64 ok), (9, .int .i64 count), (10, .int .i64 i)] w := by kernel_rfl
theorem node_decode.L1b_sound {R : Int → Int → Int → Int → Int → Int → Int → Bool → Option Addr → Nat → Nat → ByteArray → Bool → World → Prop} {N1 : Nat → Nat → Nat → Int → Int → Int → World → Prop} (hN1 : ∀ t2 d m0 ok count i w, N1 t2 d m0 ok count i w → KW Tryz.prog 75 147 (node_decode.RV R) ([(0, [1, 1, 1, 1, 1, 1, 1, 1, 1, 1, 1, 1, 1, 1, 1, 1, 1, 0, 1, 0, 0]), (2, [1, 1, 1, 1, 1, 1, 1, 1, 1, 1, 1, 1, 1, 1, 1, 1, 1, 0, 1, 0, 0]), (1, [0]), (0, [1, 1, 1, 1, 1, 1, 1, 1, 1, 1, 1, 1, 1, 1, 1, 1, 1, 1])].map (toItem (Tryz.f75.body.getD .skip))) [(2, .pointer (some ⟨t2, 0, none⟩)), (6, .pointer (some ⟨d, 0, none⟩)), (7, .pointer (some ⟨m0, 0, none⟩)), (8, .int .i64 ok), (9, .int .i64 count), (10, .int .i64 i)] w) (t2 d m0 : Nat) (ok count i : Int) (w : World) (h : node_decode.L1b t2 d m0 ok count i w  N1 R) :
    KW Tryz.prog 75 147 (node_decode.RV R) ([(0, [1, 1, 1, 1, 1, 1, 1, 1, 1, 1, 1, 1, 1, 1, 1, 1, 1, 0, 1, 0, 0]), (2, [1, 1, 1, 1, 1, 1, 1, 1, 1, 1, 1, 1, 1, 1, 1, 1, 1, 0, 1, 0, 0]), (1, [0]), (0, [1, 1, 1, 1, 1, 1, 1, 1, 1, 1, 1, 1, 1, 1, 1, 1, 1, 1])].map (toItem (Tryz.f75.body.getD .skip))) [(2, .pointer (some ⟨t2, 0, none⟩)), (6, .pointer (some ⟨d, 0, none⟩)), (7, .pointer (some ⟨m0, 0, none⟩)), (8, .int .i64 ok), (9, .int .i64 count), (10, .int .i64 i)] w := by
  exact block_spec Tryz.func75 Tryz.mixed (stops_cons (fun σ w h => by
      obtain ⟨t2_, e0, h⟩ := dK_elim h
      obtain ⟨d_, e1, h⟩ := dK_elim h
      obtain ⟨m0_, e2, h⟩ := dK_elim h
      obtain ⟨ok_, e3, h⟩ := dI_elim h
      obtain ⟨count_, e4, h⟩ := dI_elim h
      obtain ⟨i_, e5, h⟩ := dI_elim h
      obtain ⟨t109_, e6, h⟩ := dB_elim h
      exact (node_decode.B4_sound hN1 t2_ d_ m0_ ok_ count_ i_ t109_ w h).weaken (Sub.cons (Sub.cons (Sub.cons (Sub.cons (Sub.cons (Sub.cons (Sub.cons (Sub.nil _) e6) e5) e4) e3) e2) e1) e0)) stops_nil) (Eq.mp (node_decode.L1b_eq t2 d m0 ok count i w  N1 R (fun t2_ d_ m0_ ok_ count_ i_ t109_ w => node_decode.B4 t2_ d_ m0_ ok_ count_ i_ t109_ w N1 R)) h)
def node_decode.L1 (t2 d m0 : Nat) (ok count i : Int) (w : World)  (R : Int → Int → Int → Int → Int → Int → Int → Bool → Option Addr → Nat → Nat → ByteArray → Bool → World → Prop) : Prop :=
  ∃ (I : Nat → Nat → Nat → Nat → Int → Int → Int → World → Prop) (m : Nat), I m t2 d m0 ok count i w ∧ ∀ m t2 d m0 ok count i w, I m t2 d m0 ok count i w → node_decode.L1b t2 d m0 ok count i w  (fun t2' d' m0' ok' count' i' w' => ∃ m', m' < m ∧ I m' t2' d' m0' ok' count' i' w') R
theorem node_decode.L1_sound {R : Int → Int → Int → Int → Int → Int → Int → Bool → Option Addr → Nat → Nat → ByteArray → Bool → World → Prop}  (t2 d m0 : Nat) (ok count i : Int) (w : World) (h : node_decode.L1 t2 d m0 ok count i w  R) :
    KW Tryz.prog 75 147 (node_decode.RV R) ([(0, [1, 1, 1, 1, 1, 1, 1, 1, 1, 1, 1, 1, 1, 1, 1, 1, 1, 0, 1, 0, 0]), (2, [1, 1, 1, 1, 1, 1, 1, 1, 1, 1, 1, 1, 1, 1, 1, 1, 1, 0, 1, 0, 0]), (1, [0]), (0, [1, 1, 1, 1, 1, 1, 1, 1, 1, 1, 1, 1, 1, 1, 1, 1, 1, 1])].map (toItem (Tryz.f75.body.getD .skip))) [(2, .pointer (some ⟨t2, 0, none⟩)), (6, .pointer (some ⟨d, 0, none⟩)), (7, .pointer (some ⟨m0, 0, none⟩)), (8, .int .i64 ok), (9, .int .i64 count), (10, .int .i64 i)] w := by
  obtain ⟨I, m, hBase, hr⟩ := h
  refine KW.loop (fun m σ w => ∃ (t2 d m0 : Nat) (ok count i : Int), σ = [(2, .pointer (some ⟨t2, 0, none⟩)), (6, .pointer (some ⟨d, 0, none⟩)), (7, .pointer (some ⟨m0, 0, none⟩)), (8, .int .i64 ok), (9, .int .i64 count), (10, .int .i64 i)] ∧ I m t2 d m0 ok count i w) ?_ m _ w ⟨t2, d, m0, ok, count, i, rfl, hBase⟩
  rintro m ih σ w ⟨t2, d, m0, ok, count, i, rfl, hI⟩
  exact node_decode.L1b_sound  (N1 := fun t2' d' m0' ok' count' i' w' => ∃ m', m' < m ∧ I m' t2' d' m0' ok' count' i' w') (fun t2' d' m0' ok' count' i' w' hx => by obtain ⟨m', hlt, hI'⟩ := hx; exact ih m' hlt _ w' ⟨t2', d', m0', ok', count', i', rfl, hI'⟩) t2 d m0 ok count i w (hr m t2 d m0 ok count i w hI)
def node_decode.B3 (t2 d m0 : Nat) (ok count : Int) (w : World)   (R : Int → Int → Int → Int → Int → Int → Int → Bool → Option Addr → Nat → Nat → ByteArray → Bool → World → Prop) : Prop :=
  node_decode.L1 t2 d m0 ok count (0 : Int) w  R
theorem node_decode.B3_eq (t2 d m0 : Nat) (ok count : Int) (w : World)   (R : Int → Int → Int → Int → Int → Int → Int → Bool → Option Addr → Nat → Nat → ByteArray → Bool → World → Prop) (sL1 : Nat → Nat → Nat → Int → Int → Int → World → Prop) :
    (
  sL1 t2 d m0 ok count (0 : Int) w) = kstep Tryz.prog 147 Tryz.f75.results.toList (Tryz.f75.body.getD .skip) (node_decode.RV R) (kvc Tryz.prog 147 Tryz.f75.results.toList (Tryz.f75.body.getD .skip) (node_decode.RV R) [([(0, [1, 1, 1, 1, 1, 1, 1, 1, 1, 1, 1, 1, 1, 1, 1, 1, 1, 0, 1, 0, 0]), (2, [1, 1, 1, 1, 1, 1, 1, 1, 1, 1, 1, 1, 1, 1, 1, 1, 1, 0, 1, 0, 0]), (1, [0]), (0, [1, 1, 1, 1, 1, 1, 1, 1, 1, 1, 1, 1, 1, 1, 1, 1, 1, 1])], fun σ w => dK (slotOf σ 2) fun t2_ => dK (slotOf σ 6) fun d_ => dK (slotOf σ 7) fun m0_ => dI .i64 (slotOf σ 8) fun ok_ => dI .i64 (slotOf σ 9) fun count_ => dI .i64 (slotOf σ 10) fun i_ => sL1 t2_ d_ m0_ ok_ count_ i_ w)] 2000) [(0, [1, 1, 1, 1, 1, 1, 1, 1, 1, 1, 1, 1, 1, 1, 1, 1, 1])] [(2, .pointer (some ⟨t2, 0, none⟩)), (6, .pointer (some ⟨d, 0, none⟩)), (7, .pointer (some ⟨m0, 0, none⟩)), (8, .int .i64 ok), (9, .int .i64 count)] w := by kernel_rfl
theorem node_decode.B3_sound {R : Int → Int → Int → Int → Int → Int → Int → Bool → Option Addr → Nat → Nat → ByteArray → Bool → World → Prop}  (t2 d m0 : Nat) (ok count : Int) (w : World) (h : node_decode.B3 t2 d m0 ok count w   R) :
    KW Tryz.prog 75 147 (node_decode.RV R) ([(0, [1, 1, 1, 1, 1, 1, 1, 1, 1, 1, 1, 1, 1, 1, 1, 1, 1])].map (toItem (Tryz.f75.body.getD .skip))) [(2, .pointer (some ⟨t2, 0, none⟩)), (6, .pointer (some ⟨d, 0, none⟩)), (7, .pointer (some ⟨m0, 0, none⟩)), (8, .int .i64 ok), (9, .int .i64 count)] w := by
  exact block_spec Tryz.func75 Tryz.mixed (stops_cons (fun σ w h => by
      obtain ⟨t2_, e0, h⟩ := dK_elim h
      obtain ⟨d_, e1, h⟩ := dK_elim h
      obtain ⟨m0_, e2, h⟩ := dK_elim h
      obtain ⟨ok_, e3, h⟩ := dI_elim h
      obtain ⟨count_, e4, h⟩ := dI_elim h
      obtain ⟨i_, e5, h⟩ := dI_elim h
      exact (node_decode.L1_sound  t2_ d_ m0_ ok_ count_ i_ w h).weaken (Sub.cons (Sub.cons (Sub.cons (Sub.cons (Sub.cons (Sub.cons (Sub.nil _) e5) e4) e3) e2) e1) e0)) stops_nil) (Eq.mp (node_decode.B3_eq t2 d m0 ok count w   R (fun t2_ d_ m0_ ok_ count_ i_ w => node_decode.L1 t2_ d_ m0_ ok_ count_ i_ w  R)) h)
def node_decode.B2 (t2 d m0 : Nat) (ok count : Int) (t96 : Bool) (w : World)   (R : Int → Int → Int → Int → Int → Int → Int → Bool → Option Addr → Nat → Nat → ByteArray → Bool → World → Prop) : Prop :=
  Bm t96 (
    Sts [.bool true] ⟨d, 3, none⟩ 0 w fun w1 =>
    node_decode.B3 t2 d m0 ok count w1  R) (
    node_decode.B3 t2 d m0 ok count w  R)
theorem node_decode.B2_eq (t2 d m0 : Nat) (ok count : Int) (t96 : Bool) (w : World)   (R : Int → Int → Int → Int → Int → Int → Int → Bool → Option Addr → Nat → Nat → ByteArray → Bool → World → Prop) (sB3 : Nat → Nat → Nat → Int → Int → World → Prop) :
    (
  Bm t96 (
    Sts [.bool true] ⟨d, 3, none⟩ 0 w fun w1 =>
    sB3 t2 d m0 ok count w1) (
    sB3 t2 d m0 ok count w)) = kstep Tryz.prog 147 Tryz.f75.results.toList (Tryz.f75.body.getD .skip) (node_decode.RV R) (kvc Tryz.prog 147 Tryz.f75.results.toList (Tryz.f75.body.getD .skip) (node_decode.RV R) [([(0, [1, 1, 1, 1, 1, 1, 1, 1, 1, 1, 1, 1, 1, 1, 1, 1, 1])], fun σ w => dK (slotOf σ 2) fun t2_ => dK (slotOf σ 6) fun d_ => dK (slotOf σ 7) fun m0_ => dI .i64 (slotOf σ 8) fun ok_ => dI .i64 (slotOf σ 9) fun count_ => sB3 t2_ d_ m0_ ok_ count_ w)] 2000) [(0, [1, 1, 1, 1, 1, 1, 1, 1, 1, 1, 1, 1, 1, 1, 1, 1, 0, 1]), (0, [1, 1, 1, 1, 1, 1, 1, 1, 1, 1, 1, 1, 1, 1, 1, 1, 1])] [(2, .pointer (some ⟨t2, 0, none⟩)), (6, .pointer (some ⟨d, 0, none⟩)), (7, .pointer (some ⟨m0, 0, none⟩)), (8, .int .i64 ok), (9, .int .i64 count), (96, .bool t96)] w := by kernel_rfl
theorem node_decode.B2_sound {R : Int → Int → Int → Int → Int → Int → Int → Bool → Option Addr → Nat → Nat → ByteArray → Bool → World → Prop}  (t2 d m0 : Nat) (ok count : Int) (t96 : Bool) (w : World) (h : node_decode.B2 t2 d m0 ok count t96 w   R) :
    KW Tryz.prog 75 147 (node_decode.RV R) ([(0, [1, 1, 1, 1, 1, 1, 1, 1, 1, 1, 1, 1, 1, 1, 1, 1, 0, 1]), (0, [1, 1, 1, 1, 1, 1, 1, 1, 1, 1, 1, 1, 1, 1, 1, 1, 1])].map (toItem (Tryz.f75.body.getD .skip))) [(2, .pointer (some ⟨t2, 0, none⟩)), (6, .pointer (some ⟨d, 0, none⟩)), (7, .pointer (some ⟨m0, 0, none⟩)), (8, .int .i64 ok), (9, .int .i64 count), (96, .bool t96)] w := by
  exact block_spec Tryz.func75 Tryz.mixed (stops_cons (fun σ w h => by
      obtain ⟨t2_, e0, h⟩ := dK_elim h
      obtain ⟨d_, e1, h⟩ := dK_elim h
      obtain ⟨m0_, e2, h⟩ := dK_elim h
      obtain ⟨ok_, e3, h⟩ := dI_elim h
      obtain ⟨count_, e4, h⟩ := dI_elim h
      exact (node_decode.B3_sound  t2_ d_ m0_ ok_ count_ w h).weaken (Sub.cons (Sub.cons (Sub.cons (Sub.cons (Sub.cons (Sub.nil _) e4) e3) e2) e1) e0)) stops_nil) (Eq.mp (node_decode.B2_eq t2 d m0 ok count t96 w   R (fun t2_ d_ m0_ ok_ count_ w => node_decode.B3 t2_ d_ m0_ ok_ count_ w  R)) h)
def node_decode.B1 (raw : ByteArray) (t2 : Nat) (t20 : Bool) (w : World)   (R : Int → Int → Int → Int → Int → Int → Int → Bool → Option Addr → Nat → Nat → ByteArray → Bool → World → Prop) : Prop :=
  Bm t20 (
    Sts [.int .i64 (0 : Int), .int .i64 (0 : Int), .int .i64 (0 : Int), .int .i64 (0 : Int), .int .i64 (0 : Int), .int .i64 (0 : Int), .int .i64 (0 : Int), .bool false, .slice none 0 0, .string (ByteArray.mk #[])] ⟨t2, 0, none⟩ 0 w fun w1 =>
    LdI .i64 ⟨t2, 0, none⟩ w1 fun r_0 =>
    LdI .i64 ⟨t2, 1, none⟩ w1 fun r_1 =>
    LdI .i64 ⟨t2, 2, none⟩ w1 fun r_2 =>
    LdI .i64 ⟨t2, 3, none⟩ w1 fun r_3 =>
    LdI .i64 ⟨t2, 4, none⟩ w1 fun r_4 =>
    LdI .i64 ⟨t2, 5, none⟩ w1 fun r_5 =>
    LdI .i64 ⟨t2, 6, none⟩ w1 fun r_6 =>
    LdB ⟨t2, 7, none⟩ w1 fun r_7 =>
    LdL ⟨t2, 8, none⟩ w1 fun r_8_b r_8_l r_8_c =>
    LdS ⟨t2, 9, none⟩ w1 fun r_9 =>
    R r_0 r_1 r_2 r_3 r_4 r_5 r_6 r_7 r_8_b r_8_l r_8_c r_9 false w1) (
    node_sumOf.Call raw (IntKind.i64.wrap (((raw.size : Nat) : Int) - (2 : Int))) w fun r27 w2 =>
    (0 ≤ (IntKind.i64.wrap (((raw.size : Nat) : Int) - (2 : Int))) ∧ (IntKind.i64.wrap (((raw.size : Nat) : Int) - (2 : Int))) < ((raw.size : Nat) : Int)) ∧
    0 ≤ (8 : Int) ∧
    (0 ≤ (IntKind.i64.wrap ((IntKind.i64.wrap (((raw.size : Nat) : Int) - (2 : Int))) + (1 : Int))) ∧ (IntKind.i64.wrap ((IntKind.i64.wrap (((raw.size : Nat) : Int) - (2 : Int))) + (1 : Int))) < ((raw.size : Nat) : Int)) ∧
    Bm (r27 != (IntKind.i64.wrap (BitVec.ofInt IntKind.i64.bits (IntKind.i64.wrap ((IntKind.i64.wrap (byteAt raw (IntKind.i64.wrap (((raw.size : Nat) : Int) - (2 : Int))))) * 2 ^ (min (8 : Int).toNat IntKind.i64.bits))) ||| BitVec.ofInt IntKind.i64.bits (IntKind.i64.wrap (byteAt raw (IntKind.i64.wrap ((IntKind.i64.wrap (((raw.size : Nat) : Int) - (2 : Int))) + (1 : Int)))))).toNat)) (
      Sts [.int .i64 (0 : Int), .int .i64 (0 : Int), .int .i64 (0 : Int), .int .i64 (0 : Int), .int .i64 (0 : Int), .int .i64 (0 : Int), .int .i64 (0 : Int), .bool false, .slice none 0 0, .string (ByteArray.mk #[])] ⟨t2, 0, none⟩ 0 w2.drew fun w3 =>
      LdI .i64 ⟨t2, 0, none⟩ w3 fun r_0_1 =>
      LdI .i64 ⟨t2, 1, none⟩ w3 fun r_1_1 =>
      LdI .i64 ⟨t2, 2, none⟩ w3 fun r_2_1 =>
      LdI .i64 ⟨t2, 3, none⟩ w3 fun r_3_1 =>
      LdI .i64 ⟨t2, 4, none⟩ w3 fun r_4_1 =>
      LdI .i64 ⟨t2, 5, none⟩ w3 fun r_5_1 =>
      LdI .i64 ⟨t2, 6, none⟩ w3 fun r_6_1 =>
      LdB ⟨t2, 7, none⟩ w3 fun r_7_1 =>
      LdL ⟨t2, 8, none⟩ w3 fun r_8_b_1 r_8_l_1 r_8_c_1 =>
      LdS ⟨t2, 9, none⟩ w3 fun r_9_1 =>
      R r_0_1 r_1_1 r_2_1 r_3_1 r_4_1 r_5_1 r_6_1 r_7_1 r_8_b_1 r_8_l_1 r_8_c_1 r_9_1 false w3) (
      New (.cells #[.string raw, .int .i64 (0 : Int), .int .i64 (IntKind.i64.wrap (((raw.size : Nat) : Int) - (2 : Int))), .bool false] 222) w2.drew fun b45 w4 =>
      New (.cells #[.int .i64 (0 : Int), .int .i64 (0 : Int), .int .i64 (0 : Int), .int .i64 (0 : Int), .int .i64 (0 : Int), .int .i64 (0 : Int), .int .i64 (0 : Int), .bool false, .slice none 0 0, .string (ByteArray.mk #[])] 101) w4 fun m0_ w5 =>
      node_dec_one.Call (some ⟨b45, 0, none⟩) w5 fun r47 w6 =>
      Sts [.int .i64 r47] ⟨m0_, 0, none⟩ 0 w6 fun w7 =>
      node_dec_one.Call (some ⟨b45, 0, none⟩) w7 fun r50 w8 =>
      Sts [.int .i64 r50] ⟨m0_, 1, none⟩ 0 w8 fun w9 =>
      node_dec_one.Call (some ⟨b45, 0, none⟩) w9 fun r53 w10 =>
      Sts [.int .i64 r53] ⟨m0_, 2, none⟩ 0 w10 fun w11 =>
      node_dec_one.Call (some ⟨b45, 0, none⟩) w11 fun r56 w12 =>
      node_dec_num.Call (some ⟨b45, 0, none⟩) w12 fun r58 w13 =>
      Sts [.int .i64 r58] ⟨m0_, 3, none⟩ 0 w13 fun w14 =>
      node_dec_num.Call (some ⟨b45, 0, none⟩) w14 fun r61 w15 =>
      Sts [.int .i64 r61] ⟨m0_, 4, none⟩ 0 w15 fun w16 =>
      node_dec_num.Call (some ⟨b45, 0, none⟩) w16 fun r64 w17 =>
      Sts [.int .i64 r64] ⟨m0_, 5, none⟩ 0 w17 fun w18 =>
      node_dec_num.Call (some ⟨b45, 0, none⟩) w18 fun r67 w19 =>
      Sts [.int .i64 r67] ⟨m0_, 6, none⟩ 0 w19 fun w20 =>
      node_dec_one.Call (some ⟨b45, 0, none⟩) w20 fun r70 w21 =>
      LdI .i64 ⟨m0_, 0, none⟩ w21 fun x72 =>
      Bm (decide (x72 < (1 : Int))) (
        node_decode.B2 t2 b45 m0_ r56 r70 true w21  R) (
        LdI .i64 ⟨m0_, 0, none⟩ w21 fun x76 =>
        Bm (decide (x76 > (5 : Int))) (
          node_decode.B2 t2 b45 m0_ r56 r70 true w21  R) (
          LdI .i64 ⟨m0_, 1, none⟩ w21 fun x81 =>
          Bm (decide (x81 ≥ (3 : Int))) (
            node_decode.B2 t2 b45 m0_ r56 r70 true w21  R) (
            LdI .i64 ⟨m0_, 2, none⟩ w21 fun x86 =>
            Bm (decide (x86 ≥ (3 : Int))) (
              node_decode.B2 t2 b45 m0_ r56 r70 true w21  R) (
              Bm (decide (r56 > (1 : Int))) (
                node_decode.B2 t2 b45 m0_ r56 r70 true w21  R) (
                node_decode.B2 t2 b45 m0_ r56 r70 (decide (r70 > (2 : Int))) w21  R)))))))
theorem node_decode.B1_eq (raw : ByteArray) (t2 : Nat) (t20 : Bool) (w : World)   (R : Int → Int → Int → Int → Int → Int → Int → Bool → Option Addr → Nat → Nat → ByteArray → Bool → World → Prop) (sB2 : Nat → Nat → Nat → Int → Int → Bool → World → Prop) :
    (
  Bm t20 (
    Sts [.int .i64 (0 : Int), .int .i64 (0 : Int), .int .i64 (0 : Int), .int .i64 (0 : Int), .int .i64 (0 : Int), .int .i64 (0 : Int), .int .i64 (0 : Int), .bool false, .slice none 0 0, .string (ByteArray.mk #[])] ⟨t2, 0, none⟩ 0 w fun w1 =>
    LdI .i64 ⟨t2, 0, none⟩ w1 fun r_0 =>
    LdI .i64 ⟨t2, 1, none⟩ w1 fun r_1 =>
    LdI .i64 ⟨t2, 2, none⟩ w1 fun r_2 =>
    LdI .i64 ⟨t2, 3, none⟩ w1 fun r_3 =>
    LdI .i64 ⟨t2, 4, none⟩ w1 fun r_4 =>
    LdI .i64 ⟨t2, 5, none⟩ w1 fun r_5 =>
    LdI .i64 ⟨t2, 6, none⟩ w1 fun r_6 =>
    LdB ⟨t2, 7, none⟩ w1 fun r_7 =>
    LdL ⟨t2, 8, none⟩ w1 fun r_8_b r_8_l r_8_c =>
    LdS ⟨t2, 9, none⟩ w1 fun r_9 =>
    R r_0 r_1 r_2 r_3 r_4 r_5 r_6 r_7 r_8_b r_8_l r_8_c r_9 false w1) (
    node_sumOf.Call raw (IntKind.i64.wrap (((raw.size : Nat) : Int) - (2 : Int))) w fun r27 w2 =>
    (0 ≤ (IntKind.i64.wrap (((raw.size : Nat) : Int) - (2 : Int))) ∧ (IntKind.i64.wrap (((raw.size : Nat) : Int) - (2 : Int))) < ((raw.size : Nat) : Int)) ∧
    0 ≤ (8 : Int) ∧
    (0 ≤ (IntKind.i64.wrap ((IntKind.i64.wrap (((raw.size : Nat) : Int) - (2 : Int))) + (1 : Int))) ∧ (IntKind.i64.wrap ((IntKind.i64.wrap (((raw.size : Nat) : Int) - (2 : Int))) + (1 : Int))) < ((raw.size : Nat) : Int)) ∧
    Bm (r27 != (IntKind.i64.wrap (BitVec.ofInt IntKind.i64.bits (IntKind.i64.wrap ((IntKind.i64.wrap (byteAt raw (IntKind.i64.wrap (((raw.size : Nat) : Int) - (2 : Int))))) * 2 ^ (min (8 : Int).toNat IntKind.i64.bits))) ||| BitVec.ofInt IntKind.i64.bits (IntKind.i64.wrap (byteAt raw (IntKind.i64.wrap ((IntKind.i64.wrap (((raw.size : Nat) : Int) - (2 : Int))) + (1 : Int)))))).toNat)) (
      Sts [.int .i64 (0 : Int), .int .i64 (0 : Int), .int .i64 (0 : Int), .int .i64 (0 : Int), .int .i64 (0 : Int), .int .i64 (0 : Int), .int .i64 (0 : Int), .bool false, .slice none 0 0, .string (ByteArray.mk #[])] ⟨t2, 0, none⟩ 0 w2.drew fun w3 =>
      LdI .i64 ⟨t2, 0, none⟩ w3 fun r_0_1 =>
      LdI .i64 ⟨t2, 1, none⟩ w3 fun r_1_1 =>
      LdI .i64 ⟨t2, 2, none⟩ w3 fun r_2_1 =>
      LdI .i64 ⟨t2, 3, none⟩ w3 fun r_3_1 =>
      LdI .i64 ⟨t2, 4, none⟩ w3 fun r_4_1 =>
      LdI .i64 ⟨t2, 5, none⟩ w3 fun r_5_1 =>
      LdI .i64 ⟨t2, 6, none⟩ w3 fun r_6_1 =>
      LdB ⟨t2, 7, none⟩ w3 fun r_7_1 =>
      LdL ⟨t2, 8, none⟩ w3 fun r_8_b_1 r_8_l_1 r_8_c_1 =>
      LdS ⟨t2, 9, none⟩ w3 fun r_9_1 =>
      R r_0_1 r_1_1 r_2_1 r_3_1 r_4_1 r_5_1 r_6_1 r_7_1 r_8_b_1 r_8_l_1 r_8_c_1 r_9_1 false w3) (
      New (.cells #[.string raw, .int .i64 (0 : Int), .int .i64 (IntKind.i64.wrap (((raw.size : Nat) : Int) - (2 : Int))), .bool false] 222) w2.drew fun b45 w4 =>
      New (.cells #[.int .i64 (0 : Int), .int .i64 (0 : Int), .int .i64 (0 : Int), .int .i64 (0 : Int), .int .i64 (0 : Int), .int .i64 (0 : Int), .int .i64 (0 : Int), .bool false, .slice none 0 0, .string (ByteArray.mk #[])] 101) w4 fun m0_ w5 =>
      node_dec_one.Call (some ⟨b45, 0, none⟩) w5 fun r47 w6 =>
      Sts [.int .i64 r47] ⟨m0_, 0, none⟩ 0 w6 fun w7 =>
      node_dec_one.Call (some ⟨b45, 0, none⟩) w7 fun r50 w8 =>
      Sts [.int .i64 r50] ⟨m0_, 1, none⟩ 0 w8 fun w9 =>
      node_dec_one.Call (some ⟨b45, 0, none⟩) w9 fun r53 w10 =>
      Sts [.int .i64 r53] ⟨m0_, 2, none⟩ 0 w10 fun w11 =>
      node_dec_one.Call (some ⟨b45, 0, none⟩) w11 fun r56 w12 =>
      node_dec_num.Call (some ⟨b45, 0, none⟩) w12 fun r58 w13 =>
      Sts [.int .i64 r58] ⟨m0_, 3, none⟩ 0 w13 fun w14 =>
      node_dec_num.Call (some ⟨b45, 0, none⟩) w14 fun r61 w15 =>
      Sts [.int .i64 r61] ⟨m0_, 4, none⟩ 0 w15 fun w16 =>
      node_dec_num.Call (some ⟨b45, 0, none⟩) w16 fun r64 w17 =>
      Sts [.int .i64 r64] ⟨m0_, 5, none⟩ 0 w17 fun w18 =>
      node_dec_num.Call (some ⟨b45, 0, none⟩) w18 fun r67 w19 =>
      Sts [.int .i64 r67] ⟨m0_, 6, none⟩ 0 w19 fun w20 =>
      node_dec_one.Call (some ⟨b45, 0, none⟩) w20 fun r70 w21 =>
      LdI .i64 ⟨m0_, 0, none⟩ w21 fun x72 =>
      Bm (decide (x72 < (1 : Int))) (
        sB2 t2 b45 m0_ r56 r70 true w21) (
        LdI .i64 ⟨m0_, 0, none⟩ w21 fun x76 =>
        Bm (decide (x76 > (5 : Int))) (
          sB2 t2 b45 m0_ r56 r70 true w21) (
          LdI .i64 ⟨m0_, 1, none⟩ w21 fun x81 =>
          Bm (decide (x81 ≥ (3 : Int))) (
            sB2 t2 b45 m0_ r56 r70 true w21) (
            LdI .i64 ⟨m0_, 2, none⟩ w21 fun x86 =>
            Bm (decide (x86 ≥ (3 : Int))) (
              sB2 t2 b45 m0_ r56 r70 true w21) (
              Bm (decide (r56 > (1 : Int))) (
                sB2 t2 b45 m0_ r56 r70 true w21) (
                sB2 t2 b45 m0_ r56 r70 (decide (r70 > (2 : Int))) w21)))))))) = kstep Tryz.prog 147 Tryz.f75.results.toList (Tryz.f75.body.getD .skip) (node_decode.RV R) (kvc Tryz.prog 147 Tryz.f75.results.toList (Tryz.f75.body.getD .skip) (node_decode.RV R) [([(0, [1, 1, 1, 1, 1, 1, 1, 1, 1, 1, 1, 1, 1, 1, 1, 1, 0, 1]), (0, [1, 1, 1, 1, 1, 1, 1, 1, 1, 1, 1, 1, 1, 1, 1, 1, 1])], fun σ w => dK (slotOf σ 2) fun t2_ => dK (slotOf σ 6) fun d_ => dK (slotOf σ 7) fun m0_ => dI .i64 (slotOf σ 8) fun ok_ => dI .i64 (slotOf σ 9) fun count_ => dB (slotOf σ 96) fun t96_ => sB2 t2_ d_ m0_ ok_ count_ t96_ w)] 2000) [(0, [1, 0, 1]), (0, [1, 1])] [(0, .string raw), (2, .pointer (some ⟨t2, 0, none⟩)), (20, .bool t20)] w := by kernel_rfl
theorem node_decode.B1_sound {R : Int → Int → Int → Int → Int → Int → Int → Bool → Option Addr → Nat → Nat → ByteArray → Bool → World → Prop}  (raw : ByteArray) (t2 : Nat) (t20 : Bool) (w : World) (h : node_decode.B1 raw t2 t20 w   R) :
    KW Tryz.prog 75 147 (node_decode.RV R) ([(0, [1, 0, 1]), (0, [1, 1])].map (toItem (Tryz.f75.body.getD .skip))) [(0, .string raw), (2, .pointer (some ⟨t2, 0, none⟩)), (20, .bool t20)] w := by
  exact block_spec Tryz.func75 Tryz.mixed (stops_cons (fun σ w h => by
      obtain ⟨t2_, e0, h⟩ := dK_elim h
      obtain ⟨d_, e1, h⟩ := dK_elim h
      obtain ⟨m0_, e2, h⟩ := dK_elim h
      obtain ⟨ok_, e3, h⟩ := dI_elim h
      obtain ⟨count_, e4, h⟩ := dI_elim h
      obtain ⟨t96_, e5, h⟩ := dB_elim h
      exact (node_decode.B2_sound  t2_ d_ m0_ ok_ count_ t96_ w h).weaken (Sub.cons (Sub.cons (Sub.cons (Sub.cons (Sub.cons (Sub.cons (Sub.nil _) e5) e4) e3) e2) e1) e0)) stops_nil) (Eq.mp (node_decode.B1_eq raw t2 t20 w   R (fun t2_ d_ m0_ ok_ count_ t96_ w => node_decode.B2 t2_ d_ m0_ ok_ count_ t96_ w  R)) h)
def node_decode.B0 (raw : ByteArray) (w : World)   (R : Int → Int → Int → Int → Int → Int → Int → Bool → Option Addr → Nat → Nat → ByteArray → Bool → World → Prop) : Prop :=
  New (.cells #[.int .i64 (0 : Int), .int .i64 (0 : Int), .int .i64 (0 : Int), .int .i64 (0 : Int), .int .i64 (0 : Int), .int .i64 (0 : Int), .int .i64 (0 : Int), .bool false, .slice none 0 0, .string (ByteArray.mk #[])] 101) w fun b2 w1 =>
  Bm (decide (((raw.size : Nat) : Int) < (40 : Int))) (
    node_decode.B1 raw b2 true w1  R) (
    node_decode.B1 raw b2 (decide (((raw.size : Nat) : Int) > (234 : Int))) w1  R)
theorem node_decode.B0_eq (raw : ByteArray) (w : World)   (R : Int → Int → Int → Int → Int → Int → Int → Bool → Option Addr → Nat → Nat → ByteArray → Bool → World → Prop) (sB1 : ByteArray → Nat → Bool → World → Prop) :
    (
  New (.cells #[.int .i64 (0 : Int), .int .i64 (0 : Int), .int .i64 (0 : Int), .int .i64 (0 : Int), .int .i64 (0 : Int), .int .i64 (0 : Int), .int .i64 (0 : Int), .bool false, .slice none 0 0, .string (ByteArray.mk #[])] 101) w fun b2 w1 =>
  Bm (decide (((raw.size : Nat) : Int) < (40 : Int))) (
    sB1 raw b2 true w1) (
    sB1 raw b2 (decide (((raw.size : Nat) : Int) > (234 : Int))) w1)) = kstep Tryz.prog 147 Tryz.f75.results.toList (Tryz.f75.body.getD .skip) (node_decode.RV R) (kvc Tryz.prog 147 Tryz.f75.results.toList (Tryz.f75.body.getD .skip) (node_decode.RV R) [([(0, [1, 0, 1]), (0, [1, 1])], fun σ w => dS (slotOf σ 0) fun raw_ => dK (slotOf σ 2) fun t2_ => dB (slotOf σ 20) fun t20_ => sB1 raw_ t2_ t20_ w)] 2000) [(0, [])] [(0, .string raw)] w := by kernel_rfl
theorem node_decode.B0_sound {R : Int → Int → Int → Int → Int → Int → Int → Bool → Option Addr → Nat → Nat → ByteArray → Bool → World → Prop}  (raw : ByteArray) (w : World) (h : node_decode.B0 raw w   R) :
    KW Tryz.prog 75 147 (node_decode.RV R) ([(0, [])].map (toItem (Tryz.f75.body.getD .skip))) [(0, .string raw)] w := by
  exact block_spec Tryz.func75 Tryz.mixed (stops_cons (fun σ w h => by
      obtain ⟨raw_, e0, h⟩ := dS_elim h
      obtain ⟨t2_, e1, h⟩ := dK_elim h
      obtain ⟨t20_, e2, h⟩ := dB_elim h
      exact (node_decode.B1_sound  raw_ t2_ t20_ w h).weaken (Sub.cons (Sub.cons (Sub.cons (Sub.nil _) e2) e1) e0)) stops_nil) (Eq.mp (node_decode.B0_eq raw w   R (fun raw_ t2_ t20_ w => node_decode.B1 raw_ t2_ t20_ w  R)) h)
theorem node_decode.sound (raw : ByteArray) (w : World) (R : Int → Int → Int → Int → Int → Int → Int → Bool → Option Addr → Nat → Nat → ByteArray → Bool → World → Prop) (h : node_decode.B0 raw w R) : node_decode.Call raw w R := by
  have hc := calls_of_block (args := #[.string raw]) Tryz.func75 (body := (Tryz.f75.body.getD .skip)) (by kernel_rfl) (by kernel_rfl) (args_slot _) (node_decode.B0_sound raw w h)
  exact hc.mono fun e w' he => by
    obtain ⟨v, rfl, hv⟩ := he
    exact node_decode.RV_elim hv
end Go.Proofs.Qxb6500430aGreat
