import Derived.Test.Qxb6500433aGreatSig
set_option maxRecDepth 100000
set_option linter.unusedVariables false
open Go.Vc
namespace Go.Proofs.Qxb6500433aGreat
def rlog_Open.B1 (l : Nat) (t58 : Bool) (w : World) (N1 : Nat → World → Prop)  (R : Option Addr → World → Prop) : Prop :=
  Bm t58 (
    LdI .i64 ⟨l, 6, none⟩ w fun x62 =>
    Sts [.int .i64 (IntKind.i64.wrap (x62 + (1 : Int)))] ⟨l, 6, none⟩ 0 w fun w1 =>
    N1 l w1) (
    rlog_Log_sweep.Call (some ⟨l, 0, none⟩) w fun w2 =>
    R (some ⟨l, 0, none⟩) w2)
theorem rlog_Open.B1_eq (l : Nat) (t58 : Bool) (w : World) (N1 : Nat → World → Prop)  (R : Option Addr → World → Prop)  :
    (
  Bm t58 (
    LdI .i64 ⟨l, 6, none⟩ w fun x62 =>
    Sts [.int .i64 (IntKind.i64.wrap (x62 + (1 : Int)))] ⟨l, 6, none⟩ 0 w fun w1 =>
    N1 l w1) (
    rlog_Log_sweep.Call (some ⟨l, 0, none⟩) w fun w2 =>
    R (some ⟨l, 0, none⟩) w2)) = kstep Tryz.prog 69 Tryz.f33.results.toList (Tryz.f33.body.getD .skip) (rlog_Open.RV R) (kvc Tryz.prog 69 Tryz.f33.results.toList (Tryz.f33.body.getD .skip) (rlog_Open.RV R) [([(0, [1, 1, 1, 1, 1, 0, 0, 0]), (2, [1, 1, 1, 1, 1, 0, 0, 0]), (1, [0]), (0, [1, 1, 1, 1, 1, 1])], fun σ w => dK (slotOf σ 3) fun l_ => N1 l_ w)] 2000) [(0, [1, 1, 1, 1, 1, 0, 0, 0, 0, 1]), (0, [1, 1, 1, 1, 1, 0, 0, 0, 1]), (2, [1, 1, 1, 1, 1, 0, 0, 0]), (1, [0]), (0, [1, 1, 1, 1, 1, 1])] [(3, .pointer (some ⟨l, 0, none⟩)), (58, .bool t58)] w := by kernel_rfl
theorem rlog_Open.B1_sound {R : Option Addr → World → Prop} {N1 : Nat → World → Prop} (hN1 : ∀ l w, N1 l w → KW Tryz.prog 33 69 (rlog_Open.RV R) ([(0, [1, 1, 1, 1, 1, 0, 0, 0]), (2, [1, 1, 1, 1, 1, 0, 0, 0]), (1, [0]), (0, [1, 1, 1, 1, 1, 1])].map (toItem (Tryz.f33.body.getD .skip))) [(3, .pointer (some ⟨l, 0, none⟩))] w) (l : Nat) (t58 : Bool) (w : World) (h : rlog_Open.B1 l t58 w N1  R) :
    KW Tryz.prog 33 69 (rlog_Open.RV R) ([(0, [1, 1, 1, 1, 1, 0, 0, 0, 0, 1]), (0, [1, 1, 1, 1, 1, 0, 0, 0, 1]), (2, [1, 1, 1, 1, 1, 0, 0, 0]), (1, [0]), (0, [1, 1, 1, 1, 1, 1])].map (toItem (Tryz.f33.body.getD .skip))) [(3, .pointer (some ⟨l, 0, none⟩)), (58, .bool t58)] w := by
  exact block_spec Tryz.func33 Tryz.mixed (stops_cons (fun σ w h => by
      obtain ⟨l_, e0, h⟩ := dK_elim h
      exact (hN1 l_ w h).weaken (Sub.cons (Sub.nil _) e0)) stops_nil) (Eq.mp (rlog_Open.B1_eq l t58 w N1  R ) h)
def rlog_Open.L1b (l : Nat) (w : World)  (N1 : Nat → World → Prop) (R : Option Addr → World → Prop) : Prop :=
  LdI .i64 ⟨l, 6, none⟩ w.drew fun x43 =>
  LdI .i64 ⟨l, 3, none⟩ w.drew fun x47 =>
  Bm (decide ((IntKind.i64.wrap (x43 - x47)) < (6 : Int))) (
    LdI .i64 ⟨l, 6, none⟩ w.drew fun x55 =>
    rlog_Log_load.Call (some ⟨l, 0, none⟩) (IntKind.i64.wrap (x55 + (1 : Int))) w.drew fun r57 w1 =>
    rlog_Open.B1 l r57 w1 N1 R) (
    rlog_Open.B1 l false w.drew N1 R)
theorem rlog_Open.L1b_eq (l : Nat) (w : World)  (N1 : Nat → World → Prop) (R : Option Addr → World → Prop) (sB1 : Nat → Bool → World → Prop) :
    (
  LdI .i64 ⟨l, 6, none⟩ w.drew fun x43 =>
  LdI .i64 ⟨l, 3, none⟩ w.drew fun x47 =>
  Bm (decide ((IntKind.i64.wrap (x43 - x47)) < (6 : Int))) (
    LdI .i64 ⟨l, 6, none⟩ w.drew fun x55 =>
    rlog_Log_load.Call (some ⟨l, 0, none⟩) (IntKind.i64.wrap (x55 + (1 : Int))) w.drew fun r57 w1 =>
    sB1 l r57 w1) (
    sB1 l false w.drew)) = kstep Tryz.prog 69 Tryz.f33.results.toList (Tryz.f33.body.getD .skip) (rlog_Open.RV R) (kvc Tryz.prog 69 Tryz.f33.results.toList (Tryz.f33.body.getD .skip) (rlog_Open.RV R) [([(0, [1, 1, 1, 1, 1, 0, 0, 0, 0, 1]), (0, [1, 1, 1, 1, 1, 0, 0, 0, 1]), (2, [1, 1, 1, 1, 1, 0, 0, 0]), (1, [0]), (0, [1, 1, 1, 1, 1, 1])], fun σ w => dK (slotOf σ 3) fun l_ => dB (slotOf σ 58) fun t58_ => sB1 l_ t58_ w)] 2000) [(0, [1, 1, 1, 1, 1, 0, 0, 0]), (2, [1, 1, 1, 1, 1, 0, 0, 0]), (1, [0]), (0, [1, 1, 1, 1, 1, 1])] [(3, .pointer (some ⟨l, 0, none⟩))] w := by kernel_rfl
theorem rlog_Open.L1b_sound {R : Option Addr → World → Prop} {N1 : Nat → World → Prop} (hN1 : ∀ l w, N1 l w → KW Tryz.prog 33 69 (rlog_Open.RV R) ([(0, [1, 1, 1, 1, 1, 0, 0, 0]), (2, [1, 1, 1, 1, 1, 0, 0, 0]), (1, [0]), (0, [1, 1, 1, 1, 1, 1])].map (toItem (Tryz.f33.body.getD .skip))) [(3, .pointer (some ⟨l, 0, none⟩))] w) (l : Nat) (w : World) (h : rlog_Open.L1b l w  N1 R) :
    KW Tryz.prog 33 69 (rlog_Open.RV R) ([(0, [1, 1, 1, 1, 1, 0, 0, 0]), (2, [1, 1, 1, 1, 1, 0, 0, 0]), (1, [0]), (0, [1, 1, 1, 1, 1, 1])].map (toItem (Tryz.f33.body.getD .skip))) [(3, .pointer (some ⟨l, 0, none⟩))] w := by
  exact block_spec Tryz.func33 Tryz.mixed (stops_cons (fun σ w h => by
      obtain ⟨l_, e0, h⟩ := dK_elim h
      obtain ⟨t58_, e1, h⟩ := dB_elim h
      exact (rlog_Open.B1_sound hN1 l_ t58_ w h).weaken (Sub.cons (Sub.cons (Sub.nil _) e1) e0)) stops_nil) (Eq.mp (rlog_Open.L1b_eq l w  N1 R (fun l_ t58_ w => rlog_Open.B1 l_ t58_ w N1 R)) h)
def rlog_Open.L1 (l : Nat) (w : World)  (R : Option Addr → World → Prop) : Prop :=
  ∃ (I : Nat → Nat → World → Prop) (m : Nat), I m l w ∧ ∀ m l w, I m l w → rlog_Open.L1b l w  (fun l' w' => ∃ m', m' < m ∧ I m' l' w') R
theorem rlog_Open.L1_sound {R : Option Addr → World → Prop}  (l : Nat) (w : World) (h : rlog_Open.L1 l w  R) :
    KW Tryz.prog 33 69 (rlog_Open.RV R) ([(0, [1, 1, 1, 1, 1, 0, 0, 0]), (2, [1, 1, 1, 1, 1, 0, 0, 0]), (1, [0]), (0, [1, 1, 1, 1, 1, 1])].map (toItem (Tryz.f33.body.getD .skip))) [(3, .pointer (some ⟨l, 0, none⟩))] w := by
  obtain ⟨I, m, hBase, hr⟩ := h
  refine KW.loop (fun m σ w => ∃ (l : Nat), σ = [(3, .pointer (some ⟨l, 0, none⟩))] ∧ I m l w) ?_ m _ w ⟨l, rfl, hBase⟩
  rintro m ih σ w ⟨l, rfl, hI⟩
  exact rlog_Open.L1b_sound  (N1 := fun l' w' => ∃ m', m' < m ∧ I m' l' w') (fun l' w' hx => by obtain ⟨m', hlt, hI'⟩ := hx; exact ih m' hlt _ w' ⟨l', rfl, hI'⟩) l w (hr m l w hI)
def rlog_Open.B0 (st : Option Addr) (w : World)   (R : Option Addr → World → Prop) : Prop :=
  New (.cells #[.pointer st, .int .i64 (0 : Int), .int .i64 (0 : Int), .int .i64 (0 : Int), .int .i64 (0 : Int), .string (ByteArray.mk #[]), .int .i64 (0 : Int), .int .i64 (0 : Int), .int .i64 (0 : Int), .int .i64 (0 : Int), .int .i64 (0 : Int), .int .i64 (0 : Int), .int .i64 (0 : Int), .string (ByteArray.mk #[]), .string (ByteArray.mk #[]), .string (ByteArray.mk #[]), .string (ByteArray.mk #[]), .string (ByteArray.mk #[]), .string (ByteArray.mk #[])] 133) w fun b6 w1 =>
  store_Store_Meta.Call st w1 fun r11_0 r11_1 w2 =>
  Sts [.int .i64 r11_0] ⟨b6, 1, none⟩ 0 w2 fun w3 =>
  Sts [.int .i64 r11_1] ⟨b6, 2, none⟩ 0 w3 fun w4 =>
  store_Store_Snap.Call st w4 fun r23_0 r23_1 r23_2 w5 =>
  Sts [.int .i64 r23_0] ⟨b6, 3, none⟩ 0 w5 fun w6 =>
  Sts [.int .i64 r23_1] ⟨b6, 4, none⟩ 0 w6 fun w7 =>
  Sts [.string r23_2] ⟨b6, 5, none⟩ 0 w7 fun w8 =>
  LdI .i64 ⟨b6, 3, none⟩ w8 fun x37 =>
  Sts [.int .i64 x37] ⟨b6, 6, none⟩ 0 w8 fun w9 =>
  rlog_Open.L1 b6 w9  R
theorem rlog_Open.B0_eq (st : Option Addr) (w : World)   (R : Option Addr → World → Prop) (sL1 : Nat → World → Prop) :
    (
  New (.cells #[.pointer st, .int .i64 (0 : Int), .int .i64 (0 : Int), .int .i64 (0 : Int), .int .i64 (0 : Int), .string (ByteArray.mk #[]), .int .i64 (0 : Int), .int .i64 (0 : Int), .int .i64 (0 : Int), .int .i64 (0 : Int), .int .i64 (0 : Int), .int .i64 (0 : Int), .int .i64 (0 : Int), .string (ByteArray.mk #[]), .string (ByteArray.mk #[]), .string (ByteArray.mk #[]), .string (ByteArray.mk #[]), .string (ByteArray.mk #[]), .string (ByteArray.mk #[])] 133) w fun b6 w1 =>
  store_Store_Meta.Call st w1 fun r11_0 r11_1 w2 =>
  Sts [.int .i64 r11_0] ⟨b6, 1, none⟩ 0 w2 fun w3 =>
  Sts [.int .i64 r11_1] ⟨b6, 2, none⟩ 0 w3 fun w4 =>
  store_Store_Snap.Call st w4 fun r23_0 r23_1 r23_2 w5 =>
  Sts [.int .i64 r23_0] ⟨b6, 3, none⟩ 0 w5 fun w6 =>
  Sts [.int .i64 r23_1] ⟨b6, 4, none⟩ 0 w6 fun w7 =>
  Sts [.string r23_2] ⟨b6, 5, none⟩ 0 w7 fun w8 =>
  LdI .i64 ⟨b6, 3, none⟩ w8 fun x37 =>
  Sts [.int .i64 x37] ⟨b6, 6, none⟩ 0 w8 fun w9 =>
  sL1 b6 w9) = kstep Tryz.prog 69 Tryz.f33.results.toList (Tryz.f33.body.getD .skip) (rlog_Open.RV R) (kvc Tryz.prog 69 Tryz.f33.results.toList (Tryz.f33.body.getD .skip) (rlog_Open.RV R) [([(0, [1, 1, 1, 1, 1, 0, 0, 0]), (2, [1, 1, 1, 1, 1, 0, 0, 0]), (1, [0]), (0, [1, 1, 1, 1, 1, 1])], fun σ w => dK (slotOf σ 3) fun l_ => sL1 l_ w)] 2000) [(0, [])] [(0, .pointer st)] w := by kernel_rfl
theorem rlog_Open.B0_sound {R : Option Addr → World → Prop}  (st : Option Addr) (w : World) (h : rlog_Open.B0 st w   R) :
    KW Tryz.prog 33 69 (rlog_Open.RV R) ([(0, [])].map (toItem (Tryz.f33.body.getD .skip))) [(0, .pointer st)] w := by
  exact block_spec Tryz.func33 Tryz.mixed (stops_cons (fun σ w h => by
      obtain ⟨l_, e0, h⟩ := dK_elim h
      exact (rlog_Open.L1_sound  l_ w h).weaken (Sub.cons (Sub.nil _) e0)) stops_nil) (Eq.mp (rlog_Open.B0_eq st w   R (fun l_ w => rlog_Open.L1 l_ w  R)) h)
theorem rlog_Open.sound (st : Option Addr) (w : World) (R : Option Addr → World → Prop) (h : rlog_Open.B0 st w R) : rlog_Open.Call st w R := by
  have hc := calls_of_block (args := #[.pointer st]) Tryz.func33 (body := (Tryz.f33.body.getD .skip)) (by kernel_rfl) (by kernel_rfl) (args_slot _) (rlog_Open.B0_sound st w h)
  exact hc.mono fun e w' he => by
    obtain ⟨v, rfl, hv⟩ := he
    exact rlog_Open.RV_elim hv
def elect_Elect_put.B0 (e : Option Addr) (role vote leader : Int) (w : World)   (R : World → Prop) : Prop :=
  0 ≤ (2 : Int) ∧
  0 ≤ (4 : Int) ∧
  Pn e fun a =>
  Sts [.int .i64 (IntKind.i64.wrap (BitVec.ofInt IntKind.i64.bits (IntKind.i64.wrap (BitVec.ofInt IntKind.i64.bits role ||| BitVec.ofInt IntKind.i64.bits (IntKind.i64.wrap ((IntKind.i64.wrap (vote + (1 : Int))) * 2 ^ (min (2 : Int).toNat IntKind.i64.bits)))).toNat) ||| BitVec.ofInt IntKind.i64.bits (IntKind.i64.wrap ((IntKind.i64.wrap (leader + (1 : Int))) * 2 ^ (min (4 : Int).toNat IntKind.i64.bits)))).toNat)] (a.add 2) 0 w fun w1 =>
  R  w1
theorem elect_Elect_put.B0_eq (e : Option Addr) (role vote leader : Int) (w : World)   (R : World → Prop)  :
    (
  0 ≤ (2 : Int) ∧
  0 ≤ (4 : Int) ∧
  Pn e fun a =>
  Sts [.int .i64 (IntKind.i64.wrap (BitVec.ofInt IntKind.i64.bits (IntKind.i64.wrap (BitVec.ofInt IntKind.i64.bits role ||| BitVec.ofInt IntKind.i64.bits (IntKind.i64.wrap ((IntKind.i64.wrap (vote + (1 : Int))) * 2 ^ (min (2 : Int).toNat IntKind.i64.bits)))).toNat) ||| BitVec.ofInt IntKind.i64.bits (IntKind.i64.wrap ((IntKind.i64.wrap (leader + (1 : Int))) * 2 ^ (min (4 : Int).toNat IntKind.i64.bits)))).toNat)] (a.add 2) 0 w fun w1 =>
  R  w1) = kstep Tryz.prog 20 Tryz.f34.results.toList (Tryz.f34.body.getD .skip) (elect_Elect_put.RV R) (kvc Tryz.prog 20 Tryz.f34.results.toList (Tryz.f34.body.getD .skip) (elect_Elect_put.RV R) [] 2000) [(0, [])] [(0, .pointer e), (1, .int .i64 role), (2, .int .i64 vote), (3, .int .i64 leader)] w := by kernel_rfl
theorem elect_Elect_put.B0_sound {R : World → Prop}  (e : Option Addr) (role vote leader : Int) (w : World) (h : elect_Elect_put.B0 e role vote leader w   R) :
    KW Tryz.prog 34 20 (elect_Elect_put.RV R) ([(0, [])].map (toItem (Tryz.f34.body.getD .skip))) [(0, .pointer e), (1, .int .i64 role), (2, .int .i64 vote), (3, .int .i64 leader)] w := by
  exact block_spec Tryz.func34 Tryz.mixed stops_nil (Eq.mp (elect_Elect_put.B0_eq e role vote leader w   R ) h)
theorem elect_Elect_put.sound (e : Option Addr) (role vote leader : Int) (w : World) (R : World → Prop) (h : elect_Elect_put.B0 e role vote leader w R) : elect_Elect_put.Call e role vote leader w R := by
  have hc := calls_of_block (args := #[.pointer e, .int .i64 role, .int .i64 vote, .int .i64 leader]) Tryz.func34 (body := (Tryz.f34.body.getD .skip)) (by kernel_rfl) (by kernel_rfl) (args_slot _) (elect_Elect_put.B0_sound e role vote leader w h)
  exact hc.mono fun e w' he => by
    obtain ⟨v, rfl, hv⟩ := he
    exact elect_Elect_put.RV_elim hv
def elect_Elect_wind.B0 (e : Option Addr) (w : World)   (R : World → Prop) : Prop :=
  Pn e fun a =>
  LdI .i64 a w fun x7 =>
  api_Timeout.Call x7 w fun r8 w1 =>
  Pn e fun a_1 =>
  Sts [.int .i64 (0 : Int)] (a_1.add 4) 0 w1 fun w2 =>
  Pn e fun a_2 =>
  Sts [.int .i64 r8] (a_2.add 5) 0 w2 fun w3 =>
  R  w3
theorem elect_Elect_wind.B0_eq (e : Option Addr) (w : World)   (R : World → Prop)  :
    (
  Pn e fun a =>
  LdI .i64 a w fun x7 =>
  api_Timeout.Call x7 w fun r8 w1 =>
  Pn e fun a_1 =>
  Sts [.int .i64 (0 : Int)] (a_1.add 4) 0 w1 fun w2 =>
  Pn e fun a_2 =>
  Sts [.int .i64 r8] (a_2.add 5) 0 w2 fun w3 =>
  R  w3) = kstep Tryz.prog 13 Tryz.f35.results.toList (Tryz.f35.body.getD .skip) (elect_Elect_wind.RV R) (kvc Tryz.prog 13 Tryz.f35.results.toList (Tryz.f35.body.getD .skip) (elect_Elect_wind.RV R) [] 2000) [(0, [])] [(0, .pointer e)] w := by kernel_rfl
theorem elect_Elect_wind.B0_sound {R : World → Prop}  (e : Option Addr) (w : World) (h : elect_Elect_wind.B0 e w   R) :
    KW Tryz.prog 35 13 (elect_Elect_wind.RV R) ([(0, [])].map (toItem (Tryz.f35.body.getD .skip))) [(0, .pointer e)] w := by
  exact block_spec Tryz.func35 Tryz.mixed stops_nil (Eq.mp (elect_Elect_wind.B0_eq e w   R ) h)
theorem elect_Elect_wind.sound (e : Option Addr) (w : World) (R : World → Prop) (h : elect_Elect_wind.B0 e w R) : elect_Elect_wind.Call e w R := by
  have hc := calls_of_block (args := #[.pointer e]) Tryz.func35 (body := (Tryz.f35.body.getD .skip)) (by kernel_rfl) (by kernel_rfl) (args_slot _) (elect_Elect_wind.B0_sound e w h)
  exact hc.mono fun e w' he => by
    obtain ⟨v, rfl, hv⟩ := he
    exact elect_Elect_wind.RV_elim hv
def rlogm_New.B0  (w : World)   (R : Option Addr → World → Prop) : Prop :=
  New (.cells #[.int .i64 (0 : Int), .int .i64 (-1 : Int), .int .i64 (0 : Int), .int .i64 (0 : Int), .string (ByteArray.mk #[]), .int .i64 (0 : Int), .int .i64 (0 : Int), .string (ByteArray.mk #[]), .int .i64 (0 : Int), .string (ByteArray.mk #[]), .int .i64 (0 : Int), .string (ByteArray.mk #[]), .int .i64 (0 : Int), .string (ByteArray.mk #[]), .int .i64 (0 : Int), .string (ByteArray.mk #[]), .int .i64 (0 : Int), .string (ByteArray.mk #[])] 143) w fun b3 w1 =>
  New (.cells #[.pointer (some ⟨b3, 0, none⟩), .pointer none, .slice none 0 0] 146) w1 fun b5 w2 =>
  LdP ⟨b5, 0, none⟩ w2 fun x10 =>
  rlogm_state_clone.Call x10 w2 fun r11 w3 =>
  Sts [.pointer r11] ⟨b5, 1, none⟩ 0 w3 fun w4 =>
  R (some ⟨b5, 0, none⟩) w4
theorem rlogm_New.B0_eq  (w : World)   (R : Option Addr → World → Prop)  :
    (
  New (.cells #[.int .i64 (0 : Int), .int .i64 (-1 : Int), .int .i64 (0 : Int), .int .i64 (0 : Int), .string (ByteArray.mk #[]), .int .i64 (0 : Int), .int .i64 (0 : Int), .string (ByteArray.mk #[]), .int .i64 (0 : Int), .string (ByteArray.mk #[]), .int .i64 (0 : Int), .string (ByteArray.mk #[]), .int .i64 (0 : Int), .string (ByteArray.mk #[]), .int .i64 (0 : Int), .string (ByteArray.mk #[]), .int .i64 (0 : Int), .string (ByteArray.mk #[])] 143) w fun b3 w1 =>
  New (.cells #[.pointer (some ⟨b3, 0, none⟩), .pointer none, .slice none 0 0] 146) w1 fun b5 w2 =>
  LdP ⟨b5, 0, none⟩ w2 fun x10 =>
  rlogm_state_clone.Call x10 w2 fun r11 w3 =>
  Sts [.pointer r11] ⟨b5, 1, none⟩ 0 w3 fun w4 =>
  R (some ⟨b5, 0, none⟩) w4) = kstep Tryz.prog 15 Tryz.f36.results.toList (Tryz.f36.body.getD .skip) (rlogm_New.RV R) (kvc Tryz.prog 15 Tryz.f36.results.toList (Tryz.f36.body.getD .skip) (rlogm_New.RV R) [] 2000) [(0, [])] [] w := by kernel_rfl
theorem rlogm_New.B0_sound {R : Option Addr → World → Prop}   (w : World) (h : rlogm_New.B0  w   R) :
    KW Tryz.prog 36 15 (rlogm_New.RV R) ([(0, [])].map (toItem (Tryz.f36.body.getD .skip))) [] w := by
  exact block_spec Tryz.func36 Tryz.mixed stops_nil (Eq.mp (rlogm_New.B0_eq  w   R ) h)
theorem rlogm_New.sound  (w : World) (R : Option Addr → World → Prop) (h : rlogm_New.B0  w R) : rlogm_New.Call  w R := by
  have hc := calls_of_block (args := #[]) Tryz.func36 (body := (Tryz.f36.body.getD .skip)) (by kernel_rfl) (by kernel_rfl) (args_slot _) (rlogm_New.B0_sound  w h)
  exact hc.mono fun e w' he => by
    obtain ⟨v, rfl, hv⟩ := he
    exact rlogm_New.RV_elim hv
def electm_New.B2 (id0 : Int) (w : World)   (R : Option Addr → World → Prop) : Prop :=
  New (.cells #[.int .i64 id0, .int .i64 (0 : Int), .int .i64 (-1 : Int), .int .i64 (0 : Int), .int .i64 (-1 : Int), .int .i64 (0 : Int), .bool false, .bool false, .bool false] 149) w fun b11 w1 =>
  R (some ⟨b11, 0, none⟩) w1
theorem electm_New.B2_eq (id0 : Int) (w : World)   (R : Option Addr → World → Prop)  :
    (
  New (.cells #[.int .i64 id0, .int .i64 (0 : Int), .int .i64 (-1 : Int), .int .i64 (0 : Int), .int .i64 (-1 : Int), .int .i64 (0 : Int), .bool false, .bool false, .bool false] 149) w fun b11 w1 =>
  R (some ⟨b11, 0, none⟩) w1) = kstep Tryz.prog 12 Tryz.f37.results.toList (Tryz.f37.body.getD .skip) (electm_New.RV R) (kvc Tryz.prog 12 Tryz.f37.results.toList (Tryz.f37.body.getD .skip) (electm_New.RV R) [] 2000) [(0, [1, 1])] [(0, .int .i64 id0)] w := by kernel_rfl
theorem electm_New.B2_sound {R : Option Addr → World → Prop}  (id0 : Int) (w : World) (h : electm_New.B2 id0 w   R) :
    KW Tryz.prog 37 12 (electm_New.RV R) ([(0, [1, 1])].map (toItem (Tryz.f37.body.getD .skip))) [(0, .int .i64 id0)] w := by
  exact block_spec Tryz.func37 Tryz.mixed stops_nil (Eq.mp (electm_New.B2_eq id0 w   R ) h)
def electm_New.B1 (id0 : Int) (t8 : Bool) (w : World)   (R : Option Addr → World → Prop) : Prop :=
  Bm t8 (
    electm_New.B2 (0 : Int) w  R) (
    electm_New.B2 id0 w  R)
theorem electm_New.B1_eq (id0 : Int) (t8 : Bool) (w : World)   (R : Option Addr → World → Prop) (sB2 : Int → World → Prop) :
    (
  Bm t8 (
    sB2 (0 : Int) w) (
    sB2 id0 w)) = kstep Tryz.prog 12 Tryz.f37.results.toList (Tryz.f37.body.getD .skip) (electm_New.RV R) (kvc Tryz.prog 12 Tryz.f37.results.toList (Tryz.f37.body.getD .skip) (electm_New.RV R) [([(0, [1, 1])], fun σ w => dI .i64 (slotOf σ 0) fun id0_ => sB2 id0_ w)] 2000) [(0, [1, 0, 1]), (0, [1, 1])] [(0, .int .i64 id0), (8, .bool t8)] w := by kernel_rfl
theorem electm_New.B1_sound {R : Option Addr → World → Prop}  (id0 : Int) (t8 : Bool) (w : World) (h : electm_New.B1 id0 t8 w   R) :
    KW Tryz.prog 37 12 (electm_New.RV R) ([(0, [1, 0, 1]), (0, [1, 1])].map (toItem (Tryz.f37.body.getD .skip))) [(0, .int .i64 id0), (8, .bool t8)] w := by
  exact block_spec Tryz.func37 Tryz.mixed (stops_cons (fun σ w h => by
      obtain ⟨id0_, e0, h⟩ := dI_elim h
      exact (electm_New.B2_sound  id0_ w h).weaken (Sub.cons (Sub.nil _) e0)) stops_nil) (Eq.mp (electm_New.B1_eq id0 t8 w   R (fun id0_ w => electm_New.B2 id0_ w  R)) h)
def electm_New.B0 (id0 : Int) (w : World)   (R : Option Addr → World → Prop) : Prop :=
  Bm (decide (id0 < (0 : Int))) (
    electm_New.B1 id0 true w  R) (
    electm_New.B1 id0 (decide (id0 ≥ (3 : Int))) w  R)
theorem electm_New.B0_eq (id0 : Int) (w : World)   (R : Option Addr → World → Prop) (sB1 : Int → Bool → World → Prop) :
    (
  Bm (decide (id0 < (0 : Int))) (
    sB1 id0 true w) (
    sB1 id0 (decide (id0 ≥ (3 : Int))) w)) = kstep Tryz.prog 12 Tryz.f37.results.toList (Tryz.f37.body.getD .skip) (electm_New.RV R) (kvc Tryz.prog 12 Tryz.f37.results.toList (Tryz.f37.body.getD .skip) (electm_New.RV R) [([(0, [1, 0, 1]), (0, [1, 1])], fun σ w => dI .i64 (slotOf σ 0) fun id0_ => dB (slotOf σ 8) fun t8_ => sB1 id0_ t8_ w)] 2000) [(0, [])] [(0, .int .i64 id0)] w := by kernel_rfl
theorem electm_New.B0_sound {R : Option Addr → World → Prop}  (id0 : Int) (w : World) (h : electm_New.B0 id0 w   R) :
    KW Tryz.prog 37 12 (electm_New.RV R) ([(0, [])].map (toItem (Tryz.f37.body.getD .skip))) [(0, .int .i64 id0)] w := by
  exact block_spec Tryz.func37 Tryz.mixed (stops_cons (fun σ w h => by
      obtain ⟨id0_, e0, h⟩ := dI_elim h
      obtain ⟨t8_, e1, h⟩ := dB_elim h
      exact (electm_New.B1_sound  id0_ t8_ w h).weaken (Sub.cons (Sub.cons (Sub.nil _) e1) e0)) stops_nil) (Eq.mp (electm_New.B0_eq id0 w   R (fun id0_ t8_ w => electm_New.B1 id0_ t8_ w  R)) h)
theorem electm_New.sound (id0 : Int) (w : World) (R : Option Addr → World → Prop) (h : electm_New.B0 id0 w R) : electm_New.Call id0 w R := by
  have hc := calls_of_block (args := #[.int .i64 id0]) Tryz.func37 (body := (Tryz.f37.body.getD .skip)) (by kernel_rfl) (by kernel_rfl) (args_slot _) (electm_New.B0_sound id0 w h)
  exact hc.mono fun e w' he => by
    obtain ⟨v, rfl, hv⟩ := he
    exact electm_New.RV_elim hv
def syncm_open.B0 (lg el : Option Addr) (w : World)   (R : Option Addr → World → Prop) : Prop :=
  New (.cells #[.pointer lg, .pointer el, .int .i64 (0 : Int), .int .i64 (0 : Int), .int .i64 (0 : Int), .int .i64 (0 : Int), .int .i64 (0 : Int), .int .i64 (0 : Int), .int .i64 (0 : Int)] 89) w fun b11 w1 =>
  rlogm_Log_Term.Call lg w1 fun r13 w2 =>
  rlogm_Log_Vote.Call lg w2 fun r15 w3 =>
  electm_Elect_Restore.Call el r13 r15 w3 fun r19 w4 =>
  rlogm_Log_Base.Call lg w4 fun r22 w5 =>
  Sts [.int .i64 r22] ⟨b11, 2, none⟩ 0 w5 fun w6 =>
  R (some ⟨b11, 0, none⟩) w6
theorem syncm_open.B0_eq (lg el : Option Addr) (w : World)   (R : Option Addr → World → Prop)  :
    (
  New (.cells #[.pointer lg, .pointer el, .int .i64 (0 : Int), .int .i64 (0 : Int), .int .i64 (0 : Int), .int .i64 (0 : Int), .int .i64 (0 : Int), .int .i64 (0 : Int), .int .i64 (0 : Int)] 89) w fun b11 w1 =>
  rlogm_Log_Term.Call lg w1 fun r13 w2 =>
  rlogm_Log_Vote.Call lg w2 fun r15 w3 =>
  electm_Elect_Restore.Call el r13 r15 w3 fun r19 w4 =>
  rlogm_Log_Base.Call lg w4 fun r22 w5 =>
  Sts [.int .i64 r22] ⟨b11, 2, none⟩ 0 w5 fun w6 =>
  R (some ⟨b11, 0, none⟩) w6) = kstep Tryz.prog 26 Tryz.f38.results.toList (Tryz.f38.body.getD .skip) (syncm_open.RV R) (kvc Tryz.prog 26 Tryz.f38.results.toList (Tryz.f38.body.getD .skip) (syncm_open.RV R) [] 2000) [(0, [])] [(0, .pointer lg), (1, .pointer el)] w := by kernel_rfl
theorem syncm_open.B0_sound {R : Option Addr → World → Prop}  (lg el : Option Addr) (w : World) (h : syncm_open.B0 lg el w   R) :
    KW Tryz.prog 38 26 (syncm_open.RV R) ([(0, [])].map (toItem (Tryz.f38.body.getD .skip))) [(0, .pointer lg), (1, .pointer el)] w := by
  exact block_spec Tryz.func38 Tryz.mixed stops_nil (Eq.mp (syncm_open.B0_eq lg el w   R ) h)
theorem syncm_open.sound (lg el : Option Addr) (w : World) (R : Option Addr → World → Prop) (h : syncm_open.B0 lg el w R) : syncm_open.Call lg el w R := by
  have hc := calls_of_block (args := #[.pointer lg, .pointer el]) Tryz.func38 (body := (Tryz.f38.body.getD .skip)) (by kernel_rfl) (by kernel_rfl) (args_slot _) (syncm_open.B0_sound lg el w h)
  exact hc.mono fun e w' he => by
    obtain ⟨v, rfl, hv⟩ := he
    exact syncm_open.RV_elim hv
def diskm_Disk_Steps.B0 (d : Option Addr) (w : World)   (R : Int → World → Prop) : Prop :=
  Pn d fun a =>
  LdL (a.add 2) w fun x6_b x6_l x6_c =>
  R ((x6_l : Nat) : Int) w
theorem diskm_Disk_Steps.B0_eq (d : Option Addr) (w : World)   (R : Int → World → Prop)  :
    (
  Pn d fun a =>
  LdL (a.add 2) w fun x6_b x6_l x6_c =>
  R ((x6_l : Nat) : Int) w) = kstep Tryz.prog 8 Tryz.f39.results.toList (Tryz.f39.body.getD .skip) (diskm_Disk_Steps.RV R) (kvc Tryz.prog 8 Tryz.f39.results.toList (Tryz.f39.body.getD .skip) (diskm_Disk_Steps.RV R) [] 2000) [(0, [])] [(0, .pointer d)] w := by kernel_rfl
theorem diskm_Disk_Steps.B0_sound {R : Int → World → Prop}  (d : Option Addr) (w : World) (h : diskm_Disk_Steps.B0 d w   R) :
    KW Tryz.prog 39 8 (diskm_Disk_Steps.RV R) ([(0, [])].map (toItem (Tryz.f39.body.getD .skip))) [(0, .pointer d)] w := by
  exact block_spec Tryz.func39 Tryz.mixed stops_nil (Eq.mp (diskm_Disk_Steps.B0_eq d w   R ) h)
theorem diskm_Disk_Steps.sound (d : Option Addr) (w : World) (R : Int → World → Prop) (h : diskm_Disk_Steps.B0 d w R) : diskm_Disk_Steps.Call d w R := by
  have hc := calls_of_block (args := #[.pointer d]) Tryz.func39 (body := (Tryz.f39.body.getD .skip)) (by kernel_rfl) (by kernel_rfl) (args_slot _) (diskm_Disk_Steps.B0_sound d w h)
  exact hc.mono fun e w' he => by
    obtain ⟨v, rfl, hv⟩ := he
    exact diskm_Disk_Steps.RV_elim hv
def diskm_Disk_After.B2 (d : Option Addr) (k : Int) (n : Nat) (j : Int) (w : World) (N1 : Option Addr → Int → Nat → Int → World → Prop)  (R : Option Addr → World → Prop) : Prop :=
  N1 d k n (IntKind.i64.wrap (j + (1 : Int))) w
theorem diskm_Disk_After.B2_eq (d : Option Addr) (k : Int) (n : Nat) (j : Int) (w : World) (N1 : Option Addr → Int → Nat → Int → World → Prop)  (R : Option Addr → World → Prop)  :
    (
  N1 d k n (IntKind.i64.wrap (j + (1 : Int))) w) = kstep Tryz.prog 86 Tryz.f40.results.toList (Tryz.f40.body.getD .skip) (diskm_Disk_After.RV R) (kvc Tryz.prog 86 Tryz.f40.results.toList (Tryz.f40.body.getD .skip) (diskm_Disk_After.RV R) [([(0, [1, 1, 0, 1, 0, 0]), (2, [1, 1, 0, 1, 0, 0]), (1, [0]), (0, [1, 1, 1])], fun σ w => dP (slotOf σ 0) fun d_ => dI .i64 (slotOf σ 1) fun k_ => dK (slotOf σ 5) fun n_ => dI .i64 (slotOf σ 6) fun j_ => N1 d_ k_ n_ j_ w)] 2000) [(0, [1, 1, 0, 1, 0, 0, 1, 1]), (2, [1, 1, 0, 1, 0, 0]), (1, [0]), (0, [1, 1, 1])] [(0, .pointer d), (1, .int .i64 k), (5, .pointer (some ⟨n, 0, none⟩)), (6, .int .i64 j)] w := by kernel_rfl
theorem diskm_Disk_After.B2_sound {R : Option Addr → World → Prop} {N1 : Option Addr → Int → Nat → Int → World → Prop} (hN1 : ∀ d k n j w, N1 d k n j w → KW Tryz.prog 40 86 (diskm_Disk_After.RV R) ([(0, [1, 1, 0, 1, 0, 0]), (2, [1, 1, 0, 1, 0, 0]), (1, [0]), (0, [1, 1, 1])].map (toItem (Tryz.f40.body.getD .skip))) [(0, .pointer d), (1, .int .i64 k), (5, .pointer (some ⟨n, 0, none⟩)), (6, .int .i64 j)] w) (d : Option Addr) (k : Int) (n : Nat) (j : Int) (w : World) (h : diskm_Disk_After.B2 d k n j w N1  R) :
    KW Tryz.prog 40 86 (diskm_Disk_After.RV R) ([(0, [1, 1, 0, 1, 0, 0, 1, 1]), (2, [1, 1, 0, 1, 0, 0]), (1, [0]), (0, [1, 1, 1])].map (toItem (Tryz.f40.body.getD .skip))) [(0, .pointer d), (1, .int .i64 k), (5, .pointer (some ⟨n, 0, none⟩)), (6, .int .i64 j)] w := by
  exact block_spec Tryz.func40 Tryz.mixed (stops_cons (fun σ w h => by
      obtain ⟨d_, e0, h⟩ := dP_elim h
      obtain ⟨k_, e1, h⟩ := dI_elim h
      obtain ⟨n_, e2, h⟩ := dK_elim h
      obtain ⟨j_, e3, h⟩ := dI_elim h
      exact (hN1 d_ k_ n_ j_ w h).weaken (Sub.cons (Sub.cons (Sub.cons (Sub.cons (Sub.nil _) e3) e2) e1) e0)) stops_nil) (Eq.mp (diskm_Disk_After.B2_eq d k n j w N1  R ) h)
def diskm_Disk_After.B1 (d : Option Addr) (k : Int) (n : Nat) (j : Int) (t26 : Bool) (w : World) (N1 : Option Addr → Int → Nat → Int → World → Prop)  (R : Option Addr → World → Prop) : Prop :=
  Bm t26 (
    Pn d fun a =>
    LdL (a.add 2) w fun x32_b x32_l x32_c =>
    Pn x32_b fun a_1 =>
    (0 ≤ j ∧ j < ((x32_l : Nat) : Int)) ∧
    LdI .i64 (Addr.add a_1 (j.toNat * 3)) w fun x35_0 =>
    LdI .i64 ((Addr.add a_1 (j.toNat * 3)).add 1) w fun x35_1 =>
    LdS ((Addr.add a_1 (j.toNat * 3)).add 2) w fun x35_2 =>
    New (.cells #[.int .i64 (0 : Int), .int .i64 (0 : Int), .string (ByteArray.mk #[])] 151) w fun r_ w1 =>
    Sts [.int .i64 x35_0, .int .i64 x35_1, .string x35_2] ⟨r_, 0, none⟩ 0 w1 fun w2 =>
    LdI .i64 ⟨r_, 1, none⟩ w2 fun x37 =>
    Bm (x37 == (0 : Int)) (
      LdL ⟨n, 0, none⟩ w2.drew fun x42_b x42_l x42_c =>
      LdI .i64 ⟨r_, 0, none⟩ w2.drew fun x44 =>
      LdS ⟨r_, 2, none⟩ w2.drew fun x46 =>
      LdL ⟨n, 0, none⟩ w2.drew fun x50_b x50_l x50_c =>
      LdI .i64 ⟨r_, 0, none⟩ w2.drew fun x52 =>
      Pn x50_b fun a_2 =>
      (0 ≤ x52 ∧ x52 < ((x50_l : Nat) : Int)) ∧
      LdS (Addr.add a_2 (x52.toNat * 1)) w2.drew fun x54 =>
      (0 ≤ (32 : Int) ∧ (32 : Int) ≤ ((x54.size : Nat) : Int)) ∧
      ((x46.size + (x54.extract (32 : Int).toNat ((x54.size : Nat) : Int).toNat).size : Nat) : Int) ≤ 9223372036854775807 ∧
      Pn x42_b fun a_3 =>
      (0 ≤ x44 ∧ x44 < ((x42_l : Nat) : Int)) ∧
      Sts [.string (x46 ++ (x54.extract (32 : Int).toNat ((x54.size : Nat) : Int).toNat))] (Addr.add a_3 (x44.toNat * 1)) 0 w2.drew fun w3 =>
      diskm_Disk_After.B2 d k n j w3 N1 R) (
      LdL ⟨n, 0, none⟩ w2.drew fun x61_b x61_l x61_c =>
      LdI .i64 ⟨r_, 0, none⟩ w2.drew fun x63 =>
      LdL ⟨n, 0, none⟩ w2.drew fun x67_b x67_l x67_c =>
      LdI .i64 ⟨r_, 0, none⟩ w2.drew fun x69 =>
      Pn x67_b fun a_4 =>
      (0 ≤ x69 ∧ x69 < ((x67_l : Nat) : Int)) ∧
      LdS (Addr.add a_4 (x69.toNat * 1)) w2.drew fun x71 =>
      (0 ≤ (32 : Int) ∧ (32 : Int) ≤ ((x71.size : Nat) : Int)) ∧
      LdS ⟨r_, 2, none⟩ w2.drew fun x74 =>
      (((x71.extract ((0 : Nat) : Int).toNat (32 : Int).toNat).size + x74.size : Nat) : Int) ≤ 9223372036854775807 ∧
      Pn x61_b fun a_5 =>
      (0 ≤ x63 ∧ x63 < ((x61_l : Nat) : Int)) ∧
      Sts [.string ((x71.extract ((0 : Nat) : Int).toNat (32 : Int).toNat) ++ x74)] (Addr.add a_5 (x63.toNat * 1)) 0 w2.drew fun w4 =>
      diskm_Disk_After.B2 d k n j w4 N1 R)) (
    LdL ⟨n, 0, none⟩ w fun x81_b x81_l x81_c =>
    diskm_blocks.Call x81_b x81_l x81_c w fun r82_b r82_l r82_c w5 =>
    Sts [.slice r82_b r82_l r82_c] ⟨n, 1, none⟩ 0 w5 fun w6 =>
    R (some ⟨n, 0, none⟩) w6)
theorem diskm_Disk_After.B1_eq (d : Option Addr) (k : Int) (n : Nat) (j : Int) (t26 : Bool) (w : World) (N1 : Option Addr → Int → Nat → Int → World → Prop)  (R : Option Addr → World → Prop) (sB2 : Option Addr → Int → Nat → Int → World → Prop) :
    (
  Bm t26 (
    Pn d fun a =>
    LdL (a.add 2) w fun x32_b x32_l x32_c =>
    Pn x32_b fun a_1 =>
    (0 ≤ j ∧ j < ((x32_l : Nat) : Int)) ∧
    LdI .i64 (Addr.add a_1 (j.toNat * 3)) w fun x35_0 =>
    LdI .i64 ((Addr.add a_1 (j.toNat * 3)).add 1) w fun x35_1 =>
    LdS ((Addr.add a_1 (j.toNat * 3)).add 2) w fun x35_2 =>
    New (.cells #[.int .i64 (0 : Int), .int .i64 (0 : Int), .string (ByteArray.mk #[])] 151) w fun r_ w1 =>
    Sts [.int .i64 x35_0, .int .i64 x35_1, .string x35_2] ⟨r_, 0, none⟩ 0 w1 fun w2 =>
    LdI .i64 ⟨r_, 1, none⟩ w2 fun x37 =>
    Bm (x37 == (0 : Int)) (
      LdL ⟨n, 0, none⟩ w2.drew fun x42_b x42_l x42_c =>
      LdI .i64 ⟨r_, 0, none⟩ w2.drew fun x44 =>
      LdS ⟨r_, 2, none⟩ w2.drew fun x46 =>
      LdL ⟨n, 0, none⟩ w2.drew fun x50_b x50_l x50_c =>
      LdI .i64 ⟨r_, 0, none⟩ w2.drew fun x52 =>
      Pn x50_b fun a_2 =>
      (0 ≤ x52 ∧ x52 < ((x50_l : Nat) : Int)) ∧
      LdS (Addr.add a_2 (x52.toNat * 1)) w2.drew fun x54 =>
      (0 ≤ (32 : Int) ∧ (32 : Int) ≤ ((x54.size : Nat) : Int)) ∧
      ((x46.size + (x54.extract (32 : Int).toNat ((x54.size : Nat) : Int).toNat).size : Nat) : Int) ≤ 9223372036854775807 ∧
      Pn x42_b fun a_3 =>
      (0 ≤ x44 ∧ x44 < ((x42_l : Nat) : Int)) ∧
      Sts [.string (x46 ++ (x54.extract (32 : Int).toNat ((x54.size : Nat) : Int).toNat))] (Addr.add a_3 (x44.toNat * 1)) 0 w2.drew fun w3 =>
      sB2 d k n j w3) (
      LdL ⟨n, 0, none⟩ w2.drew fun x61_b x61_l x61_c =>
      LdI .i64 ⟨r_, 0, none⟩ w2.drew fun x63 =>
      LdL ⟨n, 0, none⟩ w2.drew fun x67_b x67_l x67_c =>
      LdI .i64 ⟨r_, 0, none⟩ w2.drew fun x69 =>
      Pn x67_b fun a_4 =>
      (0 ≤ x69 ∧ x69 < ((x67_l : Nat) : Int)) ∧
      LdS (Addr.add a_4 (x69.toNat * 1)) w2.drew fun x71 =>
      (0 ≤ (32 : Int) ∧ (32 : Int) ≤ ((x71.size : Nat) : Int)) ∧
      LdS ⟨r_, 2, none⟩ w2.drew fun x74 =>
      (((x71.extract ((0 : Nat) : Int).toNat (32 : Int).toNat).size + x74.size : Nat) : Int) ≤ 9223372036854775807 ∧
      Pn x61_b fun a_5 =>
      (0 ≤ x63 ∧ x63 < ((x61_l : Nat) : Int)) ∧
      Sts [.string ((x71.extract ((0 : Nat) : Int).toNat (32 : Int).toNat) ++ x74)] (Addr.add a_5 (x63.toNat * 1)) 0 w2.drew fun w4 =>
      sB2 d k n j w4)) (
    LdL ⟨n, 0, none⟩ w fun x81_b x81_l x81_c =>
    diskm_blocks.Call x81_b x81_l x81_c w fun r82_b r82_l r82_c w5 =>
    Sts [.slice r82_b r82_l r82_c] ⟨n, 1, none⟩ 0 w5 fun w6 =>
    R (some ⟨n, 0, none⟩) w6)) = kstep Tryz.prog 86 Tryz.f40.results.toList (Tryz.f40.body.getD .skip) (diskm_Disk_After.RV R) (kvc Tryz.prog 86 Tryz.f40.results.toList (Tryz.f40.body.getD .skip) (diskm_Disk_After.RV R) [([(0, [1, 1, 0, 1, 0, 0, 1, 1]), (2, [1, 1, 0, 1, 0, 0]), (1, [0]), (0, [1, 1, 1])], fun σ w => dP (slotOf σ 0) fun d_ => dI .i64 (slotOf σ 1) fun k_ => dK (slotOf σ 5) fun n_ => dI .i64 (slotOf σ 6) fun j_ => sB2 d_ k_ n_ j_ w)] 2000) [(0, [1, 1, 0, 1, 0, 0, 0, 1]), (0, [1, 1, 0, 1, 0, 0, 1]), (2, [1, 1, 0, 1, 0, 0]), (1, [0]), (0, [1, 1, 1])] [(0, .pointer d), (1, .int .i64 k), (5, .pointer (some ⟨n, 0, none⟩)), (6, .int .i64 j), (26, .bool t26)] w := by kernel_rfl
theorem diskm_Disk_After.B1_sound {R : Option Addr → World → Prop} {N1 : Option Addr → Int → Nat → Int → World → Prop} (hN1 : ∀ d k n j w, N1 d k n j w → KW Tryz.prog 40 86 (diskm_Disk_After.RV R) ([(0, [1, 1, 0, 1, 0, 0]), (2, [1, 1, 0, 1, 0, 0]), (1, [0]), (0, [1, 1, 1])].map (toItem (Tryz.f40.body.getD .skip))) [(0, .pointer d), (1, .int .i64 k), (5, .pointer (some ⟨n, 0, none⟩)), (6, .int .i64 j)] w) (d : Option Addr) (k : Int) (n : Nat) (j : Int) (t26 : Bool) (w : World) (h : diskm_Disk_After.B1 d k n j t26 w N1  R) :
    KW Tryz.prog 40 86 (diskm_Disk_After.RV R) ([(0, [1, 1, 0, 1, 0, 0, 0, 1]), (0, [1, 1, 0, 1, 0, 0, 1]), (2, [1, 1, 0, 1, 0, 0]), (1, [0]), (0, [1, 1, 1])].map (toItem (Tryz.f40.body.getD .skip))) [(0, .pointer d), (1, .int .i64 k), (5, .pointer (some ⟨n, 0, none⟩)), (6, .int .i64 j), (26, .bool t26)] w := by
  exact block_spec Tryz.func40 Tryz.mixed (stops_cons (fun σ w h => by
      obtain ⟨d_, e0, h⟩ := dP_elim h
      obtain ⟨k_, e1, h⟩ := dI_elim h
      obtain ⟨n_, e2, h⟩ := dK_elim h
      obtain ⟨j_, e3, h⟩ := dI_elim h
      exact (diskm_Disk_After.B2_sound hN1 d_ k_ n_ j_ w h).weaken (Sub.cons (Sub.cons (Sub.cons (Sub.cons (Sub.nil _) e3) e2) e1) e0)) stops_nil) (Eq.mp (diskm_Disk_After.B1_eq d k n j t26 w N1  R (fun d_ k_ n_ j_ w => diskm_Disk_After.B2 d_ k_ n_ j_ w N1 R)) h)
def diskm_Disk_After.L1b (d : Option Addr) (k : Int) (n : Nat) (j : Int) (w : World)  (N1 : Option Addr → Int → Nat → Int → World → Prop) (R : Option Addr → World → Prop) : Prop :=
  Pn d fun a =>
  LdL (a.add 2) w fun x19_b x19_l x19_c =>
  Bm (decide (j < ((x19_l : Nat) : Int))) (
    diskm_Disk_After.B1 d k n j (decide (j < k)) w N1 R) (
    diskm_Disk_After.B1 d k n j false w N1 R)
theorem diskm_Disk_After.L1b_eq (d : Option Addr) (k : Int) (n : Nat) (j : Int) (w : World)  (N1 : Option Addr → Int → Nat → Int → World → Prop) (R : Option Addr → World → Prop) (sB1 : Option Addr → Int → Nat → Int → Bool → World → Prop) :
    (
  Pn d fun a =>
  LdL (a.add 2) w fun x19_b x19_l x19_c =>
  Bm (decide (j < ((x19_l : Nat) : Int))) (
    sB1 d k n j (decide (j < k)) w) (
    sB1 d k n j false w)) = kstep Tryz.prog 86 Tryz.f40.results.toList (Tryz.f40.body.getD .skip) (diskm_Disk_After.RV R) (kvc Tryz.prog 86 Tryz.f40.results.toList (Tryz.f40.body.getD .skip) (diskm_Disk_After.RV R) [([(0, [1, 1, 0, 1, 0, 0, 0, 1]), (0, [1, 1, 0, 1, 0, 0, 1]), (2, [1, 1, 0, 1, 0, 0]), (1, [0]), (0, [1, 1, 1])], fun σ w => dP (slotOf σ 0) fun d_ => dI .i64 (slotOf σ 1) fun k_ => dK (slotOf σ 5) fun n_ => dI .i64 (slotOf σ 6) fun j_ => dB (slotOf σ 26) fun t26_ => sB1 d_ k_ n_ j_ t26_ w)] 2000) [(0, [1, 1, 0, 1, 0, 0]), (2, [1, 1, 0, 1, 0, 0]), (1, [0]), (0, [1, 1, 1])] [(0, .pointer d), (1, .int .i64 k), (5, .pointer (some ⟨n, 0, none⟩)), (6, .int .i64 j)] w := by kernel_rfl
theorem diskm_Disk_After.L1b_sound {R : Option Addr → World → Prop} {N1 : Option Addr → Int → Nat → Int → World → Prop} (hN1 : ∀ d k n j w, N1 d k n j w → KW Tryz.prog 40 86 (diskm_Disk_After.RV R) ([(0, [1, 1, 0, 1, 0, 0]), (2, [1, 1, 0, 1, 0, 0]), (1, [0]), (0, [1, 1, 1])].map (toItem (Tryz.f40.body.getD .skip))) [(0, .pointer d), (1, .int .i64 k), (5, .pointer (some ⟨n, 0, none⟩)), (6, .int .i64 j)] w) (d : Option Addr) (k : Int) (n : Nat) (j : Int) (w : World) (h : diskm_Disk_After.L1b d k n j w  N1 R) :
    KW Tryz.prog 40 86 (diskm_Disk_After.RV R) ([(0, [1, 1, 0, 1, 0, 0]), (2, [1, 1, 0, 1, 0, 0]), (1, [0]), (0, [1, 1, 1])].map (toItem (Tryz.f40.body.getD .skip))) [(0, .pointer d), (1, .int .i64 k), (5, .pointer (some ⟨n, 0, none⟩)), (6, .int .i64 j)] w := by
  exact block_spec Tryz.func40 Tryz.mixed (stops_cons (fun σ w h => by
      obtain ⟨d_, e0, h⟩ := dP_elim h
      obtain ⟨k_, e1, h⟩ := dI_elim h
      obtain ⟨n_, e2, h⟩ := dK_elim h
      obtain ⟨j_, e3, h⟩ := dI_elim h
      obtain ⟨t26_, e4, h⟩ := dB_elim h
      exact (diskm_Disk_After.B1_sound hN1 d_ k_ n_ j_ t26_ w h).weaken (Sub.cons (Sub.cons (Sub.cons (Sub.cons (Sub.cons (Sub.nil _) e4) e3) e2) e1) e0)) stops_nil) (Eq.mp (diskm_Disk_After.L1b_eq d k n j w  N1 R (fun d_ k_ n_ j_ t26_ w => diskm_Disk_After.B1 d_ k_ n_ j_ t26_ w N1 R)) h)
def diskm_Disk_After.L1 (d : Option Addr) (k : Int) (n : Nat) (j : Int) (w : World)  (R : Option Addr → World → Prop) : Prop :=
  ∃ (I : Nat → Option Addr → Int → Nat → Int → World → Prop) (m : Nat), I m d k n j w ∧ ∀ m d k n j w, I m d k n j w → diskm_Disk_After.L1b d k n j w  (fun d' k' n' j' w' => ∃ m', m' < m ∧ I m' d' k' n' j' w') R
theorem diskm_Disk_After.L1_sound {R : Option Addr → World → Prop}  (d : Option Addr) (k : Int) (n : Nat) (j : Int) (w : World) (h : diskm_Disk_After.L1 d k n j w  R) :
    KW Tryz.prog 40 86 (diskm_Disk_After.RV R) ([(0, [1, 1, 0, 1, 0, 0]), (2, [1, 1, 0, 1, 0, 0]), (1, [0]), (0, [1, 1, 1])].map (toItem (Tryz.f40.body.getD .skip))) [(0, .pointer d), (1, .int .i64 k), (5, .pointer (some ⟨n, 0, none⟩)), (6, .int .i64 j)] w := by
  obtain ⟨I, m, hBase, hr⟩ := h
  refine KW.loop (fun m σ w => ∃ (d : Option Addr) (k : Int) (n : Nat) (j : Int), σ = [(0, .pointer d), (1, .int .i64 k), (5, .pointer (some ⟨n, 0, none⟩)), (6, .int .i64 j)] ∧ I m d k n j w) ?_ m _ w ⟨d, k, n, j, rfl, hBase⟩
  rintro m ih σ w ⟨d, k, n, j, rfl, hI⟩
  exact diskm_Disk_After.L1b_sound  (N1 := fun d' k' n' j' w' => ∃ m', m' < m ∧ I m' d' k' n' j' w') (fun d' k' n' j' w' hx => by obtain ⟨m', hlt, hI'⟩ := hx; exact ih m' hlt _ w' ⟨d', k', n', j', rfl, hI'⟩) d k n j w (hr m d k n j w hI)
def diskm_Disk_After.B0 (d : Option Addr) (k : Int) (w : World)   (R : Option Addr → World → Prop) : Prop :=
  Pn d fun a =>
  LdL (a.add 1) w fun x11_b x11_l x11_c =>
  diskm_blocks.Call x11_b x11_l x11_c w fun r12_b r12_l r12_c w1 =>
  New (.cells #[.slice r12_b r12_l r12_c, .slice none 0 0, .slice none 0 0] 111) w1 fun b14 w2 =>
  diskm_Disk_After.L1 d k b14 (0 : Int) w2  R
theorem diskm_Disk_After.B0_eq (d : Option Addr) (k : Int) (w : World)   (R : Option Addr → World → Prop) (sL1 : Option Addr → Int → Nat → Int → World → Prop) :
    (
  Pn d fun a =>
  LdL (a.add 1) w fun x11_b x11_l x11_c =>
  diskm_blocks.Call x11_b x11_l x11_c w fun r12_b r12_l r12_c w1 =>
  New (.cells #[.slice r12_b r12_l r12_c, .slice none 0 0, .slice none 0 0] 111) w1 fun b14 w2 =>
  sL1 d k b14 (0 : Int) w2) = kstep Tryz.prog 86 Tryz.f40.results.toList (Tryz.f40.body.getD .skip) (diskm_Disk_After.RV R) (kvc Tryz.prog 86 Tryz.f40.results.toList (Tryz.f40.body.getD .skip) (diskm_Disk_After.RV R) [([(0, [1, 1, 0, 1, 0, 0]), (2, [1, 1, 0, 1, 0, 0]), (1, [0]), (0, [1, 1, 1])], fun σ w => dP (slotOf σ 0) fun d_ => dI .i64 (slotOf σ 1) fun k_ => dK (slotOf σ 5) fun n_ => dI .i64 (slotOf σ 6) fun j_ => sL1 d_ k_ n_ j_ w)] 2000) [(0, [])] [(0, .pointer d), (1, .int .i64 k)] w := by kernel_rfl
theorem diskm_Disk_After.B0_sound {R : Option Addr → World → Prop}  (d : Option Addr) (k : Int) (w : World) (h : diskm_Disk_After.B0 d k w   R) :
    KW Tryz.prog 40 86 (diskm_Disk_After.RV R) ([(0, [])].map (toItem (Tryz.f40.body.getD .skip))) [(0, .pointer d), (1, .int .i64 k)] w := by
  exact block_spec Tryz.func40 Tryz.mixed (stops_cons (fun σ w h => by
      obtain ⟨d_, e0, h⟩ := dP_elim h
      obtain ⟨k_, e1, h⟩ := dI_elim h
      obtain ⟨n_, e2, h⟩ := dK_elim h
      obtain ⟨j_, e3, h⟩ := dI_elim h
      exact (diskm_Disk_After.L1_sound  d_ k_ n_ j_ w h).weaken (Sub.cons (Sub.cons (Sub.cons (Sub.cons (Sub.nil _) e3) e2) e1) e0)) stops_nil) (Eq.mp (diskm_Disk_After.B0_eq d k w   R (fun d_ k_ n_ j_ w => diskm_Disk_After.L1 d_ k_ n_ j_ w  R)) h)
theorem diskm_Disk_After.sound (d : Option Addr) (k : Int) (w : World) (R : Option Addr → World → Prop) (h : diskm_Disk_After.B0 d k w R) : diskm_Disk_After.Call d k w R := by
  have hc := calls_of_block (args := #[.pointer d, .int .i64 k]) Tryz.func40 (body := (Tryz.f40.body.getD .skip)) (by kernel_rfl) (by kernel_rfl) (args_slot _) (diskm_Disk_After.B0_sound d k w h)
  exact hc.mono fun e w' he => by
    obtain ⟨v, rfl, hv⟩ := he
    exact diskm_Disk_After.RV_elim hv
def diskm_Disk_Mark.B0 (d : Option Addr) (w : World)   (R : World → Prop) : Prop :=
  Pn d fun a =>
  LdL a w fun x6_b x6_l x6_c =>
  diskm_blocks.Call x6_b x6_l x6_c w fun r7_b r7_l r7_c w1 =>
  Pn d fun a_1 =>
  Sts [.slice r7_b r7_l r7_c] (a_1.add 1) 0 w1 fun w2 =>
  Pn d fun a_2 =>
  Sts [.slice none 0 0] (a_2.add 2) 0 w2 fun w3 =>
  R  w3
theorem diskm_Disk_Mark.B0_eq (d : Option Addr) (w : World)   (R : World → Prop)  :
    (
  Pn d fun a =>
  LdL a w fun x6_b x6_l x6_c =>
  diskm_blocks.Call x6_b x6_l x6_c w fun r7_b r7_l r7_c w1 =>
  Pn d fun a_1 =>
  Sts [.slice r7_b r7_l r7_c] (a_1.add 1) 0 w1 fun w2 =>
  Pn d fun a_2 =>
  Sts [.slice none 0 0] (a_2.add 2) 0 w2 fun w3 =>
  R  w3) = kstep Tryz.prog 13 Tryz.f41.results.toList (Tryz.f41.body.getD .skip) (diskm_Disk_Mark.RV R) (kvc Tryz.prog 13 Tryz.f41.results.toList (Tryz.f41.body.getD .skip) (diskm_Disk_Mark.RV R) [] 2000) [(0, [])] [(0, .pointer d)] w := by kernel_rfl
theorem diskm_Disk_Mark.B0_sound {R : World → Prop}  (d : Option Addr) (w : World) (h : diskm_Disk_Mark.B0 d w   R) :
    KW Tryz.prog 41 13 (diskm_Disk_Mark.RV R) ([(0, [])].map (toItem (Tryz.f41.body.getD .skip))) [(0, .pointer d)] w := by
  exact block_spec Tryz.func41 Tryz.mixed stops_nil (Eq.mp (diskm_Disk_Mark.B0_eq d w   R ) h)
theorem diskm_Disk_Mark.sound (d : Option Addr) (w : World) (R : World → Prop) (h : diskm_Disk_Mark.B0 d w R) : diskm_Disk_Mark.Call d w R := by
  have hc := calls_of_block (args := #[.pointer d]) Tryz.func41 (body := (Tryz.f41.body.getD .skip)) (by kernel_rfl) (by kernel_rfl) (args_slot _) (diskm_Disk_Mark.B0_sound d w h)
  exact hc.mono fun e w' he => by
    obtain ⟨v, rfl, hv⟩ := he
    exact diskm_Disk_Mark.RV_elim hv
def rlog_Log_Term.B0 (l : Option Addr) (w : World)   (R : Int → World → Prop) : Prop :=
  Pn l fun a =>
  LdI .i64 (a.add 1) w fun x6 =>
  R x6 w
theorem rlog_Log_Term.B0_eq (l : Option Addr) (w : World)   (R : Int → World → Prop)  :
    (
  Pn l fun a =>
  LdI .i64 (a.add 1) w fun x6 =>
  R x6 w) = kstep Tryz.prog 7 Tryz.f42.results.toList (Tryz.f42.body.getD .skip) (rlog_Log_Term.RV R) (kvc Tryz.prog 7 Tryz.f42.results.toList (Tryz.f42.body.getD .skip) (rlog_Log_Term.RV R) [] 2000) [(0, [])] [(0, .pointer l)] w := by kernel_rfl
theorem rlog_Log_Term.B0_sound {R : Int → World → Prop}  (l : Option Addr) (w : World) (h : rlog_Log_Term.B0 l w   R) :
    KW Tryz.prog 42 7 (rlog_Log_Term.RV R) ([(0, [])].map (toItem (Tryz.f42.body.getD .skip))) [(0, .pointer l)] w := by
  exact block_spec Tryz.func42 Tryz.mixed stops_nil (Eq.mp (rlog_Log_Term.B0_eq l w   R ) h)
theorem rlog_Log_Term.sound (l : Option Addr) (w : World) (R : Int → World → Prop) (h : rlog_Log_Term.B0 l w R) : rlog_Log_Term.Call l w R := by
  have hc := calls_of_block (args := #[.pointer l]) Tryz.func42 (body := (Tryz.f42.body.getD .skip)) (by kernel_rfl) (by kernel_rfl) (args_slot _) (rlog_Log_Term.B0_sound l w h)
  exact hc.mono fun e w' he => by
    obtain ⟨v, rfl, hv⟩ := he
    exact rlog_Log_Term.RV_elim hv
def rlog_Log_Vote.B0 (l : Option Addr) (w : World)   (R : Int → World → Prop) : Prop :=
  Pn l fun a =>
  LdI .i64 (a.add 2) w fun x6 =>
  R x6 w
theorem rlog_Log_Vote.B0_eq (l : Option Addr) (w : World)   (R : Int → World → Prop)  :
    (
  Pn l fun a =>
  LdI .i64 (a.add 2) w fun x6 =>
  R x6 w) = kstep Tryz.prog 7 Tryz.f43.results.toList (Tryz.f43.body.getD .skip) (rlog_Log_Vote.RV R) (kvc Tryz.prog 7 Tryz.f43.results.toList (Tryz.f43.body.getD .skip) (rlog_Log_Vote.RV R) [] 2000) [(0, [])] [(0, .pointer l)] w := by kernel_rfl
theorem rlog_Log_Vote.B0_sound {R : Int → World → Prop}  (l : Option Addr) (w : World) (h : rlog_Log_Vote.B0 l w   R) :
    KW Tryz.prog 43 7 (rlog_Log_Vote.RV R) ([(0, [])].map (toItem (Tryz.f43.body.getD .skip))) [(0, .pointer l)] w := by
  exact block_spec Tryz.func43 Tryz.mixed stops_nil (Eq.mp (rlog_Log_Vote.B0_eq l w   R ) h)
theorem rlog_Log_Vote.sound (l : Option Addr) (w : World) (R : Int → World → Prop) (h : rlog_Log_Vote.B0 l w R) : rlog_Log_Vote.Call l w R := by
  have hc := calls_of_block (args := #[.pointer l]) Tryz.func43 (body := (Tryz.f43.body.getD .skip)) (by kernel_rfl) (by kernel_rfl) (args_slot _) (rlog_Log_Vote.B0_sound l w h)
  exact hc.mono fun e w' he => by
    obtain ⟨v, rfl, hv⟩ := he
    exact rlog_Log_Vote.RV_elim hv
def elect_Elect_Restore.B1 (e : Option Addr) (term vote : Int) (t20 : Bool) (w : World)   (R : Int → World → Prop) : Prop :=
  Bm t20 (
    R (1 : Int) w) (
    Pn e fun a =>
    Sts [.int .i64 term] (a.add 1) 0 w fun w1 =>
    Pn e fun a_1 =>
    Sts [.int .i64 (0 : Int)] (a_1.add 3) 0 w1 fun w2 =>
    elect_Elect_put.Call e (0 : Int) vote (-1 : Int) w2 fun w3 =>
    elect_Elect_wind.Call e w3 fun w4 =>
    R (0 : Int) w4)
theorem elect_Elect_Restore.B1_eq (e : Option Addr) (term vote : Int) (t20 : Bool) (w : World)   (R : Int → World → Prop)  :
    (
  Bm t20 (
    R (1 : Int) w) (
    Pn e fun a =>
    Sts [.int .i64 term] (a.add 1) 0 w fun w1 =>
    Pn e fun a_1 =>
    Sts [.int .i64 (0 : Int)] (a_1.add 3) 0 w1 fun w2 =>
    elect_Elect_put.Call e (0 : Int) vote (-1 : Int) w2 fun w3 =>
    elect_Elect_wind.Call e w3 fun w4 =>
    R (0 : Int) w4)) = kstep Tryz.prog 33 Tryz.f44.results.toList (Tryz.f44.body.getD .skip) (elect_Elect_Restore.RV R) (kvc Tryz.prog 33 Tryz.f44.results.toList (Tryz.f44.body.getD .skip) (elect_Elect_Restore.RV R) [] 2000) [(0, [1, 0, 1]), (0, [1, 1])] [(0, .pointer e), (1, .int .i64 term), (2, .int .i64 vote), (20, .bool t20)] w := by kernel_rfl
theorem elect_Elect_Restore.B1_sound {R : Int → World → Prop}  (e : Option Addr) (term vote : Int) (t20 : Bool) (w : World) (h : elect_Elect_Restore.B1 e term vote t20 w   R) :
    KW Tryz.prog 44 33 (elect_Elect_Restore.RV R) ([(0, [1, 0, 1]), (0, [1, 1])].map (toItem (Tryz.f44.body.getD .skip))) [(0, .pointer e), (1, .int .i64 term), (2, .int .i64 vote), (20, .bool t20)] w := by
  exact block_spec Tryz.func44 Tryz.mixed stops_nil (Eq.mp (elect_Elect_Restore.B1_eq e term vote t20 w   R ) h)
def elect_Elect_Restore.B0 (e : Option Addr) (term vote : Int) (w : World)   (R : Int → World → Prop) : Prop :=
  Bm (decide (term < (0 : Int))) (
    elect_Elect_Restore.B1 e term vote true w  R) (
    Bm (decide (term > (72057594037927936 : Int))) (
      elect_Elect_Restore.B1 e term vote true w  R) (
      Bm (decide (vote < (-1 : Int))) (
        elect_Elect_Restore.B1 e term vote true w  R) (
        elect_Elect_Restore.B1 e term vote (decide (vote ≥ (3 : Int))) w  R)))
theorem elect_Elect_Restore.B0_eq (e : Option Addr) (term vote : Int) (w : World)   (R : Int → World → Prop) (sB1 : Option Addr → Int → Int → Bool → World → Prop) :
    (
  Bm (decide (term < (0 : Int))) (
    sB1 e term vote true w) (
    Bm (decide (term > (72057594037927936 : Int))) (
      sB1 e term vote true w) (
      Bm (decide (vote < (-1 : Int))) (
        sB1 e term vote true w) (
        sB1 e term vote (decide (vote ≥ (3 : Int))) w)))) = kstep Tryz.prog 33 Tryz.f44.results.toList (Tryz.f44.body.getD .skip) (elect_Elect_Restore.RV R) (kvc Tryz.prog 33 Tryz.f44.results.toList (Tryz.f44.body.getD .skip) (elect_Elect_Restore.RV R) [([(0, [1, 0, 1]), (0, [1, 1])], fun σ w => dP (slotOf σ 0) fun e_ => dI .i64 (slotOf σ 1) fun term_ => dI .i64 (slotOf σ 2) fun vote_ => dB (slotOf σ 20) fun t20_ => sB1 e_ term_ vote_ t20_ w)] 2000) [(0, [])] [(0, .pointer e), (1, .int .i64 term), (2, .int .i64 vote)] w := by kernel_rfl
theorem elect_Elect_Restore.B0_sound {R : Int → World → Prop}  (e : Option Addr) (term vote : Int) (w : World) (h : elect_Elect_Restore.B0 e term vote w   R) :
    KW Tryz.prog 44 33 (elect_Elect_Restore.RV R) ([(0, [])].map (toItem (Tryz.f44.body.getD .skip))) [(0, .pointer e), (1, .int .i64 term), (2, .int .i64 vote)] w := by
  exact block_spec Tryz.func44 Tryz.mixed (stops_cons (fun σ w h => by
      obtain ⟨e_, e0, h⟩ := dP_elim h
      obtain ⟨term_, e1, h⟩ := dI_elim h
      obtain ⟨vote_, e2, h⟩ := dI_elim h
      obtain ⟨t20_, e3, h⟩ := dB_elim h
      exact (elect_Elect_Restore.B1_sound  e_ term_ vote_ t20_ w h).weaken (Sub.cons (Sub.cons (Sub.cons (Sub.cons (Sub.nil _) e3) e2) e1) e0)) stops_nil) (Eq.mp (elect_Elect_Restore.B0_eq e term vote w   R (fun e_ term_ vote_ t20_ w => elect_Elect_Restore.B1 e_ term_ vote_ t20_ w  R)) h)
theorem elect_Elect_Restore.sound (e : Option Addr) (term vote : Int) (w : World) (R : Int → World → Prop) (h : elect_Elect_Restore.B0 e term vote w R) : elect_Elect_Restore.Call e term vote w R := by
  have hc := calls_of_block (args := #[.pointer e, .int .i64 term, .int .i64 vote]) Tryz.func44 (body := (Tryz.f44.body.getD .skip)) (by kernel_rfl) (by kernel_rfl) (args_slot _) (elect_Elect_Restore.B0_sound e term vote w h)
  exact hc.mono fun e w' he => by
    obtain ⟨v, rfl, hv⟩ := he
    exact elect_Elect_Restore.RV_elim hv
def rlog_Log_Base.B0 (l : Option Addr) (w : World)   (R : Int → World → Prop) : Prop :=
  Pn l fun a =>
  LdI .i64 (a.add 3) w fun x6 =>
  R x6 w
theorem rlog_Log_Base.B0_eq (l : Option Addr) (w : World)   (R : Int → World → Prop)  :
    (
  Pn l fun a =>
  LdI .i64 (a.add 3) w fun x6 =>
  R x6 w) = kstep Tryz.prog 7 Tryz.f45.results.toList (Tryz.f45.body.getD .skip) (rlog_Log_Base.RV R) (kvc Tryz.prog 7 Tryz.f45.results.toList (Tryz.f45.body.getD .skip) (rlog_Log_Base.RV R) [] 2000) [(0, [])] [(0, .pointer l)] w := by kernel_rfl
theorem rlog_Log_Base.B0_sound {R : Int → World → Prop}  (l : Option Addr) (w : World) (h : rlog_Log_Base.B0 l w   R) :
    KW Tryz.prog 45 7 (rlog_Log_Base.RV R) ([(0, [])].map (toItem (Tryz.f45.body.getD .skip))) [(0, .pointer l)] w := by
  exact block_spec Tryz.func45 Tryz.mixed stops_nil (Eq.mp (rlog_Log_Base.B0_eq l w   R ) h)
theorem rlog_Log_Base.sound (l : Option Addr) (w : World) (R : Int → World → Prop) (h : rlog_Log_Base.B0 l w R) : rlog_Log_Base.Call l w R := by
  have hc := calls_of_block (args := #[.pointer l]) Tryz.func45 (body := (Tryz.f45.body.getD .skip)) (by kernel_rfl) (by kernel_rfl) (args_slot _) (rlog_Log_Base.B0_sound l w h)
  exact hc.mono fun e w' he => by
    obtain ⟨v, rfl, hv⟩ := he
    exact rlog_Log_Base.RV_elim hv
def sync_Sync_refresh.B0 (s : Option Addr) (w : World)   (R : World → Prop) : Prop :=
  Pn s fun a =>
  LdP a w fun x8 =>
  rlog_Log_Last.Call x8 w fun r9 w1 =>
  Pn s fun a_1 =>
  Sts [.int .i64 r9] (a_1.add 9) 0 w1 fun w2 =>
  Pn s fun a_2 =>
  LdP a_2 w2.drew fun x16 =>
  Pn s fun a_3 =>
  LdI .i64 (a_3.add 9) w2.drew fun x20 =>
  rlog_Log_TermAt.Call x16 x20 w2.drew fun r21_0 r21_1 w3 =>
  Pn s fun a_4 =>
  Sts [.int .i64 r21_0] (a_4.add 10) 0 w3 fun w4 =>
  R  w4
theorem sync_Sync_refresh.B0_eq (s : Option Addr) (w : World)   (R : World → Prop)  :
    (
  Pn s fun a =>
  LdP a w fun x8 =>
  rlog_Log_Last.Call x8 w fun r9 w1 =>
  Pn s fun a_1 =>
  Sts [.int .i64 r9] (a_1.add 9) 0 w1 fun w2 =>
  Pn s fun a_2 =>
  LdP a_2 w2.drew fun x16 =>
  Pn s fun a_3 =>
  LdI .i64 (a_3.add 9) w2.drew fun x20 =>
  rlog_Log_TermAt.Call x16 x20 w2.drew fun r21_0 r21_1 w3 =>
  Pn s fun a_4 =>
  Sts [.int .i64 r21_0] (a_4.add 10) 0 w3 fun w4 =>
  R  w4) = kstep Tryz.prog 28 Tryz.f46.results.toList (Tryz.f46.body.getD .skip) (sync_Sync_refresh.RV R) (kvc Tryz.prog 28 Tryz.f46.results.toList (Tryz.f46.body.getD .skip) (sync_Sync_refresh.RV R) [] 2000) [(0, [])] [(0, .pointer s)] w := by kernel_rfl
theorem sync_Sync_refresh.B0_sound {R : World → Prop}  (s : Option Addr) (w : World) (h : sync_Sync_refresh.B0 s w   R) :
    KW Tryz.prog 46 28 (sync_Sync_refresh.RV R) ([(0, [])].map (toItem (Tryz.f46.body.getD .skip))) [(0, .pointer s)] w := by
  exact block_spec Tryz.func46 Tryz.mixed stops_nil (Eq.mp (sync_Sync_refresh.B0_eq s w   R ) h)
theorem sync_Sync_refresh.sound (s : Option Addr) (w : World) (R : World → Prop) (h : sync_Sync_refresh.B0 s w R) : sync_Sync_refresh.Call s w R := by
  have hc := calls_of_block (args := #[.pointer s]) Tryz.func46 (body := (Tryz.f46.body.getD .skip)) (by kernel_rfl) (by kernel_rfl) (args_slot _) (sync_Sync_refresh.B0_sound s w h)
  exact hc.mono fun e w' he => by
    obtain ⟨v, rfl, hv⟩ := he
    exact sync_Sync_refresh.RV_elim hv
def rlog_Log_Last.B0 (l : Option Addr) (w : World)   (R : Int → World → Prop) : Prop :=
  Pn l fun a =>
  LdI .i64 (a.add 6) w fun x6 =>
  R x6 w
theorem rlog_Log_Last.B0_eq (l : Option Addr) (w : World)   (R : Int → World → Prop)  :
    (
  Pn l fun a =>
  LdI .i64 (a.add 6) w fun x6 =>
  R x6 w) = kstep Tryz.prog 7 Tryz.f47.results.toList (Tryz.f47.body.getD .skip) (rlog_Log_Last.RV R) (kvc Tryz.prog 7 Tryz.f47.results.toList (Tryz.f47.body.getD .skip) (rlog_Log_Last.RV R) [] 2000) [(0, [])] [(0, .pointer l)] w := by kernel_rfl
theorem rlog_Log_Last.B0_sound {R : Int → World → Prop}  (l : Option Addr) (w : World) (h : rlog_Log_Last.B0 l w   R) :
    KW Tryz.prog 47 7 (rlog_Log_Last.RV R) ([(0, [])].map (toItem (Tryz.f47.body.getD .skip))) [(0, .pointer l)] w := by
  exact block_spec Tryz.func47 Tryz.mixed stops_nil (Eq.mp (rlog_Log_Last.B0_eq l w   R ) h)
theorem rlog_Log_Last.sound (l : Option Addr) (w : World) (R : Int → World → Prop) (h : rlog_Log_Last.B0 l w R) : rlog_Log_Last.Call l w R := by
  have hc := calls_of_block (args := #[.pointer l]) Tryz.func47 (body := (Tryz.f47.body.getD .skip)) (by kernel_rfl) (by kernel_rfl) (args_slot _) (rlog_Log_Last.B0_sound l w h)
  exact hc.mono fun e w' he => by
    obtain ⟨v, rfl, hv⟩ := he
    exact rlog_Log_Last.RV_elim hv
def rlog_Log_TermAt.B0 (l : Option Addr) (i : Int) (w : World)   (R : Int → Int → World → Prop) : Prop :=
  Pn l fun a =>
  LdI .i64 (a.add 3) w fun x12 =>
  Bm (i == x12) (
    Pn l fun a_1 =>
    LdI .i64 (a_1.add 4) w fun x17 =>
    R x17 (0 : Int) w) (
    rlog_Log_At.Call l i w fun r21_0_0 r21_0_1 r21_1 w1 =>
    New (.cells #[.int .i64 (0 : Int), .string (ByteArray.mk #[])] 103) w1 fun e_ w2 =>
    Sts [.int .i64 r21_0_0, .string r21_0_1] ⟨e_, 0, none⟩ 0 w2 fun w3 =>
    LdI .i64 ⟨e_, 0, none⟩ w3 fun x25 =>
    R x25 r21_1 w3)
theorem rlog_Log_TermAt.B0_eq (l : Option Addr) (i : Int) (w : World)   (R : Int → Int → World → Prop)  :
    (
  Pn l fun a =>
  LdI .i64 (a.add 3) w fun x12 =>
  Bm (i == x12) (
    Pn l fun a_1 =>
    LdI .i64 (a_1.add 4) w fun x17 =>
    R x17 (0 : Int) w) (
    rlog_Log_At.Call l i w fun r21_0_0 r21_0_1 r21_1 w1 =>
    New (.cells #[.int .i64 (0 : Int), .string (ByteArray.mk #[])] 103) w1 fun e_ w2 =>
    Sts [.int .i64 r21_0_0, .string r21_0_1] ⟨e_, 0, none⟩ 0 w2 fun w3 =>
    LdI .i64 ⟨e_, 0, none⟩ w3 fun x25 =>
    R x25 r21_1 w3)) = kstep Tryz.prog 27 Tryz.f48.results.toList (Tryz.f48.body.getD .skip) (rlog_Log_TermAt.RV R) (kvc Tryz.prog 27 Tryz.f48.results.toList (Tryz.f48.body.getD .skip) (rlog_Log_TermAt.RV R) [] 2000) [(0, [])] [(0, .pointer l), (1, .int .i64 i)] w := by kernel_rfl
theorem rlog_Log_TermAt.B0_sound {R : Int → Int → World → Prop}  (l : Option Addr) (i : Int) (w : World) (h : rlog_Log_TermAt.B0 l i w   R) :
    KW Tryz.prog 48 27 (rlog_Log_TermAt.RV R) ([(0, [])].map (toItem (Tryz.f48.body.getD .skip))) [(0, .pointer l), (1, .int .i64 i)] w := by
  exact block_spec Tryz.func48 Tryz.mixed stops_nil (Eq.mp (rlog_Log_TermAt.B0_eq l i w   R ) h)
theorem rlog_Log_TermAt.sound (l : Option Addr) (i : Int) (w : World) (R : Int → Int → World → Prop) (h : rlog_Log_TermAt.B0 l i w R) : rlog_Log_TermAt.Call l i w R := by
  have hc := calls_of_block (args := #[.pointer l, .int .i64 i]) Tryz.func48 (body := (Tryz.f48.body.getD .skip)) (by kernel_rfl) (by kernel_rfl) (args_slot _) (rlog_Log_TermAt.B0_sound l i w h)
  exact hc.mono fun e w' he => by
    obtain ⟨v, rfl, hv⟩ := he
    exact rlog_Log_TermAt.RV_elim hv
def elect_Elect_Term.B0 (e : Option Addr) (w : World)   (R : Int → World → Prop) : Prop :=
  Pn e fun a =>
  LdI .i64 (a.add 1) w fun x6 =>
  R x6 w
theorem elect_Elect_Term.B0_eq (e : Option Addr) (w : World)   (R : Int → World → Prop)  :
    (
  Pn e fun a =>
  LdI .i64 (a.add 1) w fun x6 =>
  R x6 w) = kstep Tryz.prog 7 Tryz.f49.results.toList (Tryz.f49.body.getD .skip) (elect_Elect_Term.RV R) (kvc Tryz.prog 7 Tryz.f49.results.toList (Tryz.f49.body.getD .skip) (elect_Elect_Term.RV R) [] 2000) [(0, [])] [(0, .pointer e)] w := by kernel_rfl
theorem elect_Elect_Term.B0_sound {R : Int → World → Prop}  (e : Option Addr) (w : World) (h : elect_Elect_Term.B0 e w   R) :
    KW Tryz.prog 49 7 (elect_Elect_Term.RV R) ([(0, [])].map (toItem (Tryz.f49.body.getD .skip))) [(0, .pointer e)] w := by
  exact block_spec Tryz.func49 Tryz.mixed stops_nil (Eq.mp (elect_Elect_Term.B0_eq e w   R ) h)
theorem elect_Elect_Term.sound (e : Option Addr) (w : World) (R : Int → World → Prop) (h : elect_Elect_Term.B0 e w R) : elect_Elect_Term.Call e w R := by
  have hc := calls_of_block (args := #[.pointer e]) Tryz.func49 (body := (Tryz.f49.body.getD .skip)) (by kernel_rfl) (by kernel_rfl) (args_slot _) (elect_Elect_Term.B0_sound e w h)
  exact hc.mono fun e w' he => by
    obtain ⟨v, rfl, hv⟩ := he
    exact elect_Elect_Term.RV_elim hv
def elect_Elect_Vote.B0 (e : Option Addr) (w : World)   (R : Int → World → Prop) : Prop :=
  Pn e fun a =>
  LdI .i64 (a.add 2) w fun x6 =>
  0 ≤ (2 : Int) ∧
  R (IntKind.i64.wrap ((IntKind.i64.wrap (BitVec.ofInt IntKind.i64.bits (x6.fdiv (2 ^ (min (2 : Int).toNat IntKind.i64.bits))) &&& BitVec.ofInt IntKind.i64.bits (3 : Int)).toNat) - (1 : Int))) w
theorem elect_Elect_Vote.B0_eq (e : Option Addr) (w : World)   (R : Int → World → Prop)  :
    (
  Pn e fun a =>
  LdI .i64 (a.add 2) w fun x6 =>
  0 ≤ (2 : Int) ∧
  R (IntKind.i64.wrap ((IntKind.i64.wrap (BitVec.ofInt IntKind.i64.bits (x6.fdiv (2 ^ (min (2 : Int).toNat IntKind.i64.bits))) &&& BitVec.ofInt IntKind.i64.bits (3 : Int)).toNat) - (1 : Int))) w) = kstep Tryz.prog 10 Tryz.f50.results.toList (Tryz.f50.body.getD .skip) (elect_Elect_Vote.RV R) (kvc Tryz.prog 10 Tryz.f50.results.toList (Tryz.f50.body.getD .skip) (elect_Elect_Vote.RV R) [] 2000) [(0, [])] [(0, .pointer e)] w := by kernel_rfl
theorem elect_Elect_Vote.B0_sound {R : Int → World → Prop}  (e : Option Addr) (w : World) (h : elect_Elect_Vote.B0 e w   R) :
    KW Tryz.prog 50 10 (elect_Elect_Vote.RV R) ([(0, [])].map (toItem (Tryz.f50.body.getD .skip))) [(0, .pointer e)] w := by
  exact block_spec Tryz.func50 Tryz.mixed stops_nil (Eq.mp (elect_Elect_Vote.B0_eq e w   R ) h)
theorem elect_Elect_Vote.sound (e : Option Addr) (w : World) (R : Int → World → Prop) (h : elect_Elect_Vote.B0 e w R) : elect_Elect_Vote.Call e w R := by
  have hc := calls_of_block (args := #[.pointer e]) Tryz.func50 (body := (Tryz.f50.body.getD .skip)) (by kernel_rfl) (by kernel_rfl) (args_slot _) (elect_Elect_Vote.B0_sound e w h)
  exact hc.mono fun e w' he => by
    obtain ⟨v, rfl, hv⟩ := he
    exact elect_Elect_Vote.RV_elim hv
def elect_Elect_Role.B0 (e : Option Addr) (w : World)   (R : Int → World → Prop) : Prop :=
  Pn e fun a =>
  LdI .i64 (a.add 2) w fun x6 =>
  R (IntKind.i64.wrap (BitVec.ofInt IntKind.i64.bits x6 &&& BitVec.ofInt IntKind.i64.bits (3 : Int)).toNat) w
theorem elect_Elect_Role.B0_eq (e : Option Addr) (w : World)   (R : Int → World → Prop)  :
    (
  Pn e fun a =>
  LdI .i64 (a.add 2) w fun x6 =>
  R (IntKind.i64.wrap (BitVec.ofInt IntKind.i64.bits x6 &&& BitVec.ofInt IntKind.i64.bits (3 : Int)).toNat) w) = kstep Tryz.prog 8 Tryz.f51.results.toList (Tryz.f51.body.getD .skip) (elect_Elect_Role.RV R) (kvc Tryz.prog 8 Tryz.f51.results.toList (Tryz.f51.body.getD .skip) (elect_Elect_Role.RV R) [] 2000) [(0, [])] [(0, .pointer e)] w := by kernel_rfl
theorem elect_Elect_Role.B0_sound {R : Int → World → Prop}  (e : Option Addr) (w : World) (h : elect_Elect_Role.B0 e w   R) :
    KW Tryz.prog 51 8 (elect_Elect_Role.RV R) ([(0, [])].map (toItem (Tryz.f51.body.getD .skip))) [(0, .pointer e)] w := by
  exact block_spec Tryz.func51 Tryz.mixed stops_nil (Eq.mp (elect_Elect_Role.B0_eq e w   R ) h)
theorem elect_Elect_Role.sound (e : Option Addr) (w : World) (R : Int → World → Prop) (h : elect_Elect_Role.B0 e w R) : elect_Elect_Role.Call e w R := by
  have hc := calls_of_block (args := #[.pointer e]) Tryz.func51 (body := (Tryz.f51.body.getD .skip)) (by kernel_rfl) (by kernel_rfl) (args_slot _) (elect_Elect_Role.B0_sound e w h)
  exact hc.mono fun e w' he => by
    obtain ⟨v, rfl, hv⟩ := he
    exact elect_Elect_Role.RV_elim hv
def elect_Elect_Id.B0 (e : Option Addr) (w : World)   (R : Int → World → Prop) : Prop :=
  Pn e fun a =>
  LdI .i64 a w fun x6 =>
  R x6 w
theorem elect_Elect_Id.B0_eq (e : Option Addr) (w : World)   (R : Int → World → Prop)  :
    (
  Pn e fun a =>
  LdI .i64 a w fun x6 =>
  R x6 w) = kstep Tryz.prog 7 Tryz.f52.results.toList (Tryz.f52.body.getD .skip) (elect_Elect_Id.RV R) (kvc Tryz.prog 7 Tryz.f52.results.toList (Tryz.f52.body.getD .skip) (elect_Elect_Id.RV R) [] 2000) [(0, [])] [(0, .pointer e)] w := by kernel_rfl
theorem elect_Elect_Id.B0_sound {R : Int → World → Prop}  (e : Option Addr) (w : World) (h : elect_Elect_Id.B0 e w   R) :
    KW Tryz.prog 52 7 (elect_Elect_Id.RV R) ([(0, [])].map (toItem (Tryz.f52.body.getD .skip))) [(0, .pointer e)] w := by
  exact block_spec Tryz.func52 Tryz.mixed stops_nil (Eq.mp (elect_Elect_Id.B0_eq e w   R ) h)
theorem elect_Elect_Id.sound (e : Option Addr) (w : World) (R : Int → World → Prop) (h : elect_Elect_Id.B0 e w R) : elect_Elect_Id.Call e w R := by
  have hc := calls_of_block (args := #[.pointer e]) Tryz.func52 (body := (Tryz.f52.body.getD .skip)) (by kernel_rfl) (by kernel_rfl) (args_slot _) (elect_Elect_Id.B0_sound e w h)
  exact hc.mono fun e w' he => by
    obtain ⟨v, rfl, hv⟩ := he
    exact elect_Elect_Id.RV_elim hv
end Go.Proofs.Qxb6500433aGreat
