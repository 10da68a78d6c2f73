import Derived.Test.Qxb6500424aGreatSig
set_option maxRecDepth 100000
set_option linter.unusedVariables false
open Go.Vc
namespace Go.Proofs.Qxb6500424aGreat
def hostm_Net_AllGone.L1b (n : Option Addr) (i : Int) (w : World)  (N1 : Option Addr → Int → World → Prop) (R : Bool → World → Prop) : Prop :=
  Pn n fun a =>
  LdL a w fun x8_b x8_l x8_c =>
  Bm (decide (i < ((x8_l : Nat) : Int))) (
    Pn n fun a_1 =>
    LdL a_1 w fun x16_b x16_l x16_c =>
    Pn x16_b fun a_2 =>
    (0 ≤ i ∧ i < ((x16_l : Nat) : Int)) ∧
    LdB ((Addr.add a_2 (i.toNat * 16)).add 15) w fun x20 =>
    Bm (!x20) (
      R false w) (
      N1 n (IntKind.i64.wrap (i + (1 : Int))) w)) (
    R true w)
theorem hostm_Net_AllGone.L1b_eq (n : Option Addr) (i : Int) (w : World)  (N1 : Option Addr → Int → World → Prop) (R : Bool → World → Prop)  :
    (
  Pn n fun a =>
  LdL a w fun x8_b x8_l x8_c =>
  Bm (decide (i < ((x8_l : Nat) : Int))) (
    Pn n fun a_1 =>
    LdL a_1 w fun x16_b x16_l x16_c =>
    Pn x16_b fun a_2 =>
    (0 ≤ i ∧ i < ((x16_l : Nat) : Int)) ∧
    LdB ((Addr.add a_2 (i.toNat * 16)).add 15) w fun x20 =>
    Bm (!x20) (
      R false w) (
      N1 n (IntKind.i64.wrap (i + (1 : Int))) w)) (
    R true w)) = kstep Tryz.prog 22 Tryz.f57.results.toList (Tryz.f57.body.getD .skip) (hostm_Net_AllGone.RV R) (kvc Tryz.prog 22 Tryz.f57.results.toList (Tryz.f57.body.getD .skip) (hostm_Net_AllGone.RV R) [([(0, [1, 0, 1, 0, 0]), (2, [1, 0, 1, 0, 0]), (1, [0]), (0, [1, 1])], fun σ w => dP (slotOf σ 0) fun n_ => dI .i64 (slotOf σ 3) fun i_ => N1 n_ i_ w)] 2000) [(0, [1, 0, 1, 0, 0]), (2, [1, 0, 1, 0, 0]), (1, [0]), (0, [1, 1])] [(0, .pointer n), (3, .int .i64 i)] w := by kernel_rfl
theorem hostm_Net_AllGone.L1b_sound {R : Bool → World → Prop} {N1 : Option Addr → Int → World → Prop} (hN1 : ∀ n i w, N1 n i w → KW Tryz.prog 57 22 (hostm_Net_AllGone.RV R) ([(0, [1, 0, 1, 0, 0]), (2, [1, 0, 1, 0, 0]), (1, [0]), (0, [1, 1])].map (toItem (Tryz.f57.body.getD .skip))) [(0, .pointer n), (3, .int .i64 i)] w) (n : Option Addr) (i : Int) (w : World) (h : hostm_Net_AllGone.L1b n i w  N1 R) :
    KW Tryz.prog 57 22 (hostm_Net_AllGone.RV R) ([(0, [1, 0, 1, 0, 0]), (2, [1, 0, 1, 0, 0]), (1, [0]), (0, [1, 1])].map (toItem (Tryz.f57.body.getD .skip))) [(0, .pointer n), (3, .int .i64 i)] w := by
  exact block_spec Tryz.func57 Tryz.mixed (stops_cons (fun σ w h => by
      obtain ⟨n_, e0, h⟩ := dP_elim h
      obtain ⟨i_, e1, h⟩ := dI_elim h
      exact (hN1 n_ i_ w h).weaken (Sub.cons (Sub.cons (Sub.nil _) e1) e0)) stops_nil) (Eq.mp (hostm_Net_AllGone.L1b_eq n i w  N1 R ) h)
def hostm_Net_AllGone.L1 (n : Option Addr) (i : Int) (w : World)  (R : Bool → World → Prop) : Prop :=
  ∃ (I : Nat → Option Addr → Int → World → Prop) (m : Nat), I m n i w ∧ ∀ m n i w, I m n i w → hostm_Net_AllGone.L1b n i w  (fun n' i' w' => ∃ m', m' < m ∧ I m' n' i' w') R
theorem hostm_Net_AllGone.L1_sound {R : Bool → World → Prop}  (n : Option Addr) (i : Int) (w : World) (h : hostm_Net_AllGone.L1 n i w  R) :
    KW Tryz.prog 57 22 (hostm_Net_AllGone.RV R) ([(0, [1, 0, 1, 0, 0]), (2, [1, 0, 1, 0, 0]), (1, [0]), (0, [1, 1])].map (toItem (Tryz.f57.body.getD .skip))) [(0, .pointer n), (3, .int .i64 i)] w := by
  obtain ⟨I, m, hBase, hr⟩ := h
  refine KW.loop (fun m σ w => ∃ (n : Option Addr) (i : Int), σ = [(0, .pointer n), (3, .int .i64 i)] ∧ I m n i w) ?_ m _ w ⟨n, i, rfl, hBase⟩
  rintro m ih σ w ⟨n, i, rfl, hI⟩
  exact hostm_Net_AllGone.L1b_sound  (N1 := fun n' i' w' => ∃ m', m' < m ∧ I m' n' i' w') (fun n' i' w' hx => by obtain ⟨m', hlt, hI'⟩ := hx; exact ih m' hlt _ w' ⟨n', i', rfl, hI'⟩) n i w (hr m n i w hI)
def hostm_Net_AllGone.B0 (n : Option Addr) (w : World)   (R : Bool → World → Prop) : Prop :=
  hostm_Net_AllGone.L1 n (0 : Int) w  R
theorem hostm_Net_AllGone.B0_eq (n : Option Addr) (w : World)   (R : Bool → World → Prop) (sL1 : Option Addr → Int → World → Prop) :
    (
  sL1 n (0 : Int) w) = kstep Tryz.prog 22 Tryz.f57.results.toList (Tryz.f57.body.getD .skip) (hostm_Net_AllGone.RV R) (kvc Tryz.prog 22 Tryz.f57.results.toList (Tryz.f57.body.getD .skip) (hostm_Net_AllGone.RV R) [([(0, [1, 0, 1, 0, 0]), (2, [1, 0, 1, 0, 0]), (1, [0]), (0, [1, 1])], fun σ w => dP (slotOf σ 0) fun n_ => dI .i64 (slotOf σ 3) fun i_ => sL1 n_ i_ w)] 2000) [(0, [])] [(0, .pointer n)] w := by kernel_rfl
theorem hostm_Net_AllGone.B0_sound {R : Bool → World → Prop}  (n : Option Addr) (w : World) (h : hostm_Net_AllGone.B0 n w   R) :
    KW Tryz.prog 57 22 (hostm_Net_AllGone.RV R) ([(0, [])].map (toItem (Tryz.f57.body.getD .skip))) [(0, .pointer n)] w := by
  exact block_spec Tryz.func57 Tryz.mixed (stops_cons (fun σ w h => by
      obtain ⟨n_, e0, h⟩ := dP_elim h
      obtain ⟨i_, e1, h⟩ := dI_elim h
      exact (hostm_Net_AllGone.L1_sound  n_ i_ w h).weaken (Sub.cons (Sub.cons (Sub.nil _) e1) e0)) stops_nil) (Eq.mp (hostm_Net_AllGone.B0_eq n w   R (fun n_ i_ w => hostm_Net_AllGone.L1 n_ i_ w  R)) h)
theorem hostm_Net_AllGone.sound (n : Option Addr) (w : World) (R : Bool → World → Prop) (h : hostm_Net_AllGone.B0 n w R) : hostm_Net_AllGone.Call n w R := by
  have hc := calls_of_block (args := #[.pointer n]) Tryz.func57 (body := (Tryz.f57.body.getD .skip)) (by kernel_rfl) (by kernel_rfl) (args_slot _) (hostm_Net_AllGone.B0_sound n w h)
  exact hc.mono fun e w' he => by
    obtain ⟨v, rfl, hv⟩ := he
    exact hostm_Net_AllGone.RV_elim hv
def frame_New.B0 (addr : Int) (w : World)   (R : Option Addr → World → Prop) : Prop :=
  New (.cells #[.int .u8 (IntKind.u8.wrap (IntKind.i64.wrap (BitVec.ofInt IntKind.i64.bits addr &&& BitVec.ofInt IntKind.i64.bits (255 : Int)).toNat)), .int .i64 (0 : Int), .int .i64 (0 : Int), .int .i64 (0 : Int), .int .i64 (0 : Int), .int .i64 (0 : Int)] 145) w fun b7 w1 =>
  R (some ⟨b7, 0, none⟩) w1
theorem frame_New.B0_eq (addr : Int) (w : World)   (R : Option Addr → World → Prop)  :
    (
  New (.cells #[.int .u8 (IntKind.u8.wrap (IntKind.i64.wrap (BitVec.ofInt IntKind.i64.bits addr &&& BitVec.ofInt IntKind.i64.bits (255 : Int)).toNat)), .int .i64 (0 : Int), .int .i64 (0 : Int), .int .i64 (0 : Int), .int .i64 (0 : Int), .int .i64 (0 : Int)] 145) w fun b7 w1 =>
  R (some ⟨b7, 0, none⟩) w1) = kstep Tryz.prog 8 Tryz.f58.results.toList (Tryz.f58.body.getD .skip) (frame_New.RV R) (kvc Tryz.prog 8 Tryz.f58.results.toList (Tryz.f58.body.getD .skip) (frame_New.RV R) [] 2000) [(0, [])] [(0, .int .i64 addr)] w := by kernel_rfl
theorem frame_New.B0_sound {R : Option Addr → World → Prop}  (addr : Int) (w : World) (h : frame_New.B0 addr w   R) :
    KW Tryz.prog 58 8 (frame_New.RV R) ([(0, [])].map (toItem (Tryz.f58.body.getD .skip))) [(0, .int .i64 addr)] w := by
  exact block_spec Tryz.func58 Tryz.mixed stops_nil (Eq.mp (frame_New.B0_eq addr w   R ) h)
theorem frame_New.sound (addr : Int) (w : World) (R : Option Addr → World → Prop) (h : frame_New.B0 addr w R) : frame_New.Call addr w R := by
  have hc := calls_of_block (args := #[.int .i64 addr]) Tryz.func58 (body := (Tryz.f58.body.getD .skip)) (by kernel_rfl) (by kernel_rfl) (args_slot _) (frame_New.B0_sound addr w h)
  exact hc.mono fun e w' he => by
    obtain ⟨v, rfl, hv⟩ := he
    exact frame_New.RV_elim hv
def ip_New.B0 (addr : Int) (w : World)   (R : Option Addr → World → Prop) : Prop :=
  New (.cells #[.int .i64 (IntKind.i64.wrap (BitVec.ofInt IntKind.i64.bits addr &&& BitVec.ofInt IntKind.i64.bits (255 : Int)).toNat), .int .i64 (0 : Int), .int .i64 (24 : Int), .bool false, .int .i64 (0 : Int), .int .i64 (0 : Int), .int .i64 (0 : Int), .int .u64 (0 : Int), .int .u8 (0 : Int), .int .u8 (0 : Int), .int .u8 (0 : Int), .int .u8 (0 : Int), .int .u8 (0 : Int), .int .u8 (0 : Int), .int .u8 (0 : Int), .int .u8 (0 : Int), .int .u8 (0 : Int), .int .u8 (0 : Int), .int .u8 (0 : Int), .int .u8 (0 : Int), .int .u8 (0 : Int), .int .u8 (0 : Int), .int .u8 (0 : Int), .int .u8 (0 : Int), .int .u8 (0 : Int), .int .u8 (0 : Int), .int .u8 (0 : Int), .int .u8 (0 : Int), .int .u8 (0 : Int), .int .u8 (0 : Int), .int .u8 (0 : Int), .int .u8 (0 : Int), .int .u8 (0 : Int), .int .u8 (0 : Int), .int .u8 (0 : Int), .int .u8 (0 : Int), .int .u8 (0 : Int), .int .u8 (0 : Int), .int .u8 (0 : Int), .int .u8 (0 : Int), .int .u8 (0 : Int), .int .u8 (0 : Int), .int .u8 (0 : Int), .int .u8 (0 : Int), .int .u8 (0 : Int), .int .u8 (0 : Int), .int .u8 (0 : Int), .int .u8 (0 : Int), .bool false, .int .i64 (0 : Int), .int .i64 (0 : Int), .int .i64 (0 : Int), .int .u64 (0 : Int), .int .u8 (0 : Int), .int .u8 (0 : Int), .int .u8 (0 : Int), .int .u8 (0 : Int), .int .u8 (0 : Int), .int .u8 (0 : Int), .int .u8 (0 : Int), .int .u8 (0 : Int), .int .u8 (0 : Int), .int .u8 (0 : Int), .int .u8 (0 : Int), .int .u8 (0 : Int), .int .u8 (0 : Int), .int .u8 (0 : Int), .int .u8 (0 : Int), .int .u8 (0 : Int), .int .u8 (0 : Int), .int .u8 (0 : Int), .int .u8 (0 : Int), .int .u8 (0 : Int), .int .u8 (0 : Int), .int .u8 (0 : Int), .int .u8 (0 : Int), .int .u8 (0 : Int), .int .u8 (0 : Int), .int .u8 (0 : Int), .int .u8 (0 : Int), .int .u8 (0 : Int), .int .u8 (0 : Int), .int .u8 (0 : Int), .int .u8 (0 : Int), .int .u8 (0 : Int), .int .u8 (0 : Int), .int .u8 (0 : Int), .int .u8 (0 : Int), .int .u8 (0 : Int), .int .u8 (0 : Int), .int .u8 (0 : Int), .int .u8 (0 : Int), .int .u8 (0 : Int), .bool false, .int .i64 (0 : Int), .int .i64 (0 : Int), .int .i64 (0 : Int), .int .u64 (0 : Int), .int .u8 (0 : Int), .int .u8 (0 : Int), .int .u8 (0 : Int), .int .u8 (0 : Int), .int .u8 (0 : Int), .int .u8 (0 : Int), .int .u8 (0 : Int), .int .u8 (0 : Int), .int .u8 (0 : Int), .int .u8 (0 : Int), .int .u8 (0 : Int), .int .u8 (0 : Int), .int .u8 (0 : Int), .int .u8 (0 : Int), .int .u8 (0 : Int), .int .u8 (0 : Int), .int .u8 (0 : Int), .int .u8 (0 : Int), .int .u8 (0 : Int), .int .u8 (0 : Int), .int .u8 (0 : Int), .int .u8 (0 : Int), .int .u8 (0 : Int), .int .u8 (0 : Int), .int .u8 (0 : Int), .int .u8 (0 : Int), .int .u8 (0 : Int), .int .u8 (0 : Int), .int .u8 (0 : Int), .int .u8 (0 : Int), .int .u8 (0 : Int), .int .u8 (0 : Int), .int .u8 (0 : Int), .int .u8 (0 : Int), .int .u8 (0 : Int), .int .u8 (0 : Int), .int .u8 (0 : Int), .int .u8 (0 : Int), .int .u8 (0 : Int), .int .u8 (0 : Int)] 152) w fun b6 w1 =>
  R (some ⟨b6, 0, none⟩) w1
theorem ip_New.B0_eq (addr : Int) (w : World)   (R : Option Addr → World → Prop)  :
    (
  New (.cells #[.int .i64 (IntKind.i64.wrap (BitVec.ofInt IntKind.i64.bits addr &&& BitVec.ofInt IntKind.i64.bits (255 : Int)).toNat), .int .i64 (0 : Int), .int .i64 (24 : Int), .bool false, .int .i64 (0 : Int), .int .i64 (0 : Int), .int .i64 (0 : Int), .int .u64 (0 : Int), .int .u8 (0 : Int), .int .u8 (0 : Int), .int .u8 (0 : Int), .int .u8 (0 : Int), .int .u8 (0 : Int), .int .u8 (0 : Int), .int .u8 (0 : Int), .int .u8 (0 : Int), .int .u8 (0 : Int), .int .u8 (0 : Int), .int .u8 (0 : Int), .int .u8 (0 : Int), .int .u8 (0 : Int), .int .u8 (0 : Int), .int .u8 (0 : Int), .int .u8 (0 : Int), .int .u8 (0 : Int), .int .u8 (0 : Int), .int .u8 (0 : Int), .int .u8 (0 : Int), .int .u8 (0 : Int), .int .u8 (0 : Int), .int .u8 (0 : Int), .int .u8 (0 : Int), .int .u8 (0 : Int), .int .u8 (0 : Int), .int .u8 (0 : Int), .int .u8 (0 : Int), .int .u8 (0 : Int), .int .u8 (0 : Int), .int .u8 (0 : Int), .int .u8 (0 : Int), .int .u8 (0 : Int), .int .u8 (0 : Int), .int .u8 (0 : Int), .int .u8 (0 : Int), .int .u8 (0 : Int), .int .u8 (0 : Int), .int .u8 (0 : Int), .int .u8 (0 : Int), .bool false, .int .i64 (0 : Int), .int .i64 (0 : Int), .int .i64 (0 : Int), .int .u64 (0 : Int), .int .u8 (0 : Int), .int .u8 (0 : Int), .int .u8 (0 : Int), .int .u8 (0 : Int), .int .u8 (0 : Int), .int .u8 (0 : Int), .int .u8 (0 : Int), .int .u8 (0 : Int), .int .u8 (0 : Int), .int .u8 (0 : Int), .int .u8 (0 : Int), .int .u8 (0 : Int), .int .u8 (0 : Int), .int .u8 (0 : Int), .int .u8 (0 : Int), .int .u8 (0 : Int), .int .u8 (0 : Int), .int .u8 (0 : Int), .int .u8 (0 : Int), .int .u8 (0 : Int), .int .u8 (0 : Int), .int .u8 (0 : Int), .int .u8 (0 : Int), .int .u8 (0 : Int), .int .u8 (0 : Int), .int .u8 (0 : Int), .int .u8 (0 : Int), .int .u8 (0 : Int), .int .u8 (0 : Int), .int .u8 (0 : Int), .int .u8 (0 : Int), .int .u8 (0 : Int), .int .u8 (0 : Int), .int .u8 (0 : Int), .int .u8 (0 : Int), .int .u8 (0 : Int), .int .u8 (0 : Int), .int .u8 (0 : Int), .int .u8 (0 : Int), .int .u8 (0 : Int), .bool false, .int .i64 (0 : Int), .int .i64 (0 : Int), .int .i64 (0 : Int), .int .u64 (0 : Int), .int .u8 (0 : Int), .int .u8 (0 : Int), .int .u8 (0 : Int), .int .u8 (0 : Int), .int .u8 (0 : Int), .int .u8 (0 : Int), .int .u8 (0 : Int), .int .u8 (0 : Int), .int .u8 (0 : Int), .int .u8 (0 : Int), .int .u8 (0 : Int), .int .u8 (0 : Int), .int .u8 (0 : Int), .int .u8 (0 : Int), .int .u8 (0 : Int), .int .u8 (0 : Int), .int .u8 (0 : Int), .int .u8 (0 : Int), .int .u8 (0 : Int), .int .u8 (0 : Int), .int .u8 (0 : Int), .int .u8 (0 : Int), .int .u8 (0 : Int), .int .u8 (0 : Int), .int .u8 (0 : Int), .int .u8 (0 : Int), .int .u8 (0 : Int), .int .u8 (0 : Int), .int .u8 (0 : Int), .int .u8 (0 : Int), .int .u8 (0 : Int), .int .u8 (0 : Int), .int .u8 (0 : Int), .int .u8 (0 : Int), .int .u8 (0 : Int), .int .u8 (0 : Int), .int .u8 (0 : Int), .int .u8 (0 : Int), .int .u8 (0 : Int), .int .u8 (0 : Int)] 152) w fun b6 w1 =>
  R (some ⟨b6, 0, none⟩) w1) = kstep Tryz.prog 7 Tryz.f59.results.toList (Tryz.f59.body.getD .skip) (ip_New.RV R) (kvc Tryz.prog 7 Tryz.f59.results.toList (Tryz.f59.body.getD .skip) (ip_New.RV R) [] 2000) [(0, [])] [(0, .int .i64 addr)] w := by kernel_rfl
theorem ip_New.B0_sound {R : Option Addr → World → Prop}  (addr : Int) (w : World) (h : ip_New.B0 addr w   R) :
    KW Tryz.prog 59 7 (ip_New.RV R) ([(0, [])].map (toItem (Tryz.f59.body.getD .skip))) [(0, .int .i64 addr)] w := by
  exact block_spec Tryz.func59 Tryz.mixed stops_nil (Eq.mp (ip_New.B0_eq addr w   R ) h)
theorem ip_New.sound (addr : Int) (w : World) (R : Option Addr → World → Prop) (h : ip_New.B0 addr w R) : ip_New.Call addr w R := by
  have hc := calls_of_block (args := #[.int .i64 addr]) Tryz.func59 (body := (Tryz.f59.body.getD .skip)) (by kernel_rfl) (by kernel_rfl) (args_slot _) (ip_New.B0_sound addr w h)
  exact hc.mono fun e w' he => by
    obtain ⟨v, rfl, hv⟩ := he
    exact ip_New.RV_elim hv
def sock_New.L3b (t : Nat) (p : Int) (w : World)  (N3 : Nat → Int → World → Prop) (R : Option Addr → World → Prop) : Prop :=
  Bm (decide (p < (8 : Int))) (
    (0 ≤ p ∧ p < ((8 : Nat) : Int)) ∧
    Sts [.int .i64 (-1 : Int)] (Addr.add ⟨t, 95, none⟩ (p.toNat * 1)) 0 w fun w1 =>
    N3 t (IntKind.i64.wrap (p + (1 : Int))) w1) (
    R (some ⟨t, 0, none⟩) w)
theorem sock_New.L3b_eq (t : Nat) (p : Int) (w : World)  (N3 : Nat → Int → World → Prop) (R : Option Addr → World → Prop)  :
    (
  Bm (decide (p < (8 : Int))) (
    (0 ≤ p ∧ p < ((8 : Nat) : Int)) ∧
    Sts [.int .i64 (-1 : Int)] (Addr.add ⟨t, 95, none⟩ (p.toNat * 1)) 0 w fun w1 =>
    N3 t (IntKind.i64.wrap (p + (1 : Int))) w1) (
    R (some ⟨t, 0, none⟩) w)) = kstep Tryz.prog 43 Tryz.f60.results.toList (Tryz.f60.body.getD .skip) (sock_New.RV R) (kvc Tryz.prog 43 Tryz.f60.results.toList (Tryz.f60.body.getD .skip) (sock_New.RV R) [([(0, [1, 1, 1, 1, 1, 0, 1, 0, 0]), (2, [1, 1, 1, 1, 1, 0, 1, 0, 0]), (1, [4]), (0, [1, 1, 1, 1, 1, 1])], fun σ w => dK (slotOf σ 1) fun t_ => dI .i64 (slotOf σ 4) fun p_ => N3 t_ p_ w)] 2000) [(0, [1, 1, 1, 1, 1, 0, 1, 0, 0]), (2, [1, 1, 1, 1, 1, 0, 1, 0, 0]), (1, [4]), (0, [1, 1, 1, 1, 1, 1])] [(1, .pointer (some ⟨t, 0, none⟩)), (4, .int .i64 p)] w := by kernel_rfl
theorem sock_New.L3b_sound {R : Option Addr → World → Prop} {N3 : Nat → Int → World → Prop} (hN3 : ∀ t p w, N3 t p w → KW Tryz.prog 60 43 (sock_New.RV R) ([(0, [1, 1, 1, 1, 1, 0, 1, 0, 0]), (2, [1, 1, 1, 1, 1, 0, 1, 0, 0]), (1, [4]), (0, [1, 1, 1, 1, 1, 1])].map (toItem (Tryz.f60.body.getD .skip))) [(1, .pointer (some ⟨t, 0, none⟩)), (4, .int .i64 p)] w) (t : Nat) (p : Int) (w : World) (h : sock_New.L3b t p w  N3 R) :
    KW Tryz.prog 60 43 (sock_New.RV R) ([(0, [1, 1, 1, 1, 1, 0, 1, 0, 0]), (2, [1, 1, 1, 1, 1, 0, 1, 0, 0]), (1, [4]), (0, [1, 1, 1, 1, 1, 1])].map (toItem (Tryz.f60.body.getD .skip))) [(1, .pointer (some ⟨t, 0, none⟩)), (4, .int .i64 p)] w := by
  exact block_spec Tryz.func60 Tryz.mixed (stops_cons (fun σ w h => by
      obtain ⟨t_, e0, h⟩ := dK_elim h
      obtain ⟨p_, e1, h⟩ := dI_elim h
      exact (hN3 t_ p_ w h).weaken (Sub.cons (Sub.cons (Sub.nil _) e1) e0)) stops_nil) (Eq.mp (sock_New.L3b_eq t p w  N3 R ) h)
def sock_New.L3 (t : Nat) (p : Int) (w : World)  (R : Option Addr → World → Prop) : Prop :=
  ∃ (I : Nat → Nat → Int → World → Prop) (m : Nat), I m t p w ∧ ∀ m t p w, I m t p w → sock_New.L3b t p w  (fun t' p' w' => ∃ m', m' < m ∧ I m' t' p' w') R
theorem sock_New.L3_sound {R : Option Addr → World → Prop}  (t : Nat) (p : Int) (w : World) (h : sock_New.L3 t p w  R) :
    KW Tryz.prog 60 43 (sock_New.RV R) ([(0, [1, 1, 1, 1, 1, 0, 1, 0, 0]), (2, [1, 1, 1, 1, 1, 0, 1, 0, 0]), (1, [4]), (0, [1, 1, 1, 1, 1, 1])].map (toItem (Tryz.f60.body.getD .skip))) [(1, .pointer (some ⟨t, 0, none⟩)), (4, .int .i64 p)] w := by
  obtain ⟨I, m, hBase, hr⟩ := h
  refine KW.loop (fun m σ w => ∃ (t : Nat) (p : Int), σ = [(1, .pointer (some ⟨t, 0, none⟩)), (4, .int .i64 p)] ∧ I m t p w) ?_ m _ w ⟨t, p, rfl, hBase⟩
  rintro m ih σ w ⟨t, p, rfl, hI⟩
  exact sock_New.L3b_sound  (N3 := fun t' p' w' => ∃ m', m' < m ∧ I m' t' p' w') (fun t' p' w' hx => by obtain ⟨m', hlt, hI'⟩ := hx; exact ih m' hlt _ w' ⟨t', p', rfl, hI'⟩) t p w (hr m t p w hI)
def sock_New.L2b (t : Nat) (b : Int) (w : World)  (N2 : Nat → Int → World → Prop) (R : Option Addr → World → Prop) : Prop :=
  Bm (decide (b < (4 : Int))) (
    (0 ≤ b ∧ b < ((4 : Nat) : Int)) ∧
    Sts [.int .i64 (-1 : Int)] (Addr.add ⟨t, 91, none⟩ (b.toNat * 1)) 0 w fun w1 =>
    N2 t (IntKind.i64.wrap (b + (1 : Int))) w1) (
    sock_New.L3 t (0 : Int) w  R)
theorem sock_New.L2b_eq (t : Nat) (b : Int) (w : World)  (N2 : Nat → Int → World → Prop) (R : Option Addr → World → Prop) (sL3 : Nat → Int → World → Prop) :
    (
  Bm (decide (b < (4 : Int))) (
    (0 ≤ b ∧ b < ((4 : Nat) : Int)) ∧
    Sts [.int .i64 (-1 : Int)] (Addr.add ⟨t, 91, none⟩ (b.toNat * 1)) 0 w fun w1 =>
    N2 t (IntKind.i64.wrap (b + (1 : Int))) w1) (
    sL3 t (0 : Int) w)) = kstep Tryz.prog 43 Tryz.f60.results.toList (Tryz.f60.body.getD .skip) (sock_New.RV R) (kvc Tryz.prog 43 Tryz.f60.results.toList (Tryz.f60.body.getD .skip) (sock_New.RV R) [([(0, [1, 1, 1, 1, 0, 1, 0, 0]), (2, [1, 1, 1, 1, 0, 1, 0, 0]), (1, [2]), (0, [1, 1, 1, 1, 1])], fun σ w => dK (slotOf σ 1) fun t_ => dI .i64 (slotOf σ 3) fun b_ => N2 t_ b_ w),
    ([(0, [1, 1, 1, 1, 1, 0, 1, 0, 0]), (2, [1, 1, 1, 1, 1, 0, 1, 0, 0]), (1, [4]), (0, [1, 1, 1, 1, 1, 1])], fun σ w => dK (slotOf σ 1) fun t_ => dI .i64 (slotOf σ 4) fun p_ => sL3 t_ p_ w)] 2000) [(0, [1, 1, 1, 1, 0, 1, 0, 0]), (2, [1, 1, 1, 1, 0, 1, 0, 0]), (1, [2]), (0, [1, 1, 1, 1, 1])] [(1, .pointer (some ⟨t, 0, none⟩)), (3, .int .i64 b)] w := by kernel_rfl
theorem sock_New.L2b_sound {R : Option Addr → World → Prop} {N2 : Nat → Int → World → Prop} (hN2 : ∀ t b w, N2 t b w → KW Tryz.prog 60 43 (sock_New.RV R) ([(0, [1, 1, 1, 1, 0, 1, 0, 0]), (2, [1, 1, 1, 1, 0, 1, 0, 0]), (1, [2]), (0, [1, 1, 1, 1, 1])].map (toItem (Tryz.f60.body.getD .skip))) [(1, .pointer (some ⟨t, 0, none⟩)), (3, .int .i64 b)] w) (t : Nat) (b : Int) (w : World) (h : sock_New.L2b t b w  N2 R) :
    KW Tryz.prog 60 43 (sock_New.RV R) ([(0, [1, 1, 1, 1, 0, 1, 0, 0]), (2, [1, 1, 1, 1, 0, 1, 0, 0]), (1, [2]), (0, [1, 1, 1, 1, 1])].map (toItem (Tryz.f60.body.getD .skip))) [(1, .pointer (some ⟨t, 0, none⟩)), (3, .int .i64 b)] w := by
  exact block_spec Tryz.func60 Tryz.mixed (stops_cons (fun σ w h => by
      obtain ⟨t_, e0, h⟩ := dK_elim h
      obtain ⟨b_, e1, h⟩ := dI_elim h
      exact (hN2 t_ b_ w h).weaken (Sub.cons (Sub.cons (Sub.nil _) e1) e0)) (stops_cons (fun σ w h => by
      obtain ⟨t_, e0, h⟩ := dK_elim h
      obtain ⟨p_, e1, h⟩ := dI_elim h
      exact (sock_New.L3_sound  t_ p_ w h).weaken (Sub.cons (Sub.cons (Sub.nil _) e1) e0)) stops_nil)) (Eq.mp (sock_New.L2b_eq t b w  N2 R (fun t_ p_ w => sock_New.L3 t_ p_ w  R)) h)
def sock_New.L2 (t : Nat) (b : Int) (w : World)  (R : Option Addr → World → Prop) : Prop :=
  ∃ (I : Nat → Nat → Int → World → Prop) (m : Nat), I m t b w ∧ ∀ m t b w, I m t b w → sock_New.L2b t b w  (fun t' b' w' => ∃ m', m' < m ∧ I m' t' b' w') R
theorem sock_New.L2_sound {R : Option Addr → World → Prop}  (t : Nat) (b : Int) (w : World) (h : sock_New.L2 t b w  R) :
    KW Tryz.prog 60 43 (sock_New.RV R) ([(0, [1, 1, 1, 1, 0, 1, 0, 0]), (2, [1, 1, 1, 1, 0, 1, 0, 0]), (1, [2]), (0, [1, 1, 1, 1, 1])].map (toItem (Tryz.f60.body.getD .skip))) [(1, .pointer (some ⟨t, 0, none⟩)), (3, .int .i64 b)] w := by
  obtain ⟨I, m, hBase, hr⟩ := h
  refine KW.loop (fun m σ w => ∃ (t : Nat) (b : Int), σ = [(1, .pointer (some ⟨t, 0, none⟩)), (3, .int .i64 b)] ∧ I m t b w) ?_ m _ w ⟨t, b, rfl, hBase⟩
  rintro m ih σ w ⟨t, b, rfl, hI⟩
  exact sock_New.L2b_sound  (N2 := fun t' b' w' => ∃ m', m' < m ∧ I m' t' b' w') (fun t' b' w' hx => by obtain ⟨m', hlt, hI'⟩ := hx; exact ih m' hlt _ w' ⟨t', b', rfl, hI'⟩) t b w (hr m t b w hI)
def sock_New.L1b (t : Nat) (i : Int) (w : World)  (N1 : Nat → Int → World → Prop) (R : Option Addr → World → Prop) : Prop :=
  Bm (decide (i < (6 : Int))) (
    (0 ≤ i ∧ i < ((6 : Nat) : Int)) ∧
    Sts [.int .i64 (IntKind.i64.wrap (i + (1 : Int)))] ((Addr.add ⟨t, 0, none⟩ (i.toNat * 15)).add 9) 0 w fun w1 =>
    N1 t (IntKind.i64.wrap (i + (1 : Int))) w1) (
    (0 ≤ (5 : Int) ∧ (5 : Int) < ((6 : Nat) : Int)) ∧
    Sts [.int .i64 (-1 : Int)] ⟨t, 84, none⟩ 0 w fun w2 =>
    sock_New.L2 t (0 : Int) w2  R)
theorem sock_New.L1b_eq (t : Nat) (i : Int) (w : World)  (N1 : Nat → Int → World → Prop) (R : Option Addr → World → Prop) (sL2 : Nat → Int → World → Prop) :
    (
  Bm (decide (i < (6 : Int))) (
    (0 ≤ i ∧ i < ((6 : Nat) : Int)) ∧
    Sts [.int .i64 (IntKind.i64.wrap (i + (1 : Int)))] ((Addr.add ⟨t, 0, none⟩ (i.toNat * 15)).add 9) 0 w fun w1 =>
    N1 t (IntKind.i64.wrap (i + (1 : Int))) w1) (
    (0 ≤ (5 : Int) ∧ (5 : Int) < ((6 : Nat) : Int)) ∧
    Sts [.int .i64 (-1 : Int)] ⟨t, 84, none⟩ 0 w fun w2 =>
    sL2 t (0 : Int) w2)) = kstep Tryz.prog 43 Tryz.f60.results.toList (Tryz.f60.body.getD .skip) (sock_New.RV R) (kvc Tryz.prog 43 Tryz.f60.results.toList (Tryz.f60.body.getD .skip) (sock_New.RV R) [([(0, [1, 1, 0, 1, 0, 0]), (2, [1, 1, 0, 1, 0, 0]), (1, [0]), (0, [1, 1, 1])], fun σ w => dK (slotOf σ 1) fun t_ => dI .i64 (slotOf σ 2) fun i_ => N1 t_ i_ w),
    ([(0, [1, 1, 1, 1, 0, 1, 0, 0]), (2, [1, 1, 1, 1, 0, 1, 0, 0]), (1, [2]), (0, [1, 1, 1, 1, 1])], fun σ w => dK (slotOf σ 1) fun t_ => dI .i64 (slotOf σ 3) fun b_ => sL2 t_ b_ w)] 2000) [(0, [1, 1, 0, 1, 0, 0]), (2, [1, 1, 0, 1, 0, 0]), (1, [0]), (0, [1, 1, 1])] [(1, .pointer (some ⟨t, 0, none⟩)), (2, .int .i64 i)] w := by kernel_rfl
theorem sock_New.L1b_sound {R : Option Addr → World → Prop} {N1 : Nat → Int → World → Prop} (hN1 : ∀ t i w, N1 t i w → KW Tryz.prog 60 43 (sock_New.RV R) ([(0, [1, 1, 0, 1, 0, 0]), (2, [1, 1, 0, 1, 0, 0]), (1, [0]), (0, [1, 1, 1])].map (toItem (Tryz.f60.body.getD .skip))) [(1, .pointer (some ⟨t, 0, none⟩)), (2, .int .i64 i)] w) (t : Nat) (i : Int) (w : World) (h : sock_New.L1b t i w  N1 R) :
    KW Tryz.prog 60 43 (sock_New.RV R) ([(0, [1, 1, 0, 1, 0, 0]), (2, [1, 1, 0, 1, 0, 0]), (1, [0]), (0, [1, 1, 1])].map (toItem (Tryz.f60.body.getD .skip))) [(1, .pointer (some ⟨t, 0, none⟩)), (2, .int .i64 i)] w := by
  exact block_spec Tryz.func60 Tryz.mixed (stops_cons (fun σ w h => by
      obtain ⟨t_, e0, h⟩ := dK_elim h
      obtain ⟨i_, e1, h⟩ := dI_elim h
      exact (hN1 t_ i_ w h).weaken (Sub.cons (Sub.cons (Sub.nil _) e1) e0)) (stops_cons (fun σ w h => by
      obtain ⟨t_, e0, h⟩ := dK_elim h
      obtain ⟨b_, e1, h⟩ := dI_elim h
      exact (sock_New.L2_sound  t_ b_ w h).weaken (Sub.cons (Sub.cons (Sub.nil _) e1) e0)) stops_nil)) (Eq.mp (sock_New.L1b_eq t i w  N1 R (fun t_ b_ w => sock_New.L2 t_ b_ w  R)) h)
def sock_New.L1 (t : Nat) (i : Int) (w : World)  (R : Option Addr → World → Prop) : Prop :=
  ∃ (I : Nat → Nat → Int → World → Prop) (m : Nat), I m t i w ∧ ∀ m t i w, I m t i w → sock_New.L1b t i w  (fun t' i' w' => ∃ m', m' < m ∧ I m' t' i' w') R
theorem sock_New.L1_sound {R : Option Addr → World → Prop}  (t : Nat) (i : Int) (w : World) (h : sock_New.L1 t i w  R) :
    KW Tryz.prog 60 43 (sock_New.RV R) ([(0, [1, 1, 0, 1, 0, 0]), (2, [1, 1, 0, 1, 0, 0]), (1, [0]), (0, [1, 1, 1])].map (toItem (Tryz.f60.body.getD .skip))) [(1, .pointer (some ⟨t, 0, none⟩)), (2, .int .i64 i)] w := by
  obtain ⟨I, m, hBase, hr⟩ := h
  refine KW.loop (fun m σ w => ∃ (t : Nat) (i : Int), σ = [(1, .pointer (some ⟨t, 0, none⟩)), (2, .int .i64 i)] ∧ I m t i w) ?_ m _ w ⟨t, i, rfl, hBase⟩
  rintro m ih σ w ⟨t, i, rfl, hI⟩
  exact sock_New.L1b_sound  (N1 := fun t' i' w' => ∃ m', m' < m ∧ I m' t' i' w') (fun t' i' w' hx => by obtain ⟨m', hlt, hI'⟩ := hx; exact ih m' hlt _ w' ⟨t', i', rfl, hI'⟩) t i w (hr m t i w hI)
def sock_New.B0  (w : World)   (R : Option Addr → World → Prop) : Prop :=
  New (.cells #[.bool false, .int .i64 (0 : Int), .int .i64 (0 : Int), .int .i64 (0 : Int), .int .i64 (0 : Int), .int .i64 (0 : Int), .int .i64 (0 : Int), .int .i64 (0 : Int), .bool false, .int .i64 (0 : Int), .int .i64 (0 : Int), .int .i64 (0 : Int), .int .i64 (0 : Int), .int .i64 (0 : Int), .int .i64 (0 : Int), .bool false, .int .i64 (0 : Int), .int .i64 (0 : Int), .int .i64 (0 : Int), .int .i64 (0 : Int), .int .i64 (0 : Int), .int .i64 (0 : Int), .int .i64 (0 : Int), .bool false, .int .i64 (0 : Int), .int .i64 (0 : Int), .int .i64 (0 : Int), .int .i64 (0 : Int), .int .i64 (0 : Int), .int .i64 (0 : Int), .bool false, .int .i64 (0 : Int), .int .i64 (0 : Int), .int .i64 (0 : Int), .int .i64 (0 : Int), .int .i64 (0 : Int), .int .i64 (0 : Int), .int .i64 (0 : Int), .bool false, .int .i64 (0 : Int), .int .i64 (0 : Int), .int .i64 (0 : Int), .int .i64 (0 : Int), .int .i64 (0 : Int), .int .i64 (0 : Int), .bool false, .int .i64 (0 : Int), .int .i64 (0 : Int), .int .i64 (0 : Int), .int .i64 (0 : Int), .int .i64 (0 : Int), .int .i64 (0 : Int), .int .i64 (0 : Int), .bool false, .int .i64 (0 : Int), .int .i64 (0 : Int), .int .i64 (0 : Int), .int .i64 (0 : Int), .int .i64 (0 : Int), .int .i64 (0 : Int), .bool false, .int .i64 (0 : Int), .int .i64 (0 : Int), .int .i64 (0 : Int), .int .i64 (0 : Int), .int .i64 (0 : Int), .int .i64 (0 : Int), .int .i64 (0 : Int), .bool false, .int .i64 (0 : Int), .int .i64 (0 : Int), .int .i64 (0 : Int), .int .i64 (0 : Int), .int .i64 (0 : Int), .int .i64 (0 : Int), .bool false, .int .i64 (0 : Int), .int .i64 (0 : Int), .int .i64 (0 : Int), .int .i64 (0 : Int), .int .i64 (0 : Int), .int .i64 (0 : Int), .int .i64 (0 : Int), .bool false, .int .i64 (0 : Int), .int .i64 (0 : Int), .int .i64 (0 : Int), .int .i64 (0 : Int), .int .i64 (0 : Int), .int .i64 (0 : Int), .int .i64 (0 : Int), .int .i64 (0 : Int), .int .i64 (0 : Int), .int .i64 (0 : Int), .int .i64 (0 : Int), .int .i64 (0 : Int), .int .i64 (0 : Int), .int .i64 (0 : Int), .int .i64 (0 : Int), .int .i64 (0 : Int), .int .i64 (0 : Int), .int .i64 (0 : Int), .int .i64 (0 : Int), .int .u8 (0 : Int), .int .i64 (0 : Int), .int .i64 (1 : Int), .int .i64 (8 : Int)] 158) w fun b6 w1 =>
  sock_New.L1 b6 (0 : Int) w1  R
theorem sock_New.B0_eq  (w : World)   (R : Option Addr → World → Prop) (sL1 : Nat → Int → World → Prop) :
    (
  New (.cells #[.bool false, .int .i64 (0 : Int), .int .i64 (0 : Int), .int .i64 (0 : Int), .int .i64 (0 : Int), .int .i64 (0 : Int), .int .i64 (0 : Int), .int .i64 (0 : Int), .bool false, .int .i64 (0 : Int), .int .i64 (0 : Int), .int .i64 (0 : Int), .int .i64 (0 : Int), .int .i64 (0 : Int), .int .i64 (0 : Int), .bool false, .int .i64 (0 : Int), .int .i64 (0 : Int), .int .i64 (0 : Int), .int .i64 (0 : Int), .int .i64 (0 : Int), .int .i64 (0 : Int), .int .i64 (0 : Int), .bool false, .int .i64 (0 : Int), .int .i64 (0 : Int), .int .i64 (0 : Int), .int .i64 (0 : Int), .int .i64 (0 : Int), .int .i64 (0 : Int), .bool false, .int .i64 (0 : Int), .int .i64 (0 : Int), .int .i64 (0 : Int), .int .i64 (0 : Int), .int .i64 (0 : Int), .int .i64 (0 : Int), .int .i64 (0 : Int), .bool false, .int .i64 (0 : Int), .int .i64 (0 : Int), .int .i64 (0 : Int), .int .i64 (0 : Int), .int .i64 (0 : Int), .int .i64 (0 : Int), .bool false, .int .i64 (0 : Int), .int .i64 (0 : Int), .int .i64 (0 : Int), .int .i64 (0 : Int), .int .i64 (0 : Int), .int .i64 (0 : Int), .int .i64 (0 : Int), .bool false, .int .i64 (0 : Int), .int .i64 (0 : Int), .int .i64 (0 : Int), .int .i64 (0 : Int), .int .i64 (0 : Int), .int .i64 (0 : Int), .bool false, .int .i64 (0 : Int), .int .i64 (0 : Int), .int .i64 (0 : Int), .int .i64 (0 : Int), .int .i64 (0 : Int), .int .i64 (0 : Int), .int .i64 (0 : Int), .bool false, .int .i64 (0 : Int), .int .i64 (0 : Int), .int .i64 (0 : Int), .int .i64 (0 : Int), .int .i64 (0 : Int), .int .i64 (0 : Int), .bool false, .int .i64 (0 : Int), .int .i64 (0 : Int), .int .i64 (0 : Int), .int .i64 (0 : Int), .int .i64 (0 : Int), .int .i64 (0 : Int), .int .i64 (0 : Int), .bool false, .int .i64 (0 : Int), .int .i64 (0 : Int), .int .i64 (0 : Int), .int .i64 (0 : Int), .int .i64 (0 : Int), .int .i64 (0 : Int), .int .i64 (0 : Int), .int .i64 (0 : Int), .int .i64 (0 : Int), .int .i64 (0 : Int), .int .i64 (0 : Int), .int .i64 (0 : Int), .int .i64 (0 : Int), .int .i64 (0 : Int), .int .i64 (0 : Int), .int .i64 (0 : Int), .int .i64 (0 : Int), .int .i64 (0 : Int), .int .i64 (0 : Int), .int .u8 (0 : Int), .int .i64 (0 : Int), .int .i64 (1 : Int), .int .i64 (8 : Int)] 158) w fun b6 w1 =>
  sL1 b6 (0 : Int) w1) = kstep Tryz.prog 43 Tryz.f60.results.toList (Tryz.f60.body.getD .skip) (sock_New.RV R) (kvc Tryz.prog 43 Tryz.f60.results.toList (Tryz.f60.body.getD .skip) (sock_New.RV R) [([(0, [1, 1, 0, 1, 0, 0]), (2, [1, 1, 0, 1, 0, 0]), (1, [0]), (0, [1, 1, 1])], fun σ w => dK (slotOf σ 1) fun t_ => dI .i64 (slotOf σ 2) fun i_ => sL1 t_ i_ w)] 2000) [(0, [])] [] w := by kernel_rfl
theorem sock_New.B0_sound {R : Option Addr → World → Prop}   (w : World) (h : sock_New.B0  w   R) :
    KW Tryz.prog 60 43 (sock_New.RV R) ([(0, [])].map (toItem (Tryz.f60.body.getD .skip))) [] w := by
  exact block_spec Tryz.func60 Tryz.mixed (stops_cons (fun σ w h => by
      obtain ⟨t_, e0, h⟩ := dK_elim h
      obtain ⟨i_, e1, h⟩ := dI_elim h
      exact (sock_New.L1_sound  t_ i_ w h).weaken (Sub.cons (Sub.cons (Sub.nil _) e1) e0)) stops_nil) (Eq.mp (sock_New.B0_eq  w   R (fun t_ i_ w => sock_New.L1 t_ i_ w  R)) h)
theorem sock_New.sound  (w : World) (R : Option Addr → World → Prop) (h : sock_New.B0  w R) : sock_New.Call  w R := by
  have hc := calls_of_block (args := #[]) Tryz.func60 (body := (Tryz.f60.body.getD .skip)) (by kernel_rfl) (by kernel_rfl) (args_slot _) (sock_New.B0_sound  w h)
  exact hc.mono fun e w' he => by
    obtain ⟨v, rfl, hv⟩ := he
    exact sock_New.RV_elim hv
def seg_NewSendBuf.B0  (w : World)   (R : Option Addr → World → Prop) : Prop :=
  New (.cells #[.int .u8 (0 : Int), .int .u8 (0 : Int), .int .u8 (0 : Int), .int .u8 (0 : Int), .int .u8 (0 : Int), .int .u8 (0 : Int), .int .u8 (0 : Int), .int .u8 (0 : Int), .int .u8 (0 : Int), .int .u8 (0 : Int), .int .u8 (0 : Int), .int .u8 (0 : Int), .int .u8 (0 : Int), .int .u8 (0 : Int), .int .u8 (0 : Int), .int .u8 (0 : Int), .int .i64 (0 : Int), .int .i64 (0 : Int), .int .i64 (0 : Int), .int .u8 (0 : Int)] 161) w fun b2 w1 =>
  R (some ⟨b2, 0, none⟩) w1
theorem seg_NewSendBuf.B0_eq  (w : World)   (R : Option Addr → World → Prop)  :
    (
  New (.cells #[.int .u8 (0 : Int), .int .u8 (0 : Int), .int .u8 (0 : Int), .int .u8 (0 : Int), .int .u8 (0 : Int), .int .u8 (0 : Int), .int .u8 (0 : Int), .int .u8 (0 : Int), .int .u8 (0 : Int), .int .u8 (0 : Int), .int .u8 (0 : Int), .int .u8 (0 : Int), .int .u8 (0 : Int), .int .u8 (0 : Int), .int .u8 (0 : Int), .int .u8 (0 : Int), .int .i64 (0 : Int), .int .i64 (0 : Int), .int .i64 (0 : Int), .int .u8 (0 : Int)] 161) w fun b2 w1 =>
  R (some ⟨b2, 0, none⟩) w1) = kstep Tryz.prog 3 Tryz.f61.results.toList (Tryz.f61.body.getD .skip) (seg_NewSendBuf.RV R) (kvc Tryz.prog 3 Tryz.f61.results.toList (Tryz.f61.body.getD .skip) (seg_NewSendBuf.RV R) [] 2000) [(0, [])] [] w := by kernel_rfl
theorem seg_NewSendBuf.B0_sound {R : Option Addr → World → Prop}   (w : World) (h : seg_NewSendBuf.B0  w   R) :
    KW Tryz.prog 61 3 (seg_NewSendBuf.RV R) ([(0, [])].map (toItem (Tryz.f61.body.getD .skip))) [] w := by
  exact block_spec Tryz.func61 Tryz.mixed stops_nil (Eq.mp (seg_NewSendBuf.B0_eq  w   R ) h)
theorem seg_NewSendBuf.sound  (w : World) (R : Option Addr → World → Prop) (h : seg_NewSendBuf.B0  w R) : seg_NewSendBuf.Call  w R := by
  have hc := calls_of_block (args := #[]) Tryz.func61 (body := (Tryz.f61.body.getD .skip)) (by kernel_rfl) (by kernel_rfl) (args_slot _) (seg_NewSendBuf.B0_sound  w h)
  exact hc.mono fun e w' he => by
    obtain ⟨v, rfl, hv⟩ := he
    exact seg_NewSendBuf.RV_elim hv
def seg_NewRecvBuf.B0  (w : World)   (R : Option Addr → World → Prop) : Prop :=
  New (.cells #[.int .u8 (0 : Int), .int .u8 (0 : Int), .int .u8 (0 : Int), .int .u8 (0 : Int), .int .u8 (0 : Int), .int .u8 (0 : Int), .int .u8 (0 : Int), .int .u8 (0 : Int), .int .u8 (0 : Int), .int .u8 (0 : Int), .int .u8 (0 : Int), .int .u8 (0 : Int), .int .u8 (0 : Int), .int .u8 (0 : Int), .int .u8 (0 : Int), .int .u8 (0 : Int), .int .u8 (0 : Int), .int .i64 (0 : Int), .int .u16 (0 : Int)] 164) w fun b2 w1 =>
  R (some ⟨b2, 0, none⟩) w1
theorem seg_NewRecvBuf.B0_eq  (w : World)   (R : Option Addr → World → Prop)  :
    (
  New (.cells #[.int .u8 (0 : Int), .int .u8 (0 : Int), .int .u8 (0 : Int), .int .u8 (0 : Int), .int .u8 (0 : Int), .int .u8 (0 : Int), .int .u8 (0 : Int), .int .u8 (0 : Int), .int .u8 (0 : Int), .int .u8 (0 : Int), .int .u8 (0 : Int), .int .u8 (0 : Int), .int .u8 (0 : Int), .int .u8 (0 : Int), .int .u8 (0 : Int), .int .u8 (0 : Int), .int .u8 (0 : Int), .int .i64 (0 : Int), .int .u16 (0 : Int)] 164) w fun b2 w1 =>
  R (some ⟨b2, 0, none⟩) w1) = kstep Tryz.prog 3 Tryz.f62.results.toList (Tryz.f62.body.getD .skip) (seg_NewRecvBuf.RV R) (kvc Tryz.prog 3 Tryz.f62.results.toList (Tryz.f62.body.getD .skip) (seg_NewRecvBuf.RV R) [] 2000) [(0, [])] [] w := by kernel_rfl
theorem seg_NewRecvBuf.B0_sound {R : Option Addr → World → Prop}   (w : World) (h : seg_NewRecvBuf.B0  w   R) :
    KW Tryz.prog 62 3 (seg_NewRecvBuf.RV R) ([(0, [])].map (toItem (Tryz.f62.body.getD .skip))) [] w := by
  exact block_spec Tryz.func62 Tryz.mixed stops_nil (Eq.mp (seg_NewRecvBuf.B0_eq  w   R ) h)
theorem seg_NewRecvBuf.sound  (w : World) (R : Option Addr → World → Prop) (h : seg_NewRecvBuf.B0  w R) : seg_NewRecvBuf.Call  w R := by
  have hc := calls_of_block (args := #[]) Tryz.func62 (body := (Tryz.f62.body.getD .skip)) (by kernel_rfl) (by kernel_rfl) (args_slot _) (seg_NewRecvBuf.B0_sound  w h)
  exact hc.mono fun e w' he => by
    obtain ⟨v, rfl, hv⟩ := he
    exact seg_NewRecvBuf.RV_elim hv
def conn_New.B0 (sb rb : Option Addr) (w : World)   (R : Option Addr → World → Prop) : Prop :=
  New (.cells #[.pointer sb, .pointer rb, .int .i64 (0 : Int), .int .i64 (0 : Int), .bool false, .bool false, .bool false, .bool false, .int .i64 (0 : Int), .int .i64 (0 : Int), .int .i64 (0 : Int), .int .i64 (0 : Int), .int .i64 (0 : Int), .int .i64 (0 : Int)] 166) w fun b8 w1 =>
  R (some ⟨b8, 0, none⟩) w1
theorem conn_New.B0_eq (sb rb : Option Addr) (w : World)   (R : Option Addr → World → Prop)  :
    (
  New (.cells #[.pointer sb, .pointer rb, .int .i64 (0 : Int), .int .i64 (0 : Int), .bool false, .bool false, .bool false, .bool false, .int .i64 (0 : Int), .int .i64 (0 : Int), .int .i64 (0 : Int), .int .i64 (0 : Int), .int .i64 (0 : Int), .int .i64 (0 : Int)] 166) w fun b8 w1 =>
  R (some ⟨b8, 0, none⟩) w1) = kstep Tryz.prog 9 Tryz.f63.results.toList (Tryz.f63.body.getD .skip) (conn_New.RV R) (kvc Tryz.prog 9 Tryz.f63.results.toList (Tryz.f63.body.getD .skip) (conn_New.RV R) [] 2000) [(0, [])] [(0, .pointer sb), (1, .pointer rb)] w := by kernel_rfl
theorem conn_New.B0_sound {R : Option Addr → World → Prop}  (sb rb : Option Addr) (w : World) (h : conn_New.B0 sb rb w   R) :
    KW Tryz.prog 63 9 (conn_New.RV R) ([(0, [])].map (toItem (Tryz.f63.body.getD .skip))) [(0, .pointer sb), (1, .pointer rb)] w := by
  exact block_spec Tryz.func63 Tryz.mixed stops_nil (Eq.mp (conn_New.B0_eq sb rb w   R ) h)
theorem conn_New.sound (sb rb : Option Addr) (w : World) (R : Option Addr → World → Prop) (h : conn_New.B0 sb rb w R) : conn_New.Call sb rb w R := by
  have hc := calls_of_block (args := #[.pointer sb, .pointer rb]) Tryz.func63 (body := (Tryz.f63.body.getD .skip)) (by kernel_rfl) (by kernel_rfl) (args_slot _) (conn_New.B0_sound sb rb w h)
  exact hc.mono fun e w' he => by
    obtain ⟨v, rfl, hv⟩ := he
    exact conn_New.RV_elim hv
def sock_Table_List.B1 (t : Option Addr) (n i : Int) (w : World) (N1 : Option Addr → Int → Int → World → Prop)  (R : Option Addr → Nat → Nat → World → Prop) : Prop :=
  N1 t n (IntKind.i64.wrap (i + (1 : Int))) w
theorem sock_Table_List.B1_eq (t : Option Addr) (n i : Int) (w : World) (N1 : Option Addr → Int → Int → World → Prop)  (R : Option Addr → Nat → Nat → World → Prop)  :
    (
  N1 t n (IntKind.i64.wrap (i + (1 : Int))) w) = kstep Tryz.prog 82 Tryz.f64.results.toList (Tryz.f64.body.getD .skip) (sock_Table_List.RV R) (kvc Tryz.prog 82 Tryz.f64.results.toList (Tryz.f64.body.getD .skip) (sock_Table_List.RV R) [([(0, [1, 1, 0, 1, 0, 0]), (2, [1, 1, 0, 1, 0, 0]), (1, [0]), (0, [1, 1, 1])], fun σ w => dP (slotOf σ 0) fun t_ => dI .i64 (slotOf σ 3) fun n_ => dI .i64 (slotOf σ 4) fun i_ => N1 t_ n_ i_ w)] 2000) [(0, [1, 1, 0, 1, 0, 0, 1, 1]), (2, [1, 1, 0, 1, 0, 0]), (1, [0]), (0, [1, 1, 1])] [(0, .pointer t), (3, .int .i64 n), (4, .int .i64 i)] w := by kernel_rfl
theorem sock_Table_List.B1_sound {R : Option Addr → Nat → Nat → World → Prop} {N1 : Option Addr → Int → Int → World → Prop} (hN1 : ∀ t n i w, N1 t n i w → KW Tryz.prog 64 82 (sock_Table_List.RV R) ([(0, [1, 1, 0, 1, 0, 0]), (2, [1, 1, 0, 1, 0, 0]), (1, [0]), (0, [1, 1, 1])].map (toItem (Tryz.f64.body.getD .skip))) [(0, .pointer t), (3, .int .i64 n), (4, .int .i64 i)] w) (t : Option Addr) (n i : Int) (w : World) (h : sock_Table_List.B1 t n i w N1  R) :
    KW Tryz.prog 64 82 (sock_Table_List.RV R) ([(0, [1, 1, 0, 1, 0, 0, 1, 1]), (2, [1, 1, 0, 1, 0, 0]), (1, [0]), (0, [1, 1, 1])].map (toItem (Tryz.f64.body.getD .skip))) [(0, .pointer t), (3, .int .i64 n), (4, .int .i64 i)] w := by
  exact block_spec Tryz.func64 Tryz.mixed (stops_cons (fun σ w h => by
      obtain ⟨t_, e0, h⟩ := dP_elim h
      obtain ⟨n_, e1, h⟩ := dI_elim h
      obtain ⟨i_, e2, h⟩ := dI_elim h
      exact (hN1 t_ n_ i_ w h).weaken (Sub.cons (Sub.cons (Sub.cons (Sub.nil _) e2) e1) e0)) stops_nil) (Eq.mp (sock_Table_List.B1_eq t n i w N1  R ) h)
def sock_Table_List.B2 (t out_b : Option Addr) (out_l out_c : Nat) (k i j : Int) (t60 : Bool) (w : World) (N2 : Option Addr → Option Addr → Nat → Nat → Int → Int → World → Prop) (N3 : Option Addr → Option Addr → Nat → Nat → Int → Int → Int → World → Prop)  (R : Option Addr → Nat → Nat → World → Prop) : Prop :=
  Bm t60 (
    Pn out_b fun a =>
    (0 ≤ j ∧ j < ((out_l : Nat) : Int)) ∧
    LdI .i64 (Addr.add a (j.toNat * 1)) w.drew fun x71 =>
    Pn out_b fun a_1 =>
    (0 ≤ (IntKind.i64.wrap (j - (1 : Int))) ∧ (IntKind.i64.wrap (j - (1 : Int))) < ((out_l : Nat) : Int)) ∧
    LdI .i64 (Addr.add a_1 ((IntKind.i64.wrap (j - (1 : Int))).toNat * 1)) w.drew fun x76 =>
    Pn out_b fun a_2 =>
    (0 ≤ (IntKind.i64.wrap (j - (1 : Int))) ∧ (IntKind.i64.wrap (j - (1 : Int))) < ((out_l : Nat) : Int)) ∧
    Sts [.int .i64 x71] (Addr.add a_2 ((IntKind.i64.wrap (j - (1 : Int))).toNat * 1)) 0 w.drew fun w1 =>
    Pn out_b fun a_3 =>
    (0 ≤ j ∧ j < ((out_l : Nat) : Int)) ∧
    Sts [.int .i64 x76] (Addr.add a_3 (j.toNat * 1)) 0 w1 fun w2 =>
    N3 t out_b out_l out_c k i (IntKind.i64.wrap (j - (1 : Int))) w2) (
    N2 t out_b out_l out_c (IntKind.i64.wrap (k + (1 : Int))) (IntKind.i64.wrap (i + (1 : Int))) w)
theorem sock_Table_List.B2_eq (t out_b : Option Addr) (out_l out_c : Nat) (k i j : Int) (t60 : Bool) (w : World) (N2 : Option Addr → Option Addr → Nat → Nat → Int → Int → World → Prop) (N3 : Option Addr → Option Addr → Nat → Nat → Int → Int → Int → World → Prop)  (R : Option Addr → Nat → Nat → World → Prop)  :
    (
  Bm t60 (
    Pn out_b fun a =>
    (0 ≤ j ∧ j < ((out_l : Nat) : Int)) ∧
    LdI .i64 (Addr.add a (j.toNat * 1)) w.drew fun x71 =>
    Pn out_b fun a_1 =>
    (0 ≤ (IntKind.i64.wrap (j - (1 : Int))) ∧ (IntKind.i64.wrap (j - (1 : Int))) < ((out_l : Nat) : Int)) ∧
    LdI .i64 (Addr.add a_1 ((IntKind.i64.wrap (j - (1 : Int))).toNat * 1)) w.drew fun x76 =>
    Pn out_b fun a_2 =>
    (0 ≤ (IntKind.i64.wrap (j - (1 : Int))) ∧ (IntKind.i64.wrap (j - (1 : Int))) < ((out_l : Nat) : Int)) ∧
    Sts [.int .i64 x71] (Addr.add a_2 ((IntKind.i64.wrap (j - (1 : Int))).toNat * 1)) 0 w.drew fun w1 =>
    Pn out_b fun a_3 =>
    (0 ≤ j ∧ j < ((out_l : Nat) : Int)) ∧
    Sts [.int .i64 x76] (Addr.add a_3 (j.toNat * 1)) 0 w1 fun w2 =>
    N3 t out_b out_l out_c k i (IntKind.i64.wrap (j - (1 : Int))) w2) (
    N2 t out_b out_l out_c (IntKind.i64.wrap (k + (1 : Int))) (IntKind.i64.wrap (i + (1 : Int))) w)) = kstep Tryz.prog 82 Tryz.f64.results.toList (Tryz.f64.body.getD .skip) (sock_Table_List.RV R) (kvc Tryz.prog 82 Tryz.f64.results.toList (Tryz.f64.body.getD .skip) (sock_Table_List.RV R) [([(0, [1, 1, 1, 1, 1, 0, 1, 0, 0, 1, 0, 0, 1, 0, 1, 0, 1, 0, 0]), (2, [1, 1, 1, 1, 1, 0, 1, 0, 0, 1, 0, 0, 1, 0, 1, 0, 1, 0, 0]), (1, [4]), (0, [1, 1, 1, 1, 1, 0, 1, 0, 0, 1, 0, 0, 1, 0, 1, 1]), (1, [3]), (0, [1, 1, 1, 1, 1, 0, 1, 0, 0, 1, 1]), (2, [1, 1, 1, 1, 1, 0, 1, 0, 0]), (1, [2]), (0, [1, 1, 1, 1, 1, 1])], fun σ w => dP (slotOf σ 0) fun t_ => dL (slotOf σ 5) fun out_b_ out_l_ out_c_ => dI .i64 (slotOf σ 6) fun k_ => dI .i64 (slotOf σ 7) fun i_ => dI .i64 (slotOf σ 8) fun j_ => N3 t_ out_b_ out_l_ out_c_ k_ i_ j_ w),
    ([(0, [1, 1, 1, 1, 1, 0, 1, 0, 0]), (2, [1, 1, 1, 1, 1, 0, 1, 0, 0]), (1, [2]), (0, [1, 1, 1, 1, 1, 1])], fun σ w => dP (slotOf σ 0) fun t_ => dL (slotOf σ 5) fun out_b_ out_l_ out_c_ => dI .i64 (slotOf σ 6) fun k_ => dI .i64 (slotOf σ 7) fun i_ => N2 t_ out_b_ out_l_ out_c_ k_ i_ w)] 2000) [(0, [1, 1, 1, 1, 1, 0, 1, 0, 0, 1, 0, 0, 1, 0, 1, 0, 1, 0, 0, 0, 1]), (0, [1, 1, 1, 1, 1, 0, 1, 0, 0, 1, 0, 0, 1, 0, 1, 0, 1, 0, 0, 1]), (2, [1, 1, 1, 1, 1, 0, 1, 0, 0, 1, 0, 0, 1, 0, 1, 0, 1, 0, 0]), (1, [4]), (0, [1, 1, 1, 1, 1, 0, 1, 0, 0, 1, 0, 0, 1, 0, 1, 1]), (1, [3]), (0, [1, 1, 1, 1, 1, 0, 1, 0, 0, 1, 1]), (2, [1, 1, 1, 1, 1, 0, 1, 0, 0]), (1, [2]), (0, [1, 1, 1, 1, 1, 1])] [(0, .pointer t), (5, .slice out_b out_l out_c), (6, .int .i64 k), (7, .int .i64 i), (8, .int .i64 j), (60, .bool t60)] w := by kernel_rfl
theorem sock_Table_List.B2_sound {R : Option Addr → Nat → Nat → World → Prop} {N2 : Option Addr → Option Addr → Nat → Nat → Int → Int → World → Prop} (hN2 : ∀ t out_b out_l out_c k i w, N2 t out_b out_l out_c k i w → KW Tryz.prog 64 82 (sock_Table_List.RV R) ([(0, [1, 1, 1, 1, 1, 0, 1, 0, 0]), (2, [1, 1, 1, 1, 1, 0, 1, 0, 0]), (1, [2]), (0, [1, 1, 1, 1, 1, 1])].map (toItem (Tryz.f64.body.getD .skip))) [(0, .pointer t), (5, .slice out_b out_l out_c), (6, .int .i64 k), (7, .int .i64 i)] w) {N3 : Option Addr → Option Addr → Nat → Nat → Int → Int → Int → World → Prop} (hN3 : ∀ t out_b out_l out_c k i j w, N3 t out_b out_l out_c k i j w → KW Tryz.prog 64 82 (sock_Table_List.RV R) ([(0, [1, 1, 1, 1, 1, 0, 1, 0, 0, 1, 0, 0, 1, 0, 1, 0, 1, 0, 0]), (2, [1, 1, 1, 1, 1, 0, 1, 0, 0, 1, 0, 0, 1, 0, 1, 0, 1, 0, 0]), (1, [4]), (0, [1, 1, 1, 1, 1, 0, 1, 0, 0, 1, 0, 0, 1, 0, 1, 1]), (1, [3]), (0, [1, 1, 1, 1, 1, 0, 1, 0, 0, 1, 1]), (2, [1, 1, 1, 1, 1, 0, 1, 0, 0]), (1, [2]), (0, [1, 1, 1, 1, 1, 1])].map (toItem (Tryz.f64.body.getD .skip))) [(0, .pointer t), (5, .slice out_b out_l out_c), (6, .int .i64 k), (7, .int .i64 i), (8, .int .i64 j)] w) (t out_b : Option Addr) (out_l out_c : Nat) (k i j : Int) (t60 : Bool) (w : World) (h : sock_Table_List.B2 t out_b out_l out_c k i j t60 w N2 N3  R) :
    KW Tryz.prog 64 82 (sock_Table_List.RV R) ([(0, [1, 1, 1, 1, 1, 0, 1, 0, 0, 1, 0, 0, 1, 0, 1, 0, 1, 0, 0, 0, 1]), (0, [1, 1, 1, 1, 1, 0, 1, 0, 0, 1, 0, 0, 1, 0, 1, 0, 1, 0, 0, 1]), (2, [1, 1, 1, 1, 1, 0, 1, 0, 0, 1, 0, 0, 1, 0, 1, 0, 1, 0, 0]), (1, [4]), (0, [1, 1, 1, 1, 1, 0, 1, 0, 0, 1, 0, 0, 1, 0, 1, 1]), (1, [3]), (0, [1, 1, 1, 1, 1, 0, 1, 0, 0, 1, 1]), (2, [1, 1, 1, 1, 1, 0, 1, 0, 0]), (1, [2]), (0, [1, 1, 1, 1, 1, 1])].map (toItem (Tryz.f64.body.getD .skip))) [(0, .pointer t), (5, .slice out_b out_l out_c), (6, .int .i64 k), (7, .int .i64 i), (8, .int .i64 j), (60, .bool t60)] w := by
  exact block_spec Tryz.func64 Tryz.mixed (stops_cons (fun σ w h => by
      obtain ⟨t_, e0, h⟩ := dP_elim h
      obtain ⟨out_b_, out_l_, out_c_, e1, h⟩ := dL_elim h
      obtain ⟨k_, e2, h⟩ := dI_elim h
      obtain ⟨i_, e3, h⟩ := dI_elim h
      obtain ⟨j_, e4, h⟩ := dI_elim h
      exact (hN3 t_ out_b_ out_l_ out_c_ k_ i_ j_ w h).weaken (Sub.cons (Sub.cons (Sub.cons (Sub.cons (Sub.cons (Sub.nil _) e4) e3) e2) e1) e0)) (stops_cons (fun σ w h => by
      obtain ⟨t_, e0, h⟩ := dP_elim h
      obtain ⟨out_b_, out_l_, out_c_, e1, h⟩ := dL_elim h
      obtain ⟨k_, e2, h⟩ := dI_elim h
      obtain ⟨i_, e3, h⟩ := dI_elim h
      exact (hN2 t_ out_b_ out_l_ out_c_ k_ i_ w h).weaken (Sub.cons (Sub.cons (Sub.cons (Sub.cons (Sub.nil _) e3) e2) e1) e0)) stops_nil)) (Eq.mp (sock_Table_List.B2_eq t out_b out_l out_c k i j t60 w N2 N3  R ) h)
def sock_Table_List.L3b (t out_b : Option Addr) (out_l out_c : Nat) (k i j : Int) (w : World) (N2 : Option Addr → Option Addr → Nat → Nat → Int → Int → World → Prop) (N3 : Option Addr → Option Addr → Nat → Nat → Int → Int → Int → World → Prop) (R : Option Addr → Nat → Nat → World → Prop) : Prop :=
  Bm (decide (j > (0 : Int))) (
    Pn out_b fun a =>
    (0 ≤ (IntKind.i64.wrap (j - (1 : Int))) ∧ (IntKind.i64.wrap (j - (1 : Int))) < ((out_l : Nat) : Int)) ∧
    LdI .i64 (Addr.add a ((IntKind.i64.wrap (j - (1 : Int))).toNat * 1)) w.drew fun x54 =>
    Pn out_b fun a_1 =>
    (0 ≤ j ∧ j < ((out_l : Nat) : Int)) ∧
    LdI .i64 (Addr.add a_1 (j.toNat * 1)) w.drew fun x58 =>
    sock_Table_List.B2 t out_b out_l out_c k i j (decide (x54 > x58)) w.drew N2 N3 R) (
    sock_Table_List.B2 t out_b out_l out_c k i j false w.drew N2 N3 R)
theorem sock_Table_List.L3b_eq (t out_b : Option Addr) (out_l out_c : Nat) (k i j : Int) (w : World) (N2 : Option Addr → Option Addr → Nat → Nat → Int → Int → World → Prop) (N3 : Option Addr → Option Addr → Nat → Nat → Int → Int → Int → World → Prop) (R : Option Addr → Nat → Nat → World → Prop) (sB2 : Option Addr → Option Addr → Nat → Nat → Int → Int → Int → Bool → World → Prop) :
    (
  Bm (decide (j > (0 : Int))) (
    Pn out_b fun a =>
    (0 ≤ (IntKind.i64.wrap (j - (1 : Int))) ∧ (IntKind.i64.wrap (j - (1 : Int))) < ((out_l : Nat) : Int)) ∧
    LdI .i64 (Addr.add a ((IntKind.i64.wrap (j - (1 : Int))).toNat * 1)) w.drew fun x54 =>
    Pn out_b fun a_1 =>
    (0 ≤ j ∧ j < ((out_l : Nat) : Int)) ∧
    LdI .i64 (Addr.add a_1 (j.toNat * 1)) w.drew fun x58 =>
    sB2 t out_b out_l out_c k i j (decide (x54 > x58)) w.drew) (
    sB2 t out_b out_l out_c k i j false w.drew)) = kstep Tryz.prog 82 Tryz.f64.results.toList (Tryz.f64.body.getD .skip) (sock_Table_List.RV R) (kvc Tryz.prog 82 Tryz.f64.results.toList (Tryz.f64.body.getD .skip) (sock_Table_List.RV R) [([(0, [1, 1, 1, 1, 1, 0, 1, 0, 0, 1, 0, 0, 1, 0, 1, 0, 1, 0, 0, 0, 1]), (0, [1, 1, 1, 1, 1, 0, 1, 0, 0, 1, 0, 0, 1, 0, 1, 0, 1, 0, 0, 1]), (2, [1, 1, 1, 1, 1, 0, 1, 0, 0, 1, 0, 0, 1, 0, 1, 0, 1, 0, 0]), (1, [4]), (0, [1, 1, 1, 1, 1, 0, 1, 0, 0, 1, 0, 0, 1, 0, 1, 1]), (1, [3]), (0, [1, 1, 1, 1, 1, 0, 1, 0, 0, 1, 1]), (2, [1, 1, 1, 1, 1, 0, 1, 0, 0]), (1, [2]), (0, [1, 1, 1, 1, 1, 1])], fun σ w => dP (slotOf σ 0) fun t_ => dL (slotOf σ 5) fun out_b_ out_l_ out_c_ => dI .i64 (slotOf σ 6) fun k_ => dI .i64 (slotOf σ 7) fun i_ => dI .i64 (slotOf σ 8) fun j_ => dB (slotOf σ 60) fun t60_ => sB2 t_ out_b_ out_l_ out_c_ k_ i_ j_ t60_ w)] 2000) [(0, [1, 1, 1, 1, 1, 0, 1, 0, 0, 1, 0, 0, 1, 0, 1, 0, 1, 0, 0]), (2, [1, 1, 1, 1, 1, 0, 1, 0, 0, 1, 0, 0, 1, 0, 1, 0, 1, 0, 0]), (1, [4]), (0, [1, 1, 1, 1, 1, 0, 1, 0, 0, 1, 0, 0, 1, 0, 1, 1]), (1, [3]), (0, [1, 1, 1, 1, 1, 0, 1, 0, 0, 1, 1]), (2, [1, 1, 1, 1, 1, 0, 1, 0, 0]), (1, [2]), (0, [1, 1, 1, 1, 1, 1])] [(0, .pointer t), (5, .slice out_b out_l out_c), (6, .int .i64 k), (7, .int .i64 i), (8, .int .i64 j)] w := by kernel_rfl
theorem sock_Table_List.L3b_sound {R : Option Addr → Nat → Nat → World → Prop} {N2 : Option Addr → Option Addr → Nat → Nat → Int → Int → World → Prop} (hN2 : ∀ t out_b out_l out_c k i w, N2 t out_b out_l out_c k i w → KW Tryz.prog 64 82 (sock_Table_List.RV R) ([(0, [1, 1, 1, 1, 1, 0, 1, 0, 0]), (2, [1, 1, 1, 1, 1, 0, 1, 0, 0]), (1, [2]), (0, [1, 1, 1, 1, 1, 1])].map (toItem (Tryz.f64.body.getD .skip))) [(0, .pointer t), (5, .slice out_b out_l out_c), (6, .int .i64 k), (7, .int .i64 i)] w) {N3 : Option Addr → Option Addr → Nat → Nat → Int → Int → Int → World → Prop} (hN3 : ∀ t out_b out_l out_c k i j w, N3 t out_b out_l out_c k i j w → KW Tryz.prog 64 82 (sock_Table_List.RV R) ([(0, [1, 1, 1, 1, 1, 0, 1, 0, 0, 1, 0, 0, 1, 0, 1, 0, 1, 0, 0]), (2, [1, 1, 1, 1, 1, 0, 1, 0, 0, 1, 0, 0, 1, 0, 1, 0, 1, 0, 0]), (1, [4]), (0, [1, 1, 1, 1, 1, 0, 1, 0, 0, 1, 0, 0, 1, 0, 1, 1]), (1, [3]), (0, [1, 1, 1, 1, 1, 0, 1, 0, 0, 1, 1]), (2, [1, 1, 1, 1, 1, 0, 1, 0, 0]), (1, [2]), (0, [1, 1, 1, 1, 1, 1])].map (toItem (Tryz.f64.body.getD .skip))) [(0, .pointer t), (5, .slice out_b out_l out_c), (6, .int .i64 k), (7, .int .i64 i), (8, .int .i64 j)] w) (t out_b : Option Addr) (out_l out_c : Nat) (k i j : Int) (w : World) (h : sock_Table_List.L3b t out_b out_l out_c k i j w N2 N3 R) :
    KW Tryz.prog 64 82 (sock_Table_List.RV R) ([(0, [1, 1, 1, 1, 1, 0, 1, 0, 0, 1, 0, 0, 1, 0, 1, 0, 1, 0, 0]), (2, [1, 1, 1, 1, 1, 0, 1, 0, 0, 1, 0, 0, 1, 0, 1, 0, 1, 0, 0]), (1, [4]), (0, [1, 1, 1, 1, 1, 0, 1, 0, 0, 1, 0, 0, 1, 0, 1, 1]), (1, [3]), (0, [1, 1, 1, 1, 1, 0, 1, 0, 0, 1, 1]), (2, [1, 1, 1, 1, 1, 0, 1, 0, 0]), (1, [2]), (0, [1, 1, 1, 1, 1, 1])].map (toItem (Tryz.f64.body.getD .skip))) [(0, .pointer t), (5, .slice out_b out_l out_c), (6, .int .i64 k), (7, .int .i64 i), (8, .int .i64 j)] w := by
  exact block_spec Tryz.func64 Tryz.mixed (stops_cons (fun σ w h => by
      obtain ⟨t_, e0, h⟩ := dP_elim h
      obtain ⟨out_b_, out_l_, out_c_, e1, h⟩ := dL_elim h
      obtain ⟨k_, e2, h⟩ := dI_elim h
      obtain ⟨i_, e3, h⟩ := dI_elim h
      obtain ⟨j_, e4, h⟩ := dI_elim h
      obtain ⟨t60_, e5, h⟩ := dB_elim h
      exact (sock_Table_List.B2_sound hN2 hN3 t_ out_b_ out_l_ out_c_ k_ i_ j_ t60_ w h).weaken (Sub.cons (Sub.cons (Sub.cons (Sub.cons (Sub.cons (Sub.cons (Sub.nil _) e5) e4) e3) e2) e1) e0)) stops_nil) (Eq.mp (sock_Table_List.L3b_eq t out_b out_l out_c k i j w N2 N3 R (fun t_ out_b_ out_l_ out_c_ k_ i_ j_ t60_ w => sock_Table_List.B2 t_ out_b_ out_l_ out_c_ k_ i_ j_ t60_ w N2 N3 R)) h)
def sock_Table_List.L3 (t out_b : Option Addr) (out_l out_c : Nat) (k i j : Int) (w : World) (N2 : Option Addr → Option Addr → Nat → Nat → Int → Int → World → Prop) (R : Option Addr → Nat → Nat → World → Prop) : Prop :=
  ∃ (I : Nat → Option Addr → Option Addr → Nat → Nat → Int → Int → Int → World → Prop) (m : Nat), I m t out_b out_l out_c k i j w ∧ ∀ m t out_b out_l out_c k i j w, I m t out_b out_l out_c k i j w → sock_Table_List.L3b t out_b out_l out_c k i j w N2 (fun t' out_b' out_l' out_c' k' i' j' w' => ∃ m', m' < m ∧ I m' t' out_b' out_l' out_c' k' i' j' w') R
theorem sock_Table_List.L3_sound {R : Option Addr → Nat → Nat → World → Prop} {N2 : Option Addr → Option Addr → Nat → Nat → Int → Int → World → Prop} (hN2 : ∀ t out_b out_l out_c k i w, N2 t out_b out_l out_c k i w → KW Tryz.prog 64 82 (sock_Table_List.RV R) ([(0, [1, 1, 1, 1, 1, 0, 1, 0, 0]), (2, [1, 1, 1, 1, 1, 0, 1, 0, 0]), (1, [2]), (0, [1, 1, 1, 1, 1, 1])].map (toItem (Tryz.f64.body.getD .skip))) [(0, .pointer t), (5, .slice out_b out_l out_c), (6, .int .i64 k), (7, .int .i64 i)] w) (t out_b : Option Addr) (out_l out_c : Nat) (k i j : Int) (w : World) (h : sock_Table_List.L3 t out_b out_l out_c k i j w N2 R) :
    KW Tryz.prog 64 82 (sock_Table_List.RV R) ([(0, [1, 1, 1, 1, 1, 0, 1, 0, 0, 1, 0, 0, 1, 0, 1, 0, 1, 0, 0]), (2, [1, 1, 1, 1, 1, 0, 1, 0, 0, 1, 0, 0, 1, 0, 1, 0, 1, 0, 0]), (1, [4]), (0, [1, 1, 1, 1, 1, 0, 1, 0, 0, 1, 0, 0, 1, 0, 1, 1]), (1, [3]), (0, [1, 1, 1, 1, 1, 0, 1, 0, 0, 1, 1]), (2, [1, 1, 1, 1, 1, 0, 1, 0, 0]), (1, [2]), (0, [1, 1, 1, 1, 1, 1])].map (toItem (Tryz.f64.body.getD .skip))) [(0, .pointer t), (5, .slice out_b out_l out_c), (6, .int .i64 k), (7, .int .i64 i), (8, .int .i64 j)] w := by
  obtain ⟨I, m, hBase, hr⟩ := h
  refine KW.loop (fun m σ w => ∃ (t out_b : Option Addr) (out_l out_c : Nat) (k i j : Int), σ = [(0, .pointer t), (5, .slice out_b out_l out_c), (6, .int .i64 k), (7, .int .i64 i), (8, .int .i64 j)] ∧ I m t out_b out_l out_c k i j w) ?_ m _ w ⟨t, out_b, out_l, out_c, k, i, j, rfl, hBase⟩
  rintro m ih σ w ⟨t, out_b, out_l, out_c, k, i, j, rfl, hI⟩
  exact sock_Table_List.L3b_sound hN2 (N3 := fun t' out_b' out_l' out_c' k' i' j' w' => ∃ m', m' < m ∧ I m' t' out_b' out_l' out_c' k' i' j' w') (fun t' out_b' out_l' out_c' k' i' j' w' hx => by obtain ⟨m', hlt, hI'⟩ := hx; exact ih m' hlt _ w' ⟨t', out_b', out_l', out_c', k', i', j', rfl, hI'⟩) t out_b out_l out_c k i j w (hr m t out_b out_l out_c k i j w hI)
def sock_Table_List.L2b (t out_b : Option Addr) (out_l out_c : Nat) (k i : Int) (w : World)  (N2 : Option Addr → Option Addr → Nat → Nat → Int → Int → World → Prop) (R : Option Addr → Nat → Nat → World → Prop) : Prop :=
  Bm (decide (i < (6 : Int))) (
    Pn t fun a =>
    (0 ≤ i ∧ i < ((6 : Nat) : Int)) ∧
    LdB (Addr.add a (i.toNat * 15)) w fun x34 =>
    Bm x34 (
      Pn t fun a_1 =>
      (0 ≤ i ∧ i < ((6 : Nat) : Int)) ∧
      LdI .i64 ((Addr.add a_1 (i.toNat * 15)).add 1) w fun x44 =>
      Pn out_b fun a_2 =>
      (0 ≤ k ∧ k < ((out_l : Nat) : Int)) ∧
      Sts [.int .i64 x44] (Addr.add a_2 (k.toNat * 1)) 0 w fun w1 =>
      sock_Table_List.L3 t out_b out_l out_c k i k w1 N2 R) (
      N2 t out_b out_l out_c k (IntKind.i64.wrap (i + (1 : Int))) w)) (
    R out_b out_l out_c w)
theorem sock_Table_List.L2b_eq (t out_b : Option Addr) (out_l out_c : Nat) (k i : Int) (w : World)  (N2 : Option Addr → Option Addr → Nat → Nat → Int → Int → World → Prop) (R : Option Addr → Nat → Nat → World → Prop) (sL3 : Option Addr → Option Addr → Nat → Nat → Int → Int → Int → World → Prop) :
    (
  Bm (decide (i < (6 : Int))) (
    Pn t fun a =>
    (0 ≤ i ∧ i < ((6 : Nat) : Int)) ∧
    LdB (Addr.add a (i.toNat * 15)) w fun x34 =>
    Bm x34 (
      Pn t fun a_1 =>
      (0 ≤ i ∧ i < ((6 : Nat) : Int)) ∧
      LdI .i64 ((Addr.add a_1 (i.toNat * 15)).add 1) w fun x44 =>
      Pn out_b fun a_2 =>
      (0 ≤ k ∧ k < ((out_l : Nat) : Int)) ∧
      Sts [.int .i64 x44] (Addr.add a_2 (k.toNat * 1)) 0 w fun w1 =>
      sL3 t out_b out_l out_c k i k w1) (
      N2 t out_b out_l out_c k (IntKind.i64.wrap (i + (1 : Int))) w)) (
    R out_b out_l out_c w)) = kstep Tryz.prog 82 Tryz.f64.results.toList (Tryz.f64.body.getD .skip) (sock_Table_List.RV R) (kvc Tryz.prog 82 Tryz.f64.results.toList (Tryz.f64.body.getD .skip) (sock_Table_List.RV R) [([(0, [1, 1, 1, 1, 1, 0, 1, 0, 0, 1, 0, 0, 1, 0, 1, 0, 1, 0, 0]), (2, [1, 1, 1, 1, 1, 0, 1, 0, 0, 1, 0, 0, 1, 0, 1, 0, 1, 0, 0]), (1, [4]), (0, [1, 1, 1, 1, 1, 0, 1, 0, 0, 1, 0, 0, 1, 0, 1, 1]), (1, [3]), (0, [1, 1, 1, 1, 1, 0, 1, 0, 0, 1, 1]), (2, [1, 1, 1, 1, 1, 0, 1, 0, 0]), (1, [2]), (0, [1, 1, 1, 1, 1, 1])], fun σ w => dP (slotOf σ 0) fun t_ => dL (slotOf σ 5) fun out_b_ out_l_ out_c_ => dI .i64 (slotOf σ 6) fun k_ => dI .i64 (slotOf σ 7) fun i_ => dI .i64 (slotOf σ 8) fun j_ => sL3 t_ out_b_ out_l_ out_c_ k_ i_ j_ w),
    ([(0, [1, 1, 1, 1, 1, 0, 1, 0, 0]), (2, [1, 1, 1, 1, 1, 0, 1, 0, 0]), (1, [2]), (0, [1, 1, 1, 1, 1, 1])], fun σ w => dP (slotOf σ 0) fun t_ => dL (slotOf σ 5) fun out_b_ out_l_ out_c_ => dI .i64 (slotOf σ 6) fun k_ => dI .i64 (slotOf σ 7) fun i_ => N2 t_ out_b_ out_l_ out_c_ k_ i_ w)] 2000) [(0, [1, 1, 1, 1, 1, 0, 1, 0, 0]), (2, [1, 1, 1, 1, 1, 0, 1, 0, 0]), (1, [2]), (0, [1, 1, 1, 1, 1, 1])] [(0, .pointer t), (5, .slice out_b out_l out_c), (6, .int .i64 k), (7, .int .i64 i)] w := by kernel_rfl
theorem sock_Table_List.L2b_sound {R : Option Addr → Nat → Nat → World → Prop} {N2 : Option Addr → Option Addr → Nat → Nat → Int → Int → World → Prop} (hN2 : ∀ t out_b out_l out_c k i w, N2 t out_b out_l out_c k i w → KW Tryz.prog 64 82 (sock_Table_List.RV R) ([(0, [1, 1, 1, 1, 1, 0, 1, 0, 0]), (2, [1, 1, 1, 1, 1, 0, 1, 0, 0]), (1, [2]), (0, [1, 1, 1, 1, 1, 1])].map (toItem (Tryz.f64.body.getD .skip))) [(0, .pointer t), (5, .slice out_b out_l out_c), (6, .int .i64 k), (7, .int .i64 i)] w) (t out_b : Option Addr) (out_l out_c : Nat) (k i : Int) (w : World) (h : sock_Table_List.L2b t out_b out_l out_c k i w  N2 R) :
    KW Tryz.prog 64 82 (sock_Table_List.RV R) ([(0, [1, 1, 1, 1, 1, 0, 1, 0, 0]), (2, [1, 1, 1, 1, 1, 0, 1, 0, 0]), (1, [2]), (0, [1, 1, 1, 1, 1, 1])].map (toItem (Tryz.f64.body.getD .skip))) [(0, .pointer t), (5, .slice out_b out_l out_c), (6, .int .i64 k), (7, .int .i64 i)] w := by
  exact block_spec Tryz.func64 Tryz.mixed (stops_cons (fun σ w h => by
      obtain ⟨t_, e0, h⟩ := dP_elim h
      obtain ⟨out_b_, out_l_, out_c_, e1, h⟩ := dL_elim h
      obtain ⟨k_, e2, h⟩ := dI_elim h
      obtain ⟨i_, e3, h⟩ := dI_elim h
      obtain ⟨j_, e4, h⟩ := dI_elim h
      exact (sock_Table_List.L3_sound hN2 t_ out_b_ out_l_ out_c_ k_ i_ j_ w h).weaken (Sub.cons (Sub.cons (Sub.cons (Sub.cons (Sub.cons (Sub.nil _) e4) e3) e2) e1) e0)) (stops_cons (fun σ w h => by
      obtain ⟨t_, e0, h⟩ := dP_elim h
      obtain ⟨out_b_, out_l_, out_c_, e1, h⟩ := dL_elim h
      obtain ⟨k_, e2, h⟩ := dI_elim h
      obtain ⟨i_, e3, h⟩ := dI_elim h
      exact (hN2 t_ out_b_ out_l_ out_c_ k_ i_ w h).weaken (Sub.cons (Sub.cons (Sub.cons (Sub.cons (Sub.nil _) e3) e2) e1) e0)) stops_nil)) (Eq.mp (sock_Table_List.L2b_eq t out_b out_l out_c k i w  N2 R (fun t_ out_b_ out_l_ out_c_ k_ i_ j_ w => sock_Table_List.L3 t_ out_b_ out_l_ out_c_ k_ i_ j_ w N2 R)) h)
def sock_Table_List.L2 (t out_b : Option Addr) (out_l out_c : Nat) (k i : Int) (w : World)  (R : Option Addr → Nat → Nat → World → Prop) : Prop :=
  ∃ (I : Nat → Option Addr → Option Addr → Nat → Nat → Int → Int → World → Prop) (m : Nat), I m t out_b out_l out_c k i w ∧ ∀ m t out_b out_l out_c k i w, I m t out_b out_l out_c k i w → sock_Table_List.L2b t out_b out_l out_c k i w  (fun t' out_b' out_l' out_c' k' i' w' => ∃ m', m' < m ∧ I m' t' out_b' out_l' out_c' k' i' w') R
theorem sock_Table_List.L2_sound {R : Option Addr → Nat → Nat → World → Prop}  (t out_b : Option Addr) (out_l out_c : Nat) (k i : Int) (w : World) (h : sock_Table_List.L2 t out_b out_l out_c k i w  R) :
    KW Tryz.prog 64 82 (sock_Table_List.RV R) ([(0, [1, 1, 1, 1, 1, 0, 1, 0, 0]), (2, [1, 1, 1, 1, 1, 0, 1, 0, 0]), (1, [2]), (0, [1, 1, 1, 1, 1, 1])].map (toItem (Tryz.f64.body.getD .skip))) [(0, .pointer t), (5, .slice out_b out_l out_c), (6, .int .i64 k), (7, .int .i64 i)] w := by
  obtain ⟨I, m, hBase, hr⟩ := h
  refine KW.loop (fun m σ w => ∃ (t out_b : Option Addr) (out_l out_c : Nat) (k i : Int), σ = [(0, .pointer t), (5, .slice out_b out_l out_c), (6, .int .i64 k), (7, .int .i64 i)] ∧ I m t out_b out_l out_c k i w) ?_ m _ w ⟨t, out_b, out_l, out_c, k, i, rfl, hBase⟩
  rintro m ih σ w ⟨t, out_b, out_l, out_c, k, i, rfl, hI⟩
  exact sock_Table_List.L2b_sound  (N2 := fun t' out_b' out_l' out_c' k' i' w' => ∃ m', m' < m ∧ I m' t' out_b' out_l' out_c' k' i' w') (fun t' out_b' out_l' out_c' k' i' w' hx => by obtain ⟨m', hlt, hI'⟩ := hx; exact ih m' hlt _ w' ⟨t', out_b', out_l', out_c', k', i', rfl, hI'⟩) t out_b out_l out_c k i w (hr m t out_b out_l out_c k i w hI)
def sock_Table_List.L1b (t : Option Addr) (n i : Int) (w : World)  (N1 : Option Addr → Int → Int → World → Prop) (R : Option Addr → Nat → Nat → World → Prop) : Prop :=
  Bm (decide (i < (6 : Int))) (
    Pn t fun a =>
    (0 ≤ i ∧ i < ((6 : Nat) : Int)) ∧
    LdB (Addr.add a (i.toNat * 15)) w fun x19 =>
    Bm x19 (
      sock_Table_List.B1 t (IntKind.i64.wrap (n + (1 : Int))) i w N1 R) (
      sock_Table_List.B1 t n i w N1 R)) (
    Make 3 (.int .i64 (0 : Int)) 1 8 n n w fun b23 w1 =>
    sock_Table_List.L2 t (some ⟨b23, 0, none⟩) n.toNat n.toNat (0 : Int) (0 : Int) w1  R)
theorem sock_Table_List.L1b_eq (t : Option Addr) (n i : Int) (w : World)  (N1 : Option Addr → Int → Int → World → Prop) (R : Option Addr → Nat → Nat → World → Prop) (sB1 : Option Addr → Int → Int → World → Prop) (sL2 : Option Addr → Option Addr → Nat → Nat → Int → Int → World → Prop) :
    (
  Bm (decide (i < (6 : Int))) (
    Pn t fun a =>
    (0 ≤ i ∧ i < ((6 : Nat) : Int)) ∧
    LdB (Addr.add a (i.toNat * 15)) w fun x19 =>
    Bm x19 (
      sB1 t (IntKind.i64.wrap (n + (1 : Int))) i w) (
      sB1 t n i w)) (
    Make 3 (.int .i64 (0 : Int)) 1 8 n n w fun b23 w1 =>
    sL2 t (some ⟨b23, 0, none⟩) n.toNat n.toNat (0 : Int) (0 : Int) w1)) = kstep Tryz.prog 82 Tryz.f64.results.toList (Tryz.f64.body.getD .skip) (sock_Table_List.RV R) (kvc Tryz.prog 82 Tryz.f64.results.toList (Tryz.f64.body.getD .skip) (sock_Table_List.RV R) [([(0, [1, 1, 0, 1, 0, 0, 1, 1]), (2, [1, 1, 0, 1, 0, 0]), (1, [0]), (0, [1, 1, 1])], fun σ w => dP (slotOf σ 0) fun t_ => dI .i64 (slotOf σ 3) fun n_ => dI .i64 (slotOf σ 4) fun i_ => sB1 t_ n_ i_ w),
    ([(0, [1, 1, 1, 1, 1, 0, 1, 0, 0]), (2, [1, 1, 1, 1, 1, 0, 1, 0, 0]), (1, [2]), (0, [1, 1, 1, 1, 1, 1])], fun σ w => dP (slotOf σ 0) fun t_ => dL (slotOf σ 5) fun out_b_ out_l_ out_c_ => dI .i64 (slotOf σ 6) fun k_ => dI .i64 (slotOf σ 7) fun i_ => sL2 t_ out_b_ out_l_ out_c_ k_ i_ w)] 2000) [(0, [1, 1, 0, 1, 0, 0]), (2, [1, 1, 0, 1, 0, 0]), (1, [0]), (0, [1, 1, 1])] [(0, .pointer t), (3, .int .i64 n), (4, .int .i64 i)] w := by kernel_rfl
theorem sock_Table_List.L1b_sound {R : Option Addr → Nat → Nat → World → Prop} {N1 : Option Addr → Int → Int → World → Prop} (hN1 : ∀ t n i w, N1 t n i w → KW Tryz.prog 64 82 (sock_Table_List.RV R) ([(0, [1, 1, 0, 1, 0, 0]), (2, [1, 1, 0, 1, 0, 0]), (1, [0]), (0, [1, 1, 1])].map (toItem (Tryz.f64.body.getD .skip))) [(0, .pointer t), (3, .int .i64 n), (4, .int .i64 i)] w) (t : Option Addr) (n i : Int) (w : World) (h : sock_Table_List.L1b t n i w  N1 R) :
    KW Tryz.prog 64 82 (sock_Table_List.RV R) ([(0, [1, 1, 0, 1, 0, 0]), (2, [1, 1, 0, 1, 0, 0]), (1, [0]), (0, [1, 1, 1])].map (toItem (Tryz.f64.body.getD .skip))) [(0, .pointer t), (3, .int .i64 n), (4, .int .i64 i)] w := by
  exact block_spec Tryz.func64 Tryz.mixed (stops_cons (fun σ w h => by
      obtain ⟨t_, e0, h⟩ := dP_elim h
      obtain ⟨n_, e1, h⟩ := dI_elim h
      obtain ⟨i_, e2, h⟩ := dI_elim h
      exact (sock_Table_List.B1_sound hN1 t_ n_ i_ w h).weaken (Sub.cons (Sub.cons (Sub.cons (Sub.nil _) e2) e1) e0)) (stops_cons (fun σ w h => by
      obtain ⟨t_, e0, h⟩ := dP_elim h
      obtain ⟨out_b_, out_l_, out_c_, e1, h⟩ := dL_elim h
      obtain ⟨k_, e2, h⟩ := dI_elim h
      obtain ⟨i_, e3, h⟩ := dI_elim h
      exact (sock_Table_List.L2_sound  t_ out_b_ out_l_ out_c_ k_ i_ w h).weaken (Sub.cons (Sub.cons (Sub.cons (Sub.cons (Sub.nil _) e3) e2) e1) e0)) stops_nil)) (Eq.mp (sock_Table_List.L1b_eq t n i w  N1 R (fun t_ n_ i_ w => sock_Table_List.B1 t_ n_ i_ w N1 R) (fun t_ out_b_ out_l_ out_c_ k_ i_ w => sock_Table_List.L2 t_ out_b_ out_l_ out_c_ k_ i_ w  R)) h)
def sock_Table_List.L1 (t : Option Addr) (n i : Int) (w : World)  (R : Option Addr → Nat → Nat → World → Prop) : Prop :=
  ∃ (I : Nat → Option Addr → Int → Int → World → Prop) (m : Nat), I m t n i w ∧ ∀ m t n i w, I m t n i w → sock_Table_List.L1b t n i w  (fun t' n' i' w' => ∃ m', m' < m ∧ I m' t' n' i' w') R
theorem sock_Table_List.L1_sound {R : Option Addr → Nat → Nat → World → Prop}  (t : Option Addr) (n i : Int) (w : World) (h : sock_Table_List.L1 t n i w  R) :
    KW Tryz.prog 64 82 (sock_Table_List.RV R) ([(0, [1, 1, 0, 1, 0, 0]), (2, [1, 1, 0, 1, 0, 0]), (1, [0]), (0, [1, 1, 1])].map (toItem (Tryz.f64.body.getD .skip))) [(0, .pointer t), (3, .int .i64 n), (4, .int .i64 i)] w := by
  obtain ⟨I, m, hBase, hr⟩ := h
  refine KW.loop (fun m σ w => ∃ (t : Option Addr) (n i : Int), σ = [(0, .pointer t), (3, .int .i64 n), (4, .int .i64 i)] ∧ I m t n i w) ?_ m _ w ⟨t, n, i, rfl, hBase⟩
  rintro m ih σ w ⟨t, n, i, rfl, hI⟩
  exact sock_Table_List.L1b_sound  (N1 := fun t' n' i' w' => ∃ m', m' < m ∧ I m' t' n' i' w') (fun t' n' i' w' hx => by obtain ⟨m', hlt, hI'⟩ := hx; exact ih m' hlt _ w' ⟨t', n', i', rfl, hI'⟩) t n i w (hr m t n i w hI)
def sock_Table_List.B0 (t : Option Addr) (w : World)   (R : Option Addr → Nat → Nat → World → Prop) : Prop :=
  sock_Table_List.L1 t (0 : Int) (0 : Int) w  R
theorem sock_Table_List.B0_eq (t : Option Addr) (w : World)   (R : Option Addr → Nat → Nat → World → Prop) (sL1 : Option Addr → Int → Int → World → Prop) :
    (
  sL1 t (0 : Int) (0 : Int) w) = kstep Tryz.prog 82 Tryz.f64.results.toList (Tryz.f64.body.getD .skip) (sock_Table_List.RV R) (kvc Tryz.prog 82 Tryz.f64.results.toList (Tryz.f64.body.getD .skip) (sock_Table_List.RV R) [([(0, [1, 1, 0, 1, 0, 0]), (2, [1, 1, 0, 1, 0, 0]), (1, [0]), (0, [1, 1, 1])], fun σ w => dP (slotOf σ 0) fun t_ => dI .i64 (slotOf σ 3) fun n_ => dI .i64 (slotOf σ 4) fun i_ => sL1 t_ n_ i_ w)] 2000) [(0, [])] [(0, .pointer t)] w := by kernel_rfl
theorem sock_Table_List.B0_sound {R : Option Addr → Nat → Nat → World → Prop}  (t : Option Addr) (w : World) (h : sock_Table_List.B0 t w   R) :
    KW Tryz.prog 64 82 (sock_Table_List.RV R) ([(0, [])].map (toItem (Tryz.f64.body.getD .skip))) [(0, .pointer t)] w := by
  exact block_spec Tryz.func64 Tryz.mixed (stops_cons (fun σ w h => by
      obtain ⟨t_, e0, h⟩ := dP_elim h
      obtain ⟨n_, e1, h⟩ := dI_elim h
      obtain ⟨i_, e2, h⟩ := dI_elim h
      exact (sock_Table_List.L1_sound  t_ n_ i_ w h).weaken (Sub.cons (Sub.cons (Sub.cons (Sub.nil _) e2) e1) e0)) stops_nil) (Eq.mp (sock_Table_List.B0_eq t w   R (fun t_ n_ i_ w => sock_Table_List.L1 t_ n_ i_ w  R)) h)
theorem sock_Table_List.sound (t : Option Addr) (w : World) (R : Option Addr → Nat → Nat → World → Prop) (h : sock_Table_List.B0 t w R) : sock_Table_List.Call t w R := by
  have hc := calls_of_block (args := #[.pointer t]) Tryz.func64 (body := (Tryz.f64.body.getD .skip)) (by kernel_rfl) (by kernel_rfl) (args_slot _) (sock_Table_List.B0_sound t w h)
  exact hc.mono fun e w' he => by
    obtain ⟨v, rfl, hv⟩ := he
    exact sock_Table_List.RV_elim hv
end Go.Proofs.Qxb6500424aGreat
