import Derived.Test.Qxb6500423aSig
set_option maxRecDepth 100000
set_option linter.unusedVariables false
open Go.Vc
namespace Go.Proofs.Qxb6500423a
def framelaw_Spoil.L1b (b_b : Option Addr) (b_l b_c : Nat) (i : Int) (w : World)  (N1 : Option Addr → Nat → Nat → Int → World → Prop) (R : World → Prop) : Prop :=
  Bm (decide (i < ((b_l : Nat) : Int))) (
    Pn b_b fun a =>
    (0 ≤ i ∧ i < ((b_l : Nat) : Int)) ∧
    LdI .u8 (Addr.add a (i.toNat * 1)) w fun x14 =>
    Pn b_b fun a_1 =>
    (0 ≤ i ∧ i < ((b_l : Nat) : Int)) ∧
    Sts [.int .u8 (IntKind.u8.wrap (BitVec.ofInt IntKind.u8.bits x14 ^^^ BitVec.ofInt IntKind.u8.bits (255 : Int)).toNat)] (Addr.add a_1 (i.toNat * 1)) 0 w fun w1 =>
    N1 b_b b_l b_c (IntKind.i64.wrap (i + (1 : Int))) w1) (
    R  w)
theorem framelaw_Spoil.L1b_eq (b_b : Option Addr) (b_l b_c : Nat) (i : Int) (w : World)  (N1 : Option Addr → Nat → Nat → Int → World → Prop) (R : World → Prop)  :
    (
  Bm (decide (i < ((b_l : Nat) : Int))) (
    Pn b_b fun a =>
    (0 ≤ i ∧ i < ((b_l : Nat) : Int)) ∧
    LdI .u8 (Addr.add a (i.toNat * 1)) w fun x14 =>
    Pn b_b fun a_1 =>
    (0 ≤ i ∧ i < ((b_l : Nat) : Int)) ∧
    Sts [.int .u8 (IntKind.u8.wrap (BitVec.ofInt IntKind.u8.bits x14 ^^^ BitVec.ofInt IntKind.u8.bits (255 : Int)).toNat)] (Addr.add a_1 (i.toNat * 1)) 0 w fun w1 =>
    N1 b_b b_l b_c (IntKind.i64.wrap (i + (1 : Int))) w1) (
    R  w)) = kstep Try.prog 17 Try.f22.results.toList (Try.f22.body.getD .skip) (framelaw_Spoil.RV R) (kvc Try.prog 17 Try.f22.results.toList (Try.f22.body.getD .skip) (framelaw_Spoil.RV R) [([(0, [1, 0, 0]), (2, [1, 0, 0]), (1, [0])], fun σ w => dL (slotOf σ 0) fun b_b_ b_l_ b_c_ => dI .i64 (slotOf σ 2) fun i_ => N1 b_b_ b_l_ b_c_ i_ w)] 2000) [(0, [1, 0, 0]), (2, [1, 0, 0]), (1, [0])] [(0, .slice b_b b_l b_c), (2, .int .i64 i)] w := by kernel_rfl
theorem framelaw_Spoil.L1b_sound {R : World → Prop} {N1 : Option Addr → Nat → Nat → Int → World → Prop} (hN1 : ∀ b_b b_l b_c i w, N1 b_b b_l b_c i w → KW Try.prog 22 17 (framelaw_Spoil.RV R) ([(0, [1, 0, 0]), (2, [1, 0, 0]), (1, [0])].map (toItem (Try.f22.body.getD .skip))) [(0, .slice b_b b_l b_c), (2, .int .i64 i)] w) (b_b : Option Addr) (b_l b_c : Nat) (i : Int) (w : World) (h : framelaw_Spoil.L1b b_b b_l b_c i w  N1 R) :
    KW Try.prog 22 17 (framelaw_Spoil.RV R) ([(0, [1, 0, 0]), (2, [1, 0, 0]), (1, [0])].map (toItem (Try.f22.body.getD .skip))) [(0, .slice b_b b_l b_c), (2, .int .i64 i)] w := by
  exact block_spec Try.func22 Try.mixed (stops_cons (fun σ w h => by
      obtain ⟨b_b_, b_l_, b_c_, e0, h⟩ := dL_elim h
      obtain ⟨i_, e1, h⟩ := dI_elim h
      exact (hN1 b_b_ b_l_ b_c_ i_ w h).weaken (Sub.cons (Sub.cons (Sub.nil _) e1) e0)) stops_nil) (Eq.mp (framelaw_Spoil.L1b_eq b_b b_l b_c i w  N1 R ) h)
def framelaw_Spoil.L1 (b_b : Option Addr) (b_l b_c : Nat) (i : Int) (w : World)  (R : World → Prop) : Prop :=
  ∃ (I : Nat → Option Addr → Nat → Nat → Int → World → Prop) (m : Nat), I m b_b b_l b_c i w ∧ ∀ m b_b b_l b_c i w, I m b_b b_l b_c i w → framelaw_Spoil.L1b b_b b_l b_c i w  (fun b_b' b_l' b_c' i' w' => ∃ m', m' < m ∧ I m' b_b' b_l' b_c' i' w') R
theorem framelaw_Spoil.L1_sound {R : World → Prop}  (b_b : Option Addr) (b_l b_c : Nat) (i : Int) (w : World) (h : framelaw_Spoil.L1 b_b b_l b_c i w  R) :
    KW Try.prog 22 17 (framelaw_Spoil.RV R) ([(0, [1, 0, 0]), (2, [1, 0, 0]), (1, [0])].map (toItem (Try.f22.body.getD .skip))) [(0, .slice b_b b_l b_c), (2, .int .i64 i)] w := by
  obtain ⟨I, m, h0, hr⟩ := h
  refine KW.loop (fun m σ w => ∃ (b_b : Option Addr) (b_l b_c : Nat) (i : Int), σ = [(0, .slice b_b b_l b_c), (2, .int .i64 i)] ∧ I m b_b b_l b_c i w) ?_ m _ w ⟨b_b, b_l, b_c, i, rfl, h0⟩
  rintro m ih σ w ⟨b_b, b_l, b_c, i, rfl, hI⟩
  exact framelaw_Spoil.L1b_sound  (N1 := fun b_b' b_l' b_c' i' w' => ∃ m', m' < m ∧ I m' b_b' b_l' b_c' i' w') (fun b_b' b_l' b_c' i' w' hx => by obtain ⟨m', hlt, hI'⟩ := hx; exact ih m' hlt _ w' ⟨b_b', b_l', b_c', i', rfl, hI'⟩) b_b b_l b_c i w (hr m b_b b_l b_c i w hI)
def framelaw_Spoil.B0 (b_b : Option Addr) (b_l b_c : Nat) (w : World)   (R : World → Prop) : Prop :=
  framelaw_Spoil.L1 b_b b_l b_c (0 : Int) w  R
theorem framelaw_Spoil.B0_eq (b_b : Option Addr) (b_l b_c : Nat) (w : World)   (R : World → Prop) (sL1 : Option Addr → Nat → Nat → Int → World → Prop) :
    (
  sL1 b_b b_l b_c (0 : Int) w) = kstep Try.prog 17 Try.f22.results.toList (Try.f22.body.getD .skip) (framelaw_Spoil.RV R) (kvc Try.prog 17 Try.f22.results.toList (Try.f22.body.getD .skip) (framelaw_Spoil.RV R) [([(0, [1, 0, 0]), (2, [1, 0, 0]), (1, [0])], fun σ w => dL (slotOf σ 0) fun b_b_ b_l_ b_c_ => dI .i64 (slotOf σ 2) fun i_ => sL1 b_b_ b_l_ b_c_ i_ w)] 2000) [(0, [])] [(0, .slice b_b b_l b_c)] w := by kernel_rfl
theorem framelaw_Spoil.B0_sound {R : World → Prop}  (b_b : Option Addr) (b_l b_c : Nat) (w : World) (h : framelaw_Spoil.B0 b_b b_l b_c w   R) :
    KW Try.prog 22 17 (framelaw_Spoil.RV R) ([(0, [])].map (toItem (Try.f22.body.getD .skip))) [(0, .slice b_b b_l b_c)] w := by
  exact block_spec Try.func22 Try.mixed (stops_cons (fun σ w h => by
      obtain ⟨b_b_, b_l_, b_c_, e0, h⟩ := dL_elim h
      obtain ⟨i_, e1, h⟩ := dI_elim h
      exact (framelaw_Spoil.L1_sound  b_b_ b_l_ b_c_ i_ w h).weaken (Sub.cons (Sub.cons (Sub.nil _) e1) e0)) stops_nil) (Eq.mp (framelaw_Spoil.B0_eq b_b b_l b_c w   R (fun b_b_ b_l_ b_c_ i_ w => framelaw_Spoil.L1 b_b_ b_l_ b_c_ i_ w  R)) h)
theorem framelaw_Spoil.sound (b_b : Option Addr) (b_l b_c : Nat) (w : World) (R : World → Prop) (h : framelaw_Spoil.B0 b_b b_l b_c w R) : framelaw_Spoil.Call b_b b_l b_c w R := by
  have hc := calls_of_block (args := #[.slice b_b b_l b_c]) Try.func22 (body := (Try.f22.body.getD .skip)) (by kernel_rfl) (by kernel_rfl) (args_slot _) (framelaw_Spoil.B0_sound b_b b_l b_c w h)
  exact hc.mono fun e w' he => by
    obtain ⟨v, rfl, hv⟩ := he
    exact framelaw_Spoil.RV_elim hv
def framem_Link_Encode.B2 (l : Option Addr) (dst typ : Int) (payload_b : Option Addr) (payload_l payload_c : Nat) (t24 : Bool) (w : World)   (R : Option Addr → Nat → Nat → Int → World → Prop) : Prop :=
  Bm t24 (
    R none 0 0 (6 : Int) w) (
    Bm (decide (((payload_l : Nat) : Int) > (24 : Int))) (
      R none 0 0 (2 : Int) w) (
      Pn l fun a =>
      LdI .i64 a w fun x33 =>
      New (.cells #[.int .u8 (IntKind.u8.wrap dst), .int .u8 (IntKind.u8.wrap x33), .int .u8 (IntKind.u8.wrap typ), .int .u8 (IntKind.u8.wrap ((payload_l : Nat) : Int))] 5) w fun b40 w1 =>
      Append 5 (.int .u8 (0 : Int)) 1 1 (some ⟨b40, 0, none⟩) 4 4 payload_b payload_l w1 fun b43 c43 w2 =>
      framem_sumA.Call b43 (4 + payload_l) c43 w2 fun r45 w3 =>
      framem_sumB.Call b43 (4 + payload_l) c43 w3 fun r47 w4 =>
      New (.cells #[.int .u8 (IntKind.u8.wrap r45), .int .u8 (IntKind.u8.wrap r47)] 5) w4 fun b53 w5 =>
      Append 5 (.int .u8 (0 : Int)) 1 1 b43 (4 + payload_l) c43 (some ⟨b53, 0, none⟩) 2 w5 fun b54 c54 w6 =>
      Pn l fun a_1 =>
      LdI .i64 (a_1.add 1) w6 fun x59 =>
      Pn l fun a_2 =>
      Sts [.int .i64 (IntKind.i64.wrap (x59 + (1 : Int)))] (a_2.add 1) 0 w6 fun w7 =>
      R b54 ((4 + payload_l) + 2) c54 (0 : Int) w7))
theorem framem_Link_Encode.B2_eq (l : Option Addr) (dst typ : Int) (payload_b : Option Addr) (payload_l payload_c : Nat) (t24 : Bool) (w : World)   (R : Option Addr → Nat → Nat → Int → World → Prop)  :
    (
  Bm t24 (
    R none 0 0 (6 : Int) w) (
    Bm (decide (((payload_l : Nat) : Int) > (24 : Int))) (
      R none 0 0 (2 : Int) w) (
      Pn l fun a =>
      LdI .i64 a w fun x33 =>
      New (.cells #[.int .u8 (IntKind.u8.wrap dst), .int .u8 (IntKind.u8.wrap x33), .int .u8 (IntKind.u8.wrap typ), .int .u8 (IntKind.u8.wrap ((payload_l : Nat) : Int))] 5) w fun b40 w1 =>
      Append 5 (.int .u8 (0 : Int)) 1 1 (some ⟨b40, 0, none⟩) 4 4 payload_b payload_l w1 fun b43 c43 w2 =>
      framem_sumA.Call b43 (4 + payload_l) c43 w2 fun r45 w3 =>
      framem_sumB.Call b43 (4 + payload_l) c43 w3 fun r47 w4 =>
      New (.cells #[.int .u8 (IntKind.u8.wrap r45), .int .u8 (IntKind.u8.wrap r47)] 5) w4 fun b53 w5 =>
      Append 5 (.int .u8 (0 : Int)) 1 1 b43 (4 + payload_l) c43 (some ⟨b53, 0, none⟩) 2 w5 fun b54 c54 w6 =>
      Pn l fun a_1 =>
      LdI .i64 (a_1.add 1) w6 fun x59 =>
      Pn l fun a_2 =>
      Sts [.int .i64 (IntKind.i64.wrap (x59 + (1 : Int)))] (a_2.add 1) 0 w6 fun w7 =>
      R b54 ((4 + payload_l) + 2) c54 (0 : Int) w7))) = kstep Try.prog 65 Try.f23.results.toList (Try.f23.body.getD .skip) (framem_Link_Encode.RV R) (kvc Try.prog 65 Try.f23.results.toList (Try.f23.body.getD .skip) (framem_Link_Encode.RV R) [] 2000) [(0, [1, 1, 0, 1]), (0, [1, 1, 1])] [(0, .pointer l), (1, .int .i64 dst), (2, .int .i64 typ), (3, .slice payload_b payload_l payload_c), (24, .bool t24)] w := by kernel_rfl
theorem framem_Link_Encode.B2_sound {R : Option Addr → Nat → Nat → Int → World → Prop}  (l : Option Addr) (dst typ : Int) (payload_b : Option Addr) (payload_l payload_c : Nat) (t24 : Bool) (w : World) (h : framem_Link_Encode.B2 l dst typ payload_b payload_l payload_c t24 w   R) :
    KW Try.prog 23 65 (framem_Link_Encode.RV R) ([(0, [1, 1, 0, 1]), (0, [1, 1, 1])].map (toItem (Try.f23.body.getD .skip))) [(0, .pointer l), (1, .int .i64 dst), (2, .int .i64 typ), (3, .slice payload_b payload_l payload_c), (24, .bool t24)] w := by
  exact block_spec Try.func23 Try.mixed stops_nil (Eq.mp (framem_Link_Encode.B2_eq l dst typ payload_b payload_l payload_c t24 w   R ) h)
def framem_Link_Encode.B1 (l : Option Addr) (dst typ : Int) (payload_b : Option Addr) (payload_l payload_c : Nat) (t18 : Bool) (w : World)   (R : Option Addr → Nat → Nat → Int → World → Prop) : Prop :=
  Bm t18 (
    R none 0 0 (5 : Int) w) (
    Bm (decide (typ < (0 : Int))) (
      framem_Link_Encode.B2 l dst typ payload_b payload_l payload_c true w  R) (
      framem_Link_Encode.B2 l dst typ payload_b payload_l payload_c (decide (typ > (255 : Int))) w  R))
theorem framem_Link_Encode.B1_eq (l : Option Addr) (dst typ : Int) (payload_b : Option Addr) (payload_l payload_c : Nat) (t18 : Bool) (w : World)   (R : Option Addr → Nat → Nat → Int → World → Prop) (sB2 : Option Addr → Int → Int → Option Addr → Nat → Nat → Bool → World → Prop) :
    (
  Bm t18 (
    R none 0 0 (5 : Int) w) (
    Bm (decide (typ < (0 : Int))) (
      sB2 l dst typ payload_b payload_l payload_c true w) (
      sB2 l dst typ payload_b payload_l payload_c (decide (typ > (255 : Int))) w))) = kstep Try.prog 65 Try.f23.results.toList (Try.f23.body.getD .skip) (framem_Link_Encode.RV R) (kvc Try.prog 65 Try.f23.results.toList (Try.f23.body.getD .skip) (framem_Link_Encode.RV R) [([(0, [1, 1, 0, 1]), (0, [1, 1, 1])], fun σ w => dP (slotOf σ 0) fun l_ => dI .i64 (slotOf σ 1) fun dst_ => dI .i64 (slotOf σ 2) fun typ_ => dL (slotOf σ 3) fun payload_b_ payload_l_ payload_c_ => dB (slotOf σ 24) fun t24_ => sB2 l_ dst_ typ_ payload_b_ payload_l_ payload_c_ t24_ w)] 2000) [(0, [1, 0, 1]), (0, [1, 1])] [(0, .pointer l), (1, .int .i64 dst), (2, .int .i64 typ), (3, .slice payload_b payload_l payload_c), (18, .bool t18)] w := by kernel_rfl
theorem framem_Link_Encode.B1_sound {R : Option Addr → Nat → Nat → Int → World → Prop}  (l : Option Addr) (dst typ : Int) (payload_b : Option Addr) (payload_l payload_c : Nat) (t18 : Bool) (w : World) (h : framem_Link_Encode.B1 l dst typ payload_b payload_l payload_c t18 w   R) :
    KW Try.prog 23 65 (framem_Link_Encode.RV R) ([(0, [1, 0, 1]), (0, [1, 1])].map (toItem (Try.f23.body.getD .skip))) [(0, .pointer l), (1, .int .i64 dst), (2, .int .i64 typ), (3, .slice payload_b payload_l payload_c), (18, .bool t18)] w := by
  exact block_spec Try.func23 Try.mixed (stops_cons (fun σ w h => by
      obtain ⟨l_, e0, h⟩ := dP_elim h
      obtain ⟨dst_, e1, h⟩ := dI_elim h
      obtain ⟨typ_, e2, h⟩ := dI_elim h
      obtain ⟨payload_b_, payload_l_, payload_c_, e3, h⟩ := dL_elim h
      obtain ⟨t24_, e4, h⟩ := dB_elim h
      exact (framem_Link_Encode.B2_sound  l_ dst_ typ_ payload_b_ payload_l_ payload_c_ t24_ w h).weaken (Sub.cons (Sub.cons (Sub.cons (Sub.cons (Sub.cons (Sub.nil _) e4) e3) e2) e1) e0)) stops_nil) (Eq.mp (framem_Link_Encode.B1_eq l dst typ payload_b payload_l payload_c t18 w   R (fun l_ dst_ typ_ payload_b_ payload_l_ payload_c_ t24_ w => framem_Link_Encode.B2 l_ dst_ typ_ payload_b_ payload_l_ payload_c_ t24_ w  R)) h)
def framem_Link_Encode.B0 (l : Option Addr) (dst typ : Int) (payload_b : Option Addr) (payload_l payload_c : Nat) (w : World)   (R : Option Addr → Nat → Nat → Int → World → Prop) : Prop :=
  Bm (decide (dst < (0 : Int))) (
    framem_Link_Encode.B1 l dst typ payload_b payload_l payload_c true w  R) (
    framem_Link_Encode.B1 l dst typ payload_b payload_l payload_c (decide (dst > (255 : Int))) w  R)
theorem framem_Link_Encode.B0_eq (l : Option Addr) (dst typ : Int) (payload_b : Option Addr) (payload_l payload_c : Nat) (w : World)   (R : Option Addr → Nat → Nat → Int → World → Prop) (sB1 : Option Addr → Int → Int → Option Addr → Nat → Nat → Bool → World → Prop) :
    (
  Bm (decide (dst < (0 : Int))) (
    sB1 l dst typ payload_b payload_l payload_c true w) (
    sB1 l dst typ payload_b payload_l payload_c (decide (dst > (255 : Int))) w)) = kstep Try.prog 65 Try.f23.results.toList (Try.f23.body.getD .skip) (framem_Link_Encode.RV R) (kvc Try.prog 65 Try.f23.results.toList (Try.f23.body.getD .skip) (framem_Link_Encode.RV R) [([(0, [1, 0, 1]), (0, [1, 1])], fun σ w => dP (slotOf σ 0) fun l_ => dI .i64 (slotOf σ 1) fun dst_ => dI .i64 (slotOf σ 2) fun typ_ => dL (slotOf σ 3) fun payload_b_ payload_l_ payload_c_ => dB (slotOf σ 18) fun t18_ => sB1 l_ dst_ typ_ payload_b_ payload_l_ payload_c_ t18_ w)] 2000) [(0, [])] [(0, .pointer l), (1, .int .i64 dst), (2, .int .i64 typ), (3, .slice payload_b payload_l payload_c)] w := by kernel_rfl
theorem framem_Link_Encode.B0_sound {R : Option Addr → Nat → Nat → Int → World → Prop}  (l : Option Addr) (dst typ : Int) (payload_b : Option Addr) (payload_l payload_c : Nat) (w : World) (h : framem_Link_Encode.B0 l dst typ payload_b payload_l payload_c w   R) :
    KW Try.prog 23 65 (framem_Link_Encode.RV R) ([(0, [])].map (toItem (Try.f23.body.getD .skip))) [(0, .pointer l), (1, .int .i64 dst), (2, .int .i64 typ), (3, .slice payload_b payload_l payload_c)] w := by
  exact block_spec Try.func23 Try.mixed (stops_cons (fun σ w h => by
      obtain ⟨l_, e0, h⟩ := dP_elim h
      obtain ⟨dst_, e1, h⟩ := dI_elim h
      obtain ⟨typ_, e2, h⟩ := dI_elim h
      obtain ⟨payload_b_, payload_l_, payload_c_, e3, h⟩ := dL_elim h
      obtain ⟨t18_, e4, h⟩ := dB_elim h
      exact (framem_Link_Encode.B1_sound  l_ dst_ typ_ payload_b_ payload_l_ payload_c_ t18_ w h).weaken (Sub.cons (Sub.cons (Sub.cons (Sub.cons (Sub.cons (Sub.nil _) e4) e3) e2) e1) e0)) stops_nil) (Eq.mp (framem_Link_Encode.B0_eq l dst typ payload_b payload_l payload_c w   R (fun l_ dst_ typ_ payload_b_ payload_l_ payload_c_ t18_ w => framem_Link_Encode.B1 l_ dst_ typ_ payload_b_ payload_l_ payload_c_ t18_ w  R)) h)
theorem framem_Link_Encode.sound (l : Option Addr) (dst typ : Int) (payload_b : Option Addr) (payload_l payload_c : Nat) (w : World) (R : Option Addr → Nat → Nat → Int → World → Prop) (h : framem_Link_Encode.B0 l dst typ payload_b payload_l payload_c w R) : framem_Link_Encode.Call l dst typ payload_b payload_l payload_c w R := by
  have hc := calls_of_block (args := #[.pointer l, .int .i64 dst, .int .i64 typ, .slice payload_b payload_l payload_c]) Try.func23 (body := (Try.f23.body.getD .skip)) (by kernel_rfl) (by kernel_rfl) (args_slot _) (framem_Link_Encode.B0_sound l dst typ payload_b payload_l payload_c w h)
  exact hc.mono fun e w' he => by
    obtain ⟨v, rfl, hv⟩ := he
    exact framem_Link_Encode.RV_elim hv
def framem_Link_Addr.B0 (l : Option Addr) (w : World)   (R : Int → World → Prop) : Prop :=
  Pn l fun a =>
  LdI .i64 a w fun x6 =>
  R x6 w
theorem framem_Link_Addr.B0_eq (l : Option Addr) (w : World)   (R : Int → World → Prop)  :
    (
  Pn l fun a =>
  LdI .i64 a w fun x6 =>
  R x6 w) = kstep Try.prog 7 Try.f24.results.toList (Try.f24.body.getD .skip) (framem_Link_Addr.RV R) (kvc Try.prog 7 Try.f24.results.toList (Try.f24.body.getD .skip) (framem_Link_Addr.RV R) [] 2000) [(0, [])] [(0, .pointer l)] w := by kernel_rfl
theorem framem_Link_Addr.B0_sound {R : Int → World → Prop}  (l : Option Addr) (w : World) (h : framem_Link_Addr.B0 l w   R) :
    KW Try.prog 24 7 (framem_Link_Addr.RV R) ([(0, [])].map (toItem (Try.f24.body.getD .skip))) [(0, .pointer l)] w := by
  exact block_spec Try.func24 Try.mixed stops_nil (Eq.mp (framem_Link_Addr.B0_eq l w   R ) h)
theorem framem_Link_Addr.sound (l : Option Addr) (w : World) (R : Int → World → Prop) (h : framem_Link_Addr.B0 l w R) : framem_Link_Addr.Call l w R := by
  have hc := calls_of_block (args := #[.pointer l]) Try.func24 (body := (Try.f24.body.getD .skip)) (by kernel_rfl) (by kernel_rfl) (args_slot _) (framem_Link_Addr.B0_sound l w h)
  exact hc.mono fun e w' he => by
    obtain ⟨v, rfl, hv⟩ := he
    exact framem_Link_Addr.RV_elim hv
def api_CopyBytes.B0 (b_b : Option Addr) (b_l b_c : Nat) (w : World)   (R : Option Addr → Nat → Nat → World → Prop) : Prop :=
  Make 5 (.int .u8 (0 : Int)) 1 1 ((b_l : Nat) : Int) ((b_l : Nat) : Int) w fun b6 w1 =>
  Copy 1 (some ⟨b6, 0, none⟩) (((b_l : Nat) : Int).toNat) b_b b_l w1 fun n9 w2 =>
  R (some ⟨b6, 0, none⟩) (((b_l : Nat) : Int).toNat) (((b_l : Nat) : Int).toNat) w2
theorem api_CopyBytes.B0_eq (b_b : Option Addr) (b_l b_c : Nat) (w : World)   (R : Option Addr → Nat → Nat → World → Prop)  :
    (
  Make 5 (.int .u8 (0 : Int)) 1 1 ((b_l : Nat) : Int) ((b_l : Nat) : Int) w fun b6 w1 =>
  Copy 1 (some ⟨b6, 0, none⟩) (((b_l : Nat) : Int).toNat) b_b b_l w1 fun n9 w2 =>
  R (some ⟨b6, 0, none⟩) (((b_l : Nat) : Int).toNat) (((b_l : Nat) : Int).toNat) w2) = kstep Try.prog 11 Try.f25.results.toList (Try.f25.body.getD .skip) (api_CopyBytes.RV R) (kvc Try.prog 11 Try.f25.results.toList (Try.f25.body.getD .skip) (api_CopyBytes.RV R) [] 2000) [(0, [])] [(0, .slice b_b b_l b_c)] w := by kernel_rfl
theorem api_CopyBytes.B0_sound {R : Option Addr → Nat → Nat → World → Prop}  (b_b : Option Addr) (b_l b_c : Nat) (w : World) (h : api_CopyBytes.B0 b_b b_l b_c w   R) :
    KW Try.prog 25 11 (api_CopyBytes.RV R) ([(0, [])].map (toItem (Try.f25.body.getD .skip))) [(0, .slice b_b b_l b_c)] w := by
  exact block_spec Try.func25 Try.mixed stops_nil (Eq.mp (api_CopyBytes.B0_eq b_b b_l b_c w   R ) h)
theorem api_CopyBytes.sound (b_b : Option Addr) (b_l b_c : Nat) (w : World) (R : Option Addr → Nat → Nat → World → Prop) (h : api_CopyBytes.B0 b_b b_l b_c w R) : api_CopyBytes.Call b_b b_l b_c w R := by
  have hc := calls_of_block (args := #[.slice b_b b_l b_c]) Try.func25 (body := (Try.f25.body.getD .skip)) (by kernel_rfl) (by kernel_rfl) (args_slot _) (api_CopyBytes.B0_sound b_b b_l b_c w h)
  exact hc.mono fun e w' he => by
    obtain ⟨v, rfl, hv⟩ := he
    exact api_CopyBytes.RV_elim hv
def framelaw_Keep.B0 (w0 b_b : Option Addr) (b_l b_c : Nat) (w : World)   (R : World → Prop) : Prop :=
  (0 ≤ ((b_c : Nat) : Int) ∧ ((b_c : Nat) : Int) ≤ ((b_c : Nat) : Int)) ∧
  framelaw_Spoil.Call (slBase b_b ((0 : Nat) : Int) ((b_c : Nat) : Int) 1) (((b_c : Nat) : Int).toNat - ((0 : Nat) : Int).toNat) (((b_c : Nat) : Int).toNat - ((0 : Nat) : Int).toNat) w fun w1 =>
  api_CopyBytes.Call (slBase b_b ((0 : Nat) : Int) ((b_c : Nat) : Int) 1) (((b_c : Nat) : Int).toNat - ((0 : Nat) : Int).toNat) (((b_c : Nat) : Int).toNat - ((0 : Nat) : Int).toNat) w1 fun r13_b r13_l r13_c w2 =>
  Pn w0 fun a =>
  LdL (a.add 9) w2 fun x18_b x18_l x18_c =>
  New (.cells #[.slice (slBase b_b ((0 : Nat) : Int) ((b_c : Nat) : Int) 1) (((b_c : Nat) : Int).toNat - ((0 : Nat) : Int).toNat) (((b_c : Nat) : Int).toNat - ((0 : Nat) : Int).toNat)] 32) w2 fun b20 w3 =>
  Append 32 (.slice none 0 0) 1 24 x18_b x18_l x18_c (some ⟨b20, 0, none⟩) 1 w3 fun b21 c21 w4 =>
  Pn w0 fun a_1 =>
  Sts [.slice b21 (x18_l + 1) c21] (a_1.add 9) 0 w4 fun w5 =>
  Pn w0 fun a_2 =>
  LdL (a_2.add 10) w5 fun x28_b x28_l x28_c =>
  New (.cells #[.slice r13_b r13_l r13_c] 32) w5 fun b30 w6 =>
  Append 32 (.slice none 0 0) 1 24 x28_b x28_l x28_c (some ⟨b30, 0, none⟩) 1 w6 fun b31 c31 w7 =>
  Pn w0 fun a_3 =>
  Sts [.slice b31 (x28_l + 1) c31] (a_3.add 10) 0 w7 fun w8 =>
  R  w8
theorem framelaw_Keep.B0_eq (w0 b_b : Option Addr) (b_l b_c : Nat) (w : World)   (R : World → Prop)  :
    (
  (0 ≤ ((b_c : Nat) : Int) ∧ ((b_c : Nat) : Int) ≤ ((b_c : Nat) : Int)) ∧
  framelaw_Spoil.Call (slBase b_b ((0 : Nat) : Int) ((b_c : Nat) : Int) 1) (((b_c : Nat) : Int).toNat - ((0 : Nat) : Int).toNat) (((b_c : Nat) : Int).toNat - ((0 : Nat) : Int).toNat) w fun w1 =>
  api_CopyBytes.Call (slBase b_b ((0 : Nat) : Int) ((b_c : Nat) : Int) 1) (((b_c : Nat) : Int).toNat - ((0 : Nat) : Int).toNat) (((b_c : Nat) : Int).toNat - ((0 : Nat) : Int).toNat) w1 fun r13_b r13_l r13_c w2 =>
  Pn w0 fun a =>
  LdL (a.add 9) w2 fun x18_b x18_l x18_c =>
  New (.cells #[.slice (slBase b_b ((0 : Nat) : Int) ((b_c : Nat) : Int) 1) (((b_c : Nat) : Int).toNat - ((0 : Nat) : Int).toNat) (((b_c : Nat) : Int).toNat - ((0 : Nat) : Int).toNat)] 32) w2 fun b20 w3 =>
  Append 32 (.slice none 0 0) 1 24 x18_b x18_l x18_c (some ⟨b20, 0, none⟩) 1 w3 fun b21 c21 w4 =>
  Pn w0 fun a_1 =>
  Sts [.slice b21 (x18_l + 1) c21] (a_1.add 9) 0 w4 fun w5 =>
  Pn w0 fun a_2 =>
  LdL (a_2.add 10) w5 fun x28_b x28_l x28_c =>
  New (.cells #[.slice r13_b r13_l r13_c] 32) w5 fun b30 w6 =>
  Append 32 (.slice none 0 0) 1 24 x28_b x28_l x28_c (some ⟨b30, 0, none⟩) 1 w6 fun b31 c31 w7 =>
  Pn w0 fun a_3 =>
  Sts [.slice b31 (x28_l + 1) c31] (a_3.add 10) 0 w7 fun w8 =>
  R  w8) = kstep Try.prog 34 Try.f26.results.toList (Try.f26.body.getD .skip) (framelaw_Keep.RV R) (kvc Try.prog 34 Try.f26.results.toList (Try.f26.body.getD .skip) (framelaw_Keep.RV R) [] 2000) [(0, [])] [(0, .pointer w0), (1, .slice b_b b_l b_c)] w := by kernel_rfl
theorem framelaw_Keep.B0_sound {R : World → Prop}  (w0 b_b : Option Addr) (b_l b_c : Nat) (w : World) (h : framelaw_Keep.B0 w0 b_b b_l b_c w   R) :
    KW Try.prog 26 34 (framelaw_Keep.RV R) ([(0, [])].map (toItem (Try.f26.body.getD .skip))) [(0, .pointer w0), (1, .slice b_b b_l b_c)] w := by
  exact block_spec Try.func26 Try.mixed stops_nil (Eq.mp (framelaw_Keep.B0_eq w0 b_b b_l b_c w   R ) h)
theorem framelaw_Keep.sound (w0 b_b : Option Addr) (b_l b_c : Nat) (w : World) (R : World → Prop) (h : framelaw_Keep.B0 w0 b_b b_l b_c w R) : framelaw_Keep.Call w0 b_b b_l b_c w R := by
  have hc := calls_of_block (args := #[.pointer w0, .slice b_b b_l b_c]) Try.func26 (body := (Try.f26.body.getD .skip)) (by kernel_rfl) (by kernel_rfl) (args_slot _) (framelaw_Keep.B0_sound w0 b_b b_l b_c w h)
  exact hc.mono fun e w' he => by
    obtain ⟨v, rfl, hv⟩ := he
    exact framelaw_Keep.RV_elim hv
def frame_Link_Decode.B0 (l raw_b : Option Addr) (raw_l raw_c : Nat) (w : World)   (R : Int → Int → Int → Option Addr → Nat → Nat → Int → World → Prop) : Prop :=
  New (.cells #[.int .i64 (0 : Int), .int .i64 (0 : Int), .int .i64 (0 : Int), .slice none 0 0] 34) w fun b4 w1 =>
  frame_sound.Call raw_b raw_l raw_c w1 fun r9 w2 =>
  Bm (r9 != (0 : Int)) (
    frame_Link_count.Call l (2 : Int) w2 fun w3 =>
    Sts [.int .i64 (0 : Int), .int .i64 (0 : Int), .int .i64 (0 : Int), .slice none 0 0] ⟨b4, 0, none⟩ 0 w3 fun w4 =>
    LdI .i64 ⟨b4, 0, none⟩ w4 fun r_0 =>
    LdI .i64 ⟨b4, 1, none⟩ w4 fun r_1 =>
    LdI .i64 ⟨b4, 2, none⟩ w4 fun r_2 =>
    LdL ⟨b4, 3, none⟩ w4 fun r_3_b r_3_l r_3_c =>
    R r_0 r_1 r_2 r_3_b r_3_l r_3_c r9 w4) (
    Pn raw_b fun a =>
    (0 ≤ (0 : Int) ∧ (0 : Int) < ((raw_l : Nat) : Int)) ∧
    LdI .u8 a w2.drew fun x18 =>
    Pn l fun a_1 =>
    LdI .u8 a_1 w2.drew fun x22 =>
    Bm (x18 != x22) (
      frame_Link_count.Call l (3 : Int) w2.drew fun w5 =>
      Sts [.int .i64 (0 : Int), .int .i64 (0 : Int), .int .i64 (0 : Int), .slice none 0 0] ⟨b4, 0, none⟩ 0 w5 fun w6 =>
      LdI .i64 ⟨b4, 0, none⟩ w6 fun r_0_1 =>
      LdI .i64 ⟨b4, 1, none⟩ w6 fun r_1_1 =>
      LdI .i64 ⟨b4, 2, none⟩ w6 fun r_2_1 =>
      LdL ⟨b4, 3, none⟩ w6 fun r_3_b_1 r_3_l_1 r_3_c_1 =>
      R r_0_1 r_1_1 r_2_1 r_3_b_1 r_3_l_1 r_3_c_1 (7 : Int) w6) (
      frame_Link_count.Call l (1 : Int) w2.drew fun w7 =>
      Pn raw_b fun a_2 =>
      (0 ≤ (3 : Int) ∧ (3 : Int) < ((raw_l : Nat) : Int)) ∧
      LdI .u8 (a_2.add 3) w7 fun x31 =>
      Make 5 (.int .u8 (0 : Int)) 1 1 (IntKind.i64.wrap x31) (IntKind.i64.wrap x31) w7 fun b33 w8 =>
      (0 ≤ (4 : Int) ∧ (4 : Int) ≤ ((raw_l : Nat) : Int)) ∧
      Copy 1 (some ⟨b33, 0, none⟩) ((IntKind.i64.wrap x31).toNat) (slBase raw_b (4 : Int) ((raw_c : Nat) : Int) 1) (((raw_l : Nat) : Int).toNat - (4 : Int).toNat) w8 fun n37 w9 =>
      Pn raw_b fun a_3 =>
      (0 ≤ (0 : Int) ∧ (0 : Int) < ((raw_l : Nat) : Int)) ∧
      LdI .u8 a_3 w9.drew fun x40 =>
      Pn raw_b fun a_4 =>
      (0 ≤ (1 : Int) ∧ (1 : Int) < ((raw_l : Nat) : Int)) ∧
      LdI .u8 (a_4.add 1) w9.drew fun x44 =>
      Pn raw_b fun a_5 =>
      (0 ≤ (2 : Int) ∧ (2 : Int) < ((raw_l : Nat) : Int)) ∧
      LdI .u8 (a_5.add 2) w9.drew fun x48 =>
      Sts [.int .i64 (IntKind.i64.wrap x40), .int .i64 (IntKind.i64.wrap x44), .int .i64 (IntKind.i64.wrap x48), .slice (some ⟨b33, 0, none⟩) ((IntKind.i64.wrap x31).toNat) ((IntKind.i64.wrap x31).toNat)] ⟨b4, 0, none⟩ 0 w9.drew fun w10 =>
      LdI .i64 ⟨b4, 0, none⟩ w10 fun r_0_2 =>
      LdI .i64 ⟨b4, 1, none⟩ w10 fun r_1_2 =>
      LdI .i64 ⟨b4, 2, none⟩ w10 fun r_2_2 =>
      LdL ⟨b4, 3, none⟩ w10 fun r_3_b_2 r_3_l_2 r_3_c_2 =>
      R r_0_2 r_1_2 r_2_2 r_3_b_2 r_3_l_2 r_3_c_2 (0 : Int) w10))
theorem frame_Link_Decode.B0_eq (l raw_b : Option Addr) (raw_l raw_c : Nat) (w : World)   (R : Int → Int → Int → Option Addr → Nat → Nat → Int → World → Prop)  :
    (
  New (.cells #[.int .i64 (0 : Int), .int .i64 (0 : Int), .int .i64 (0 : Int), .slice none 0 0] 34) w fun b4 w1 =>
  frame_sound.Call raw_b raw_l raw_c w1 fun r9 w2 =>
  Bm (r9 != (0 : Int)) (
    frame_Link_count.Call l (2 : Int) w2 fun w3 =>
    Sts [.int .i64 (0 : Int), .int .i64 (0 : Int), .int .i64 (0 : Int), .slice none 0 0] ⟨b4, 0, none⟩ 0 w3 fun w4 =>
    LdI .i64 ⟨b4, 0, none⟩ w4 fun r_0 =>
    LdI .i64 ⟨b4, 1, none⟩ w4 fun r_1 =>
    LdI .i64 ⟨b4, 2, none⟩ w4 fun r_2 =>
    LdL ⟨b4, 3, none⟩ w4 fun r_3_b r_3_l r_3_c =>
    R r_0 r_1 r_2 r_3_b r_3_l r_3_c r9 w4) (
    Pn raw_b fun a =>
    (0 ≤ (0 : Int) ∧ (0 : Int) < ((raw_l : Nat) : Int)) ∧
    LdI .u8 a w2.drew fun x18 =>
    Pn l fun a_1 =>
    LdI .u8 a_1 w2.drew fun x22 =>
    Bm (x18 != x22) (
      frame_Link_count.Call l (3 : Int) w2.drew fun w5 =>
      Sts [.int .i64 (0 : Int), .int .i64 (0 : Int), .int .i64 (0 : Int), .slice none 0 0] ⟨b4, 0, none⟩ 0 w5 fun w6 =>
      LdI .i64 ⟨b4, 0, none⟩ w6 fun r_0_1 =>
      LdI .i64 ⟨b4, 1, none⟩ w6 fun r_1_1 =>
      LdI .i64 ⟨b4, 2, none⟩ w6 fun r_2_1 =>
      LdL ⟨b4, 3, none⟩ w6 fun r_3_b_1 r_3_l_1 r_3_c_1 =>
      R r_0_1 r_1_1 r_2_1 r_3_b_1 r_3_l_1 r_3_c_1 (7 : Int) w6) (
      frame_Link_count.Call l (1 : Int) w2.drew fun w7 =>
      Pn raw_b fun a_2 =>
      (0 ≤ (3 : Int) ∧ (3 : Int) < ((raw_l : Nat) : Int)) ∧
      LdI .u8 (a_2.add 3) w7 fun x31 =>
      Make 5 (.int .u8 (0 : Int)) 1 1 (IntKind.i64.wrap x31) (IntKind.i64.wrap x31) w7 fun b33 w8 =>
      (0 ≤ (4 : Int) ∧ (4 : Int) ≤ ((raw_l : Nat) : Int)) ∧
      Copy 1 (some ⟨b33, 0, none⟩) ((IntKind.i64.wrap x31).toNat) (slBase raw_b (4 : Int) ((raw_c : Nat) : Int) 1) (((raw_l : Nat) : Int).toNat - (4 : Int).toNat) w8 fun n37 w9 =>
      Pn raw_b fun a_3 =>
      (0 ≤ (0 : Int) ∧ (0 : Int) < ((raw_l : Nat) : Int)) ∧
      LdI .u8 a_3 w9.drew fun x40 =>
      Pn raw_b fun a_4 =>
      (0 ≤ (1 : Int) ∧ (1 : Int) < ((raw_l : Nat) : Int)) ∧
      LdI .u8 (a_4.add 1) w9.drew fun x44 =>
      Pn raw_b fun a_5 =>
      (0 ≤ (2 : Int) ∧ (2 : Int) < ((raw_l : Nat) : Int)) ∧
      LdI .u8 (a_5.add 2) w9.drew fun x48 =>
      Sts [.int .i64 (IntKind.i64.wrap x40), .int .i64 (IntKind.i64.wrap x44), .int .i64 (IntKind.i64.wrap x48), .slice (some ⟨b33, 0, none⟩) ((IntKind.i64.wrap x31).toNat) ((IntKind.i64.wrap x31).toNat)] ⟨b4, 0, none⟩ 0 w9.drew fun w10 =>
      LdI .i64 ⟨b4, 0, none⟩ w10 fun r_0_2 =>
      LdI .i64 ⟨b4, 1, none⟩ w10 fun r_1_2 =>
      LdI .i64 ⟨b4, 2, none⟩ w10 fun r_2_2 =>
      LdL ⟨b4, 3, none⟩ w10 fun r_3_b_2 r_3_l_2 r_3_c_2 =>
      R r_0_2 r_1_2 r_2_2 r_3_b_2 r_3_l_2 r_3_c_2 (0 : Int) w10))) = kstep Try.prog 52 Try.f27.results.toList (Try.f27.body.getD .skip) (frame_Link_Decode.RV R) (kvc Try.prog 52 Try.f27.results.toList (Try.f27.body.getD .skip) (frame_Link_Decode.RV R) [] 2000) [(0, [])] [(0, .pointer l), (1, .slice raw_b raw_l raw_c)] w := by kernel_rfl
theorem frame_Link_Decode.B0_sound {R : Int → Int → Int → Option Addr → Nat → Nat → Int → World → Prop}  (l raw_b : Option Addr) (raw_l raw_c : Nat) (w : World) (h : frame_Link_Decode.B0 l raw_b raw_l raw_c w   R) :
    KW Try.prog 27 52 (frame_Link_Decode.RV R) ([(0, [])].map (toItem (Try.f27.body.getD .skip))) [(0, .pointer l), (1, .slice raw_b raw_l raw_c)] w := by
  exact block_spec Try.func27 Try.mixed stops_nil (Eq.mp (frame_Link_Decode.B0_eq l raw_b raw_l raw_c w   R ) h)
theorem frame_Link_Decode.sound (l raw_b : Option Addr) (raw_l raw_c : Nat) (w : World) (R : Int → Int → Int → Option Addr → Nat → Nat → Int → World → Prop) (h : frame_Link_Decode.B0 l raw_b raw_l raw_c w R) : frame_Link_Decode.Call l raw_b raw_l raw_c w R := by
  have hc := calls_of_block (args := #[.pointer l, .slice raw_b raw_l raw_c]) Try.func27 (body := (Try.f27.body.getD .skip)) (by kernel_rfl) (by kernel_rfl) (args_slot _) (frame_Link_Decode.B0_sound l raw_b raw_l raw_c w h)
  exact hc.mono fun e w' he => by
    obtain ⟨v, rfl, hv⟩ := he
    exact frame_Link_Decode.RV_elim hv
def framem_Link_Decode.B0 (l raw_b : Option Addr) (raw_l raw_c : Nat) (w : World)   (R : Int → Int → Int → Option Addr → Nat → Nat → Int → World → Prop) : Prop :=
  New (.cells #[.int .i64 (0 : Int), .int .i64 (0 : Int), .int .i64 (0 : Int), .slice none 0 0] 34) w fun b4 w1 =>
  framem_check.Call raw_b raw_l raw_c w1 fun r8 w2 =>
  Bm (r8 != (0 : Int)) (
    Pn l fun a =>
    LdI .i64 ((a.add 1).add 2) w2 fun x15 =>
    Pn l fun a_1 =>
    Sts [.int .i64 (IntKind.i64.wrap (x15 + (1 : Int)))] ((a_1.add 1).add 2) 0 w2 fun w3 =>
    Sts [.int .i64 (0 : Int), .int .i64 (0 : Int), .int .i64 (0 : Int), .slice none 0 0] ⟨b4, 0, none⟩ 0 w3 fun w4 =>
    LdI .i64 ⟨b4, 0, none⟩ w4 fun r_0 =>
    LdI .i64 ⟨b4, 1, none⟩ w4 fun r_1 =>
    LdI .i64 ⟨b4, 2, none⟩ w4 fun r_2 =>
    LdL ⟨b4, 3, none⟩ w4 fun r_3_b r_3_l r_3_c =>
    R r_0 r_1 r_2 r_3_b r_3_l r_3_c r8 w4) (
    Pn raw_b fun a_2 =>
    (0 ≤ (0 : Int) ∧ (0 : Int) < ((raw_l : Nat) : Int)) ∧
    LdI .u8 a_2 w2.drew fun x24 =>
    Pn l fun a_3 =>
    LdI .i64 a_3 w2.drew fun x29 =>
    Bm ((IntKind.i64.wrap x24) != x29) (
      Pn l fun a_4 =>
      LdI .i64 ((a_4.add 1).add 3) w2.drew fun x35 =>
      Pn l fun a_5 =>
      Sts [.int .i64 (IntKind.i64.wrap (x35 + (1 : Int)))] ((a_5.add 1).add 3) 0 w2.drew fun w5 =>
      Sts [.int .i64 (0 : Int), .int .i64 (0 : Int), .int .i64 (0 : Int), .slice none 0 0] ⟨b4, 0, none⟩ 0 w5 fun w6 =>
      LdI .i64 ⟨b4, 0, none⟩ w6 fun r_0_1 =>
      LdI .i64 ⟨b4, 1, none⟩ w6 fun r_1_1 =>
      LdI .i64 ⟨b4, 2, none⟩ w6 fun r_2_1 =>
      LdL ⟨b4, 3, none⟩ w6 fun r_3_b_1 r_3_l_1 r_3_c_1 =>
      R r_0_1 r_1_1 r_2_1 r_3_b_1 r_3_l_1 r_3_c_1 (7 : Int) w6) (
      Pn l fun a_6 =>
      LdI .i64 ((a_6.add 1).add 1) w2.drew fun x45 =>
      Pn l fun a_7 =>
      Sts [.int .i64 (IntKind.i64.wrap (x45 + (1 : Int)))] ((a_7.add 1).add 1) 0 w2.drew fun w7 =>
      Pn raw_b fun a_8 =>
      (0 ≤ (0 : Int) ∧ (0 : Int) < ((raw_l : Nat) : Int)) ∧
      LdI .u8 a_8 w7.drew fun x52 =>
      Pn raw_b fun a_9 =>
      (0 ≤ (1 : Int) ∧ (1 : Int) < ((raw_l : Nat) : Int)) ∧
      LdI .u8 (a_9.add 1) w7.drew fun x56 =>
      Pn raw_b fun a_10 =>
      (0 ≤ (2 : Int) ∧ (2 : Int) < ((raw_l : Nat) : Int)) ∧
      LdI .u8 (a_10.add 2) w7.drew fun x60 =>
      (0 ≤ (IntKind.i64.wrap (((raw_l : Nat) : Int) - (2 : Int))) ∧ (IntKind.i64.wrap (((raw_l : Nat) : Int) - (2 : Int))) ≤ ((raw_c : Nat) : Int)) ∧
      (0 ≤ (4 : Int) ∧ (4 : Int) ≤ (IntKind.i64.wrap (((raw_l : Nat) : Int) - (2 : Int)))) ∧
      api_CopyBytes.Call (slBase raw_b (4 : Int) ((raw_c : Nat) : Int) 1) ((IntKind.i64.wrap (((raw_l : Nat) : Int) - (2 : Int))).toNat - (4 : Int).toNat) (((raw_c : Nat) : Int).toNat - (4 : Int).toNat) w7.drew fun r67_b r67_l r67_c w8 =>
      w8.cell? (a_10.add 2) = some (.int .u8 x60) ∧
      w8.cell? (a_9.add 1) = some (.int .u8 x56) ∧
      w8.cell? a_8 = some (.int .u8 x52) ∧
      Sts [.int .i64 (IntKind.i64.wrap x52), .int .i64 (IntKind.i64.wrap x56), .int .i64 (IntKind.i64.wrap x60), .slice r67_b r67_l r67_c] ⟨b4, 0, none⟩ 0 w8 fun w9 =>
      LdI .i64 ⟨b4, 0, none⟩ w9 fun r_0_2 =>
      LdI .i64 ⟨b4, 1, none⟩ w9 fun r_1_2 =>
      LdI .i64 ⟨b4, 2, none⟩ w9 fun r_2_2 =>
      LdL ⟨b4, 3, none⟩ w9 fun r_3_b_2 r_3_l_2 r_3_c_2 =>
      R r_0_2 r_1_2 r_2_2 r_3_b_2 r_3_l_2 r_3_c_2 (0 : Int) w9))
theorem framem_Link_Decode.B0_eq (l raw_b : Option Addr) (raw_l raw_c : Nat) (w : World)   (R : Int → Int → Int → Option Addr → Nat → Nat → Int → World → Prop)  :
    (
  New (.cells #[.int .i64 (0 : Int), .int .i64 (0 : Int), .int .i64 (0 : Int), .slice none 0 0] 34) w fun b4 w1 =>
  framem_check.Call raw_b raw_l raw_c w1 fun r8 w2 =>
  Bm (r8 != (0 : Int)) (
    Pn l fun a =>
    LdI .i64 ((a.add 1).add 2) w2 fun x15 =>
    Pn l fun a_1 =>
    Sts [.int .i64 (IntKind.i64.wrap (x15 + (1 : Int)))] ((a_1.add 1).add 2) 0 w2 fun w3 =>
    Sts [.int .i64 (0 : Int), .int .i64 (0 : Int), .int .i64 (0 : Int), .slice none 0 0] ⟨b4, 0, none⟩ 0 w3 fun w4 =>
    LdI .i64 ⟨b4, 0, none⟩ w4 fun r_0 =>
    LdI .i64 ⟨b4, 1, none⟩ w4 fun r_1 =>
    LdI .i64 ⟨b4, 2, none⟩ w4 fun r_2 =>
    LdL ⟨b4, 3, none⟩ w4 fun r_3_b r_3_l r_3_c =>
    R r_0 r_1 r_2 r_3_b r_3_l r_3_c r8 w4) (
    Pn raw_b fun a_2 =>
    (0 ≤ (0 : Int) ∧ (0 : Int) < ((raw_l : Nat) : Int)) ∧
    LdI .u8 a_2 w2.drew fun x24 =>
    Pn l fun a_3 =>
    LdI .i64 a_3 w2.drew fun x29 =>
    Bm ((IntKind.i64.wrap x24) != x29) (
      Pn l fun a_4 =>
      LdI .i64 ((a_4.add 1).add 3) w2.drew fun x35 =>
      Pn l fun a_5 =>
      Sts [.int .i64 (IntKind.i64.wrap (x35 + (1 : Int)))] ((a_5.add 1).add 3) 0 w2.drew fun w5 =>
      Sts [.int .i64 (0 : Int), .int .i64 (0 : Int), .int .i64 (0 : Int), .slice none 0 0] ⟨b4, 0, none⟩ 0 w5 fun w6 =>
      LdI .i64 ⟨b4, 0, none⟩ w6 fun r_0_1 =>
      LdI .i64 ⟨b4, 1, none⟩ w6 fun r_1_1 =>
      LdI .i64 ⟨b4, 2, none⟩ w6 fun r_2_1 =>
      LdL ⟨b4, 3, none⟩ w6 fun r_3_b_1 r_3_l_1 r_3_c_1 =>
      R r_0_1 r_1_1 r_2_1 r_3_b_1 r_3_l_1 r_3_c_1 (7 : Int) w6) (
      Pn l fun a_6 =>
      LdI .i64 ((a_6.add 1).add 1) w2.drew fun x45 =>
      Pn l fun a_7 =>
      Sts [.int .i64 (IntKind.i64.wrap (x45 + (1 : Int)))] ((a_7.add 1).add 1) 0 w2.drew fun w7 =>
      Pn raw_b fun a_8 =>
      (0 ≤ (0 : Int) ∧ (0 : Int) < ((raw_l : Nat) : Int)) ∧
      LdI .u8 a_8 w7.drew fun x52 =>
      Pn raw_b fun a_9 =>
      (0 ≤ (1 : Int) ∧ (1 : Int) < ((raw_l : Nat) : Int)) ∧
      LdI .u8 (a_9.add 1) w7.drew fun x56 =>
      Pn raw_b fun a_10 =>
      (0 ≤ (2 : Int) ∧ (2 : Int) < ((raw_l : Nat) : Int)) ∧
      LdI .u8 (a_10.add 2) w7.drew fun x60 =>
      (0 ≤ (IntKind.i64.wrap (((raw_l : Nat) : Int) - (2 : Int))) ∧ (IntKind.i64.wrap (((raw_l : Nat) : Int) - (2 : Int))) ≤ ((raw_c : Nat) : Int)) ∧
      (0 ≤ (4 : Int) ∧ (4 : Int) ≤ (IntKind.i64.wrap (((raw_l : Nat) : Int) - (2 : Int)))) ∧
      api_CopyBytes.Call (slBase raw_b (4 : Int) ((raw_c : Nat) : Int) 1) ((IntKind.i64.wrap (((raw_l : Nat) : Int) - (2 : Int))).toNat - (4 : Int).toNat) (((raw_c : Nat) : Int).toNat - (4 : Int).toNat) w7.drew fun r67_b r67_l r67_c w8 =>
      w8.cell? (a_10.add 2) = some (.int .u8 x60) ∧
      w8.cell? (a_9.add 1) = some (.int .u8 x56) ∧
      w8.cell? a_8 = some (.int .u8 x52) ∧
      Sts [.int .i64 (IntKind.i64.wrap x52), .int .i64 (IntKind.i64.wrap x56), .int .i64 (IntKind.i64.wrap x60), .slice r67_b r67_l r67_c] ⟨b4, 0, none⟩ 0 w8 fun w9 =>
      LdI .i64 ⟨b4, 0, none⟩ w9 fun r_0_2 =>
      LdI .i64 ⟨b4, 1, none⟩ w9 fun r_1_2 =>
      LdI .i64 ⟨b4, 2, none⟩ w9 fun r_2_2 =>
      LdL ⟨b4, 3, none⟩ w9 fun r_3_b_2 r_3_l_2 r_3_c_2 =>
      R r_0_2 r_1_2 r_2_2 r_3_b_2 r_3_l_2 r_3_c_2 (0 : Int) w9))) = kstep Try.prog 69 Try.f28.results.toList (Try.f28.body.getD .skip) (framem_Link_Decode.RV R) (kvc Try.prog 69 Try.f28.results.toList (Try.f28.body.getD .skip) (framem_Link_Decode.RV R) [] 2000) [(0, [])] [(0, .pointer l), (1, .slice raw_b raw_l raw_c)] w := by kernel_rfl
theorem framem_Link_Decode.B0_sound {R : Int → Int → Int → Option Addr → Nat → Nat → Int → World → Prop}  (l raw_b : Option Addr) (raw_l raw_c : Nat) (w : World) (h : framem_Link_Decode.B0 l raw_b raw_l raw_c w   R) :
    KW Try.prog 28 69 (framem_Link_Decode.RV R) ([(0, [])].map (toItem (Try.f28.body.getD .skip))) [(0, .pointer l), (1, .slice raw_b raw_l raw_c)] w := by
  exact block_spec Try.func28 Try.mixed stops_nil (Eq.mp (framem_Link_Decode.B0_eq l raw_b raw_l raw_c w   R ) h)
theorem framem_Link_Decode.sound (l raw_b : Option Addr) (raw_l raw_c : Nat) (w : World) (R : Int → Int → Int → Option Addr → Nat → Nat → Int → World → Prop) (h : framem_Link_Decode.B0 l raw_b raw_l raw_c w R) : framem_Link_Decode.Call l raw_b raw_l raw_c w R := by
  have hc := calls_of_block (args := #[.pointer l, .slice raw_b raw_l raw_c]) Try.func28 (body := (Try.f28.body.getD .skip)) (by kernel_rfl) (by kernel_rfl) (args_slot _) (framem_Link_Decode.B0_sound l raw_b raw_l raw_c w h)
  exact hc.mono fun e w' he => by
    obtain ⟨v, rfl, hv⟩ := he
    exact framem_Link_Decode.RV_elim hv
def framelaw_SameFrame.B0 (f_0 f_1 f_2 : Int) (f_3_b : Option Addr) (f_3_l f_3_c : Nat) (g_0 g_1 g_2 : Int) (g_3_b : Option Addr) (g_3_l g_3_c : Nat) (w : World)   (R : Bool → World → Prop) : Prop :=
  New (.cells #[.int .i64 f_0, .int .i64 f_1, .int .i64 f_2, .slice f_3_b f_3_l f_3_c] 34) w fun f_ w1 =>
  New (.cells #[.int .i64 g_0, .int .i64 g_1, .int .i64 g_2, .slice g_3_b g_3_l g_3_c] 34) w1 fun g_ w2 =>
  LdI .i64 ⟨f_, 0, none⟩ w2 fun x6 =>
  LdI .i64 ⟨g_, 0, none⟩ w2 fun x8 =>
  Bm (x6 == x8) (
    LdI .i64 ⟨f_, 1, none⟩ w2 fun x12 =>
    LdI .i64 ⟨g_, 1, none⟩ w2 fun x14 =>
    Bm (x12 == x14) (
      LdI .i64 ⟨f_, 2, none⟩ w2 fun x19 =>
      LdI .i64 ⟨g_, 2, none⟩ w2 fun x21 =>
      Bm (x19 == x21) (
        LdL ⟨f_, 3, none⟩ w2 fun x26_b x26_l x26_c =>
        LdL ⟨g_, 3, none⟩ w2 fun x28_b x28_l x28_c =>
        api_SameBytes.Call x26_b x26_l x26_c x28_b x28_l x28_c w2 fun r29 w3 =>
        R r29 w3) (
        R false w2)) (
      R false w2)) (
    R false w2)
theorem framelaw_SameFrame.B0_eq (f_0 f_1 f_2 : Int) (f_3_b : Option Addr) (f_3_l f_3_c : Nat) (g_0 g_1 g_2 : Int) (g_3_b : Option Addr) (g_3_l g_3_c : Nat) (w : World)   (R : Bool → World → Prop)  :
    (
  New (.cells #[.int .i64 f_0, .int .i64 f_1, .int .i64 f_2, .slice f_3_b f_3_l f_3_c] 34) w fun f_ w1 =>
  New (.cells #[.int .i64 g_0, .int .i64 g_1, .int .i64 g_2, .slice g_3_b g_3_l g_3_c] 34) w1 fun g_ w2 =>
  LdI .i64 ⟨f_, 0, none⟩ w2 fun x6 =>
  LdI .i64 ⟨g_, 0, none⟩ w2 fun x8 =>
  Bm (x6 == x8) (
    LdI .i64 ⟨f_, 1, none⟩ w2 fun x12 =>
    LdI .i64 ⟨g_, 1, none⟩ w2 fun x14 =>
    Bm (x12 == x14) (
      LdI .i64 ⟨f_, 2, none⟩ w2 fun x19 =>
      LdI .i64 ⟨g_, 2, none⟩ w2 fun x21 =>
      Bm (x19 == x21) (
        LdL ⟨f_, 3, none⟩ w2 fun x26_b x26_l x26_c =>
        LdL ⟨g_, 3, none⟩ w2 fun x28_b x28_l x28_c =>
        api_SameBytes.Call x26_b x26_l x26_c x28_b x28_l x28_c w2 fun r29 w3 =>
        R r29 w3) (
        R false w2)) (
      R false w2)) (
    R false w2)) = kstep Try.prog 31 Try.f29.results.toList (Try.f29.body.getD .skip) (framelaw_SameFrame.RV R) (kvc Try.prog 31 Try.f29.results.toList (Try.f29.body.getD .skip) (framelaw_SameFrame.RV R) [] 2000) [(0, [])] [(0, .agg #[.int .i64 f_0, .int .i64 f_1, .int .i64 f_2, .slice f_3_b f_3_l f_3_c]), (1, .agg #[.int .i64 g_0, .int .i64 g_1, .int .i64 g_2, .slice g_3_b g_3_l g_3_c])] w := by kernel_rfl
theorem framelaw_SameFrame.B0_sound {R : Bool → World → Prop}  (f_0 f_1 f_2 : Int) (f_3_b : Option Addr) (f_3_l f_3_c : Nat) (g_0 g_1 g_2 : Int) (g_3_b : Option Addr) (g_3_l g_3_c : Nat) (w : World) (h : framelaw_SameFrame.B0 f_0 f_1 f_2 f_3_b f_3_l f_3_c g_0 g_1 g_2 g_3_b g_3_l g_3_c w   R) :
    KW Try.prog 29 31 (framelaw_SameFrame.RV R) ([(0, [])].map (toItem (Try.f29.body.getD .skip))) [(0, .agg #[.int .i64 f_0, .int .i64 f_1, .int .i64 f_2, .slice f_3_b f_3_l f_3_c]), (1, .agg #[.int .i64 g_0, .int .i64 g_1, .int .i64 g_2, .slice g_3_b g_3_l g_3_c])] w := by
  exact block_spec Try.func29 Try.mixed stops_nil (Eq.mp (framelaw_SameFrame.B0_eq f_0 f_1 f_2 f_3_b f_3_l f_3_c g_0 g_1 g_2 g_3_b g_3_l g_3_c w   R ) h)
theorem framelaw_SameFrame.sound (f_0 f_1 f_2 : Int) (f_3_b : Option Addr) (f_3_l f_3_c : Nat) (g_0 g_1 g_2 : Int) (g_3_b : Option Addr) (g_3_l g_3_c : Nat) (w : World) (R : Bool → World → Prop) (h : framelaw_SameFrame.B0 f_0 f_1 f_2 f_3_b f_3_l f_3_c g_0 g_1 g_2 g_3_b g_3_l g_3_c w R) : framelaw_SameFrame.Call f_0 f_1 f_2 f_3_b f_3_l f_3_c g_0 g_1 g_2 g_3_b g_3_l g_3_c w R := by
  have hc := calls_of_block (args := #[.agg #[.int .i64 f_0, .int .i64 f_1, .int .i64 f_2, .slice f_3_b f_3_l f_3_c], .agg #[.int .i64 g_0, .int .i64 g_1, .int .i64 g_2, .slice g_3_b g_3_l g_3_c]]) Try.func29 (body := (Try.f29.body.getD .skip)) (by kernel_rfl) (by kernel_rfl) (args_slot _) (framelaw_SameFrame.B0_sound f_0 f_1 f_2 f_3_b f_3_l f_3_c g_0 g_1 g_2 g_3_b g_3_l g_3_c w h)
  exact hc.mono fun e w' he => by
    obtain ⟨v, rfl, hv⟩ := he
    exact framelaw_SameFrame.RV_elim hv
def frame_Link_Addr.B0 (l : Option Addr) (w : World)   (R : Int → World → Prop) : Prop :=
  Pn l fun a =>
  LdI .u8 a w fun x6 =>
  R (IntKind.i64.wrap x6) w
theorem frame_Link_Addr.B0_eq (l : Option Addr) (w : World)   (R : Int → World → Prop)  :
    (
  Pn l fun a =>
  LdI .u8 a w fun x6 =>
  R (IntKind.i64.wrap x6) w) = kstep Try.prog 8 Try.f30.results.toList (Try.f30.body.getD .skip) (frame_Link_Addr.RV R) (kvc Try.prog 8 Try.f30.results.toList (Try.f30.body.getD .skip) (frame_Link_Addr.RV R) [] 2000) [(0, [])] [(0, .pointer l)] w := by kernel_rfl
theorem frame_Link_Addr.B0_sound {R : Int → World → Prop}  (l : Option Addr) (w : World) (h : frame_Link_Addr.B0 l w   R) :
    KW Try.prog 30 8 (frame_Link_Addr.RV R) ([(0, [])].map (toItem (Try.f30.body.getD .skip))) [(0, .pointer l)] w := by
  exact block_spec Try.func30 Try.mixed stops_nil (Eq.mp (frame_Link_Addr.B0_eq l w   R ) h)
theorem frame_Link_Addr.sound (l : Option Addr) (w : World) (R : Int → World → Prop) (h : frame_Link_Addr.B0 l w R) : frame_Link_Addr.Call l w R := by
  have hc := calls_of_block (args := #[.pointer l]) Try.func30 (body := (Try.f30.body.getD .skip)) (by kernel_rfl) (by kernel_rfl) (args_slot _) (frame_Link_Addr.B0_sound l w h)
  exact hc.mono fun e w' he => by
    obtain ⟨v, rfl, hv⟩ := he
    exact frame_Link_Addr.RV_elim hv
def frame_Link_Stats.B0 (l : Option Addr) (w : World)   (R : Int → Int → Int → Int → World → Prop) : Prop :=
  New (.cells #[.int .i64 (0 : Int), .int .i64 (0 : Int), .int .i64 (0 : Int), .int .i64 (0 : Int)] 48) w fun b2 w1 =>
  Pn l fun a =>
  (0 ≤ (0 : Int) ∧ (0 : Int) < ((4 : Nat) : Int)) ∧
  LdI .i64 (a.add 1) w1.drew fun x7 =>
  Pn l fun a_1 =>
  (0 ≤ (1 : Int) ∧ (1 : Int) < ((4 : Nat) : Int)) ∧
  LdI .i64 ((a_1.add 1).add 1) w1.drew fun x12 =>
  Pn l fun a_2 =>
  (0 ≤ (2 : Int) ∧ (2 : Int) < ((4 : Nat) : Int)) ∧
  LdI .i64 ((a_2.add 1).add 2) w1.drew fun x17 =>
  Pn l fun a_3 =>
  (0 ≤ (3 : Int) ∧ (3 : Int) < ((4 : Nat) : Int)) ∧
  LdI .i64 ((a_3.add 1).add 3) w1.drew fun x22 =>
  Sts [.int .i64 x7, .int .i64 x12, .int .i64 x17, .int .i64 x22] ⟨b2, 0, none⟩ 0 w1.drew fun w2 =>
  LdI .i64 ⟨b2, 0, none⟩ w2 fun r_0 =>
  LdI .i64 ⟨b2, 1, none⟩ w2 fun r_1 =>
  LdI .i64 ⟨b2, 2, none⟩ w2 fun r_2 =>
  LdI .i64 ⟨b2, 3, none⟩ w2 fun r_3 =>
  R r_0 r_1 r_2 r_3 w2
theorem frame_Link_Stats.B0_eq (l : Option Addr) (w : World)   (R : Int → Int → Int → Int → World → Prop)  :
    (
  New (.cells #[.int .i64 (0 : Int), .int .i64 (0 : Int), .int .i64 (0 : Int), .int .i64 (0 : Int)] 48) w fun b2 w1 =>
  Pn l fun a =>
  (0 ≤ (0 : Int) ∧ (0 : Int) < ((4 : Nat) : Int)) ∧
  LdI .i64 (a.add 1) w1.drew fun x7 =>
  Pn l fun a_1 =>
  (0 ≤ (1 : Int) ∧ (1 : Int) < ((4 : Nat) : Int)) ∧
  LdI .i64 ((a_1.add 1).add 1) w1.drew fun x12 =>
  Pn l fun a_2 =>
  (0 ≤ (2 : Int) ∧ (2 : Int) < ((4 : Nat) : Int)) ∧
  LdI .i64 ((a_2.add 1).add 2) w1.drew fun x17 =>
  Pn l fun a_3 =>
  (0 ≤ (3 : Int) ∧ (3 : Int) < ((4 : Nat) : Int)) ∧
  LdI .i64 ((a_3.add 1).add 3) w1.drew fun x22 =>
  Sts [.int .i64 x7, .int .i64 x12, .int .i64 x17, .int .i64 x22] ⟨b2, 0, none⟩ 0 w1.drew fun w2 =>
  LdI .i64 ⟨b2, 0, none⟩ w2 fun r_0 =>
  LdI .i64 ⟨b2, 1, none⟩ w2 fun r_1 =>
  LdI .i64 ⟨b2, 2, none⟩ w2 fun r_2 =>
  LdI .i64 ⟨b2, 3, none⟩ w2 fun r_3 =>
  R r_0 r_1 r_2 r_3 w2) = kstep Try.prog 24 Try.f31.results.toList (Try.f31.body.getD .skip) (frame_Link_Stats.RV R) (kvc Try.prog 24 Try.f31.results.toList (Try.f31.body.getD .skip) (frame_Link_Stats.RV R) [] 2000) [(0, [])] [(0, .pointer l)] w := by kernel_rfl
theorem frame_Link_Stats.B0_sound {R : Int → Int → Int → Int → World → Prop}  (l : Option Addr) (w : World) (h : frame_Link_Stats.B0 l w   R) :
    KW Try.prog 31 24 (frame_Link_Stats.RV R) ([(0, [])].map (toItem (Try.f31.body.getD .skip))) [(0, .pointer l)] w := by
  exact block_spec Try.func31 Try.mixed stops_nil (Eq.mp (frame_Link_Stats.B0_eq l w   R ) h)
theorem frame_Link_Stats.sound (l : Option Addr) (w : World) (R : Int → Int → Int → Int → World → Prop) (h : frame_Link_Stats.B0 l w R) : frame_Link_Stats.Call l w R := by
  have hc := calls_of_block (args := #[.pointer l]) Try.func31 (body := (Try.f31.body.getD .skip)) (by kernel_rfl) (by kernel_rfl) (args_slot _) (frame_Link_Stats.B0_sound l w h)
  exact hc.mono fun e w' he => by
    obtain ⟨v, rfl, hv⟩ := he
    exact frame_Link_Stats.RV_elim hv
def framem_Link_Stats.B0 (l : Option Addr) (w : World)   (R : Int → Int → Int → Int → World → Prop) : Prop :=
  New (.cells #[.int .i64 (0 : Int), .int .i64 (0 : Int), .int .i64 (0 : Int), .int .i64 (0 : Int)] 48) w fun b2 w1 =>
  Pn l fun a =>
  LdI .i64 (a.add 1) w1 fun x6_0 =>
  LdI .i64 ((a.add 1).add 1) w1 fun x6_1 =>
  LdI .i64 ((a.add 1).add 2) w1 fun x6_2 =>
  LdI .i64 ((a.add 1).add 3) w1 fun x6_3 =>
  Sts [.int .i64 x6_0, .int .i64 x6_1, .int .i64 x6_2, .int .i64 x6_3] ⟨b2, 0, none⟩ 0 w1 fun w2 =>
  LdI .i64 ⟨b2, 0, none⟩ w2 fun r_0 =>
  LdI .i64 ⟨b2, 1, none⟩ w2 fun r_1 =>
  LdI .i64 ⟨b2, 2, none⟩ w2 fun r_2 =>
  LdI .i64 ⟨b2, 3, none⟩ w2 fun r_3 =>
  R r_0 r_1 r_2 r_3 w2
theorem framem_Link_Stats.B0_eq (l : Option Addr) (w : World)   (R : Int → Int → Int → Int → World → Prop)  :
    (
  New (.cells #[.int .i64 (0 : Int), .int .i64 (0 : Int), .int .i64 (0 : Int), .int .i64 (0 : Int)] 48) w fun b2 w1 =>
  Pn l fun a =>
  LdI .i64 (a.add 1) w1 fun x6_0 =>
  LdI .i64 ((a.add 1).add 1) w1 fun x6_1 =>
  LdI .i64 ((a.add 1).add 2) w1 fun x6_2 =>
  LdI .i64 ((a.add 1).add 3) w1 fun x6_3 =>
  Sts [.int .i64 x6_0, .int .i64 x6_1, .int .i64 x6_2, .int .i64 x6_3] ⟨b2, 0, none⟩ 0 w1 fun w2 =>
  LdI .i64 ⟨b2, 0, none⟩ w2 fun r_0 =>
  LdI .i64 ⟨b2, 1, none⟩ w2 fun r_1 =>
  LdI .i64 ⟨b2, 2, none⟩ w2 fun r_2 =>
  LdI .i64 ⟨b2, 3, none⟩ w2 fun r_3 =>
  R r_0 r_1 r_2 r_3 w2) = kstep Try.prog 7 Try.f32.results.toList (Try.f32.body.getD .skip) (framem_Link_Stats.RV R) (kvc Try.prog 7 Try.f32.results.toList (Try.f32.body.getD .skip) (framem_Link_Stats.RV R) [] 2000) [(0, [])] [(0, .pointer l)] w := by kernel_rfl
theorem framem_Link_Stats.B0_sound {R : Int → Int → Int → Int → World → Prop}  (l : Option Addr) (w : World) (h : framem_Link_Stats.B0 l w   R) :
    KW Try.prog 32 7 (framem_Link_Stats.RV R) ([(0, [])].map (toItem (Try.f32.body.getD .skip))) [(0, .pointer l)] w := by
  exact block_spec Try.func32 Try.mixed stops_nil (Eq.mp (framem_Link_Stats.B0_eq l w   R ) h)
theorem framem_Link_Stats.sound (l : Option Addr) (w : World) (R : Int → Int → Int → Int → World → Prop) (h : framem_Link_Stats.B0 l w R) : framem_Link_Stats.Call l w R := by
  have hc := calls_of_block (args := #[.pointer l]) Try.func32 (body := (Try.f32.body.getD .skip)) (by kernel_rfl) (by kernel_rfl) (args_slot _) (framem_Link_Stats.B0_sound l w h)
  exact hc.mono fun e w' he => by
    obtain ⟨v, rfl, hv⟩ := he
    exact framem_Link_Stats.RV_elim hv
def frame_Sum_AddAll.L1b (u p_b : Option Addr) (p_l p_c : Nat) (i : Int) (w : World)  (N1 : Option Addr → Option Addr → Nat → Nat → Int → World → Prop) (R : World → Prop) : Prop :=
  Bm (decide (i < ((p_l : Nat) : Int))) (
    Pn p_b fun a =>
    (0 ≤ i ∧ i < ((p_l : Nat) : Int)) ∧
    LdI .u8 (Addr.add a (i.toNat * 1)) w fun x15 =>
    frame_Sum_Add.Call u x15 w fun w1 =>
    N1 u p_b p_l p_c (IntKind.i64.wrap (i + (1 : Int))) w1) (
    R  w)
theorem frame_Sum_AddAll.L1b_eq (u p_b : Option Addr) (p_l p_c : Nat) (i : Int) (w : World)  (N1 : Option Addr → Option Addr → Nat → Nat → Int → World → Prop) (R : World → Prop)  :
    (
  Bm (decide (i < ((p_l : Nat) : Int))) (
    Pn p_b fun a =>
    (0 ≤ i ∧ i < ((p_l : Nat) : Int)) ∧
    LdI .u8 (Addr.add a (i.toNat * 1)) w fun x15 =>
    frame_Sum_Add.Call u x15 w fun w1 =>
    N1 u p_b p_l p_c (IntKind.i64.wrap (i + (1 : Int))) w1) (
    R  w)) = kstep Try.prog 17 Try.f33.results.toList (Try.f33.body.getD .skip) (frame_Sum_AddAll.RV R) (kvc Try.prog 17 Try.f33.results.toList (Try.f33.body.getD .skip) (frame_Sum_AddAll.RV R) [([(0, [1, 0, 0]), (2, [1, 0, 0]), (1, [0])], fun σ w => dP (slotOf σ 0) fun u_ => dL (slotOf σ 1) fun p_b_ p_l_ p_c_ => dI .i64 (slotOf σ 4) fun i_ => N1 u_ p_b_ p_l_ p_c_ i_ w)] 2000) [(0, [1, 0, 0]), (2, [1, 0, 0]), (1, [0])] [(0, .pointer u), (1, .slice p_b p_l p_c), (4, .int .i64 i)] w := by kernel_rfl
theorem frame_Sum_AddAll.L1b_sound {R : World → Prop} {N1 : Option Addr → Option Addr → Nat → Nat → Int → World → Prop} (hN1 : ∀ u p_b p_l p_c i w, N1 u p_b p_l p_c i w → KW Try.prog 33 17 (frame_Sum_AddAll.RV R) ([(0, [1, 0, 0]), (2, [1, 0, 0]), (1, [0])].map (toItem (Try.f33.body.getD .skip))) [(0, .pointer u), (1, .slice p_b p_l p_c), (4, .int .i64 i)] w) (u p_b : Option Addr) (p_l p_c : Nat) (i : Int) (w : World) (h : frame_Sum_AddAll.L1b u p_b p_l p_c i w  N1 R) :
    KW Try.prog 33 17 (frame_Sum_AddAll.RV R) ([(0, [1, 0, 0]), (2, [1, 0, 0]), (1, [0])].map (toItem (Try.f33.body.getD .skip))) [(0, .pointer u), (1, .slice p_b p_l p_c), (4, .int .i64 i)] w := by
  exact block_spec Try.func33 Try.mixed (stops_cons (fun σ w h => by
      obtain ⟨u_, e0, h⟩ := dP_elim h
      obtain ⟨p_b_, p_l_, p_c_, e1, h⟩ := dL_elim h
      obtain ⟨i_, e2, h⟩ := dI_elim h
      exact (hN1 u_ p_b_ p_l_ p_c_ i_ w h).weaken (Sub.cons (Sub.cons (Sub.cons (Sub.nil _) e2) e1) e0)) stops_nil) (Eq.mp (frame_Sum_AddAll.L1b_eq u p_b p_l p_c i w  N1 R ) h)
def frame_Sum_AddAll.L1 (u p_b : Option Addr) (p_l p_c : Nat) (i : Int) (w : World)  (R : World → Prop) : Prop :=
  ∃ (I : Nat → Option Addr → Option Addr → Nat → Nat → Int → World → Prop) (m : Nat), I m u p_b p_l p_c i w ∧ ∀ m u p_b p_l p_c i w, I m u p_b p_l p_c i w → frame_Sum_AddAll.L1b u p_b p_l p_c i w  (fun u' p_b' p_l' p_c' i' w' => ∃ m', m' < m ∧ I m' u' p_b' p_l' p_c' i' w') R
theorem frame_Sum_AddAll.L1_sound {R : World → Prop}  (u p_b : Option Addr) (p_l p_c : Nat) (i : Int) (w : World) (h : frame_Sum_AddAll.L1 u p_b p_l p_c i w  R) :
    KW Try.prog 33 17 (frame_Sum_AddAll.RV R) ([(0, [1, 0, 0]), (2, [1, 0, 0]), (1, [0])].map (toItem (Try.f33.body.getD .skip))) [(0, .pointer u), (1, .slice p_b p_l p_c), (4, .int .i64 i)] w := by
  obtain ⟨I, m, h0, hr⟩ := h
  refine KW.loop (fun m σ w => ∃ (u p_b : Option Addr) (p_l p_c : Nat) (i : Int), σ = [(0, .pointer u), (1, .slice p_b p_l p_c), (4, .int .i64 i)] ∧ I m u p_b p_l p_c i w) ?_ m _ w ⟨u, p_b, p_l, p_c, i, rfl, h0⟩
  rintro m ih σ w ⟨u, p_b, p_l, p_c, i, rfl, hI⟩
  exact frame_Sum_AddAll.L1b_sound  (N1 := fun u' p_b' p_l' p_c' i' w' => ∃ m', m' < m ∧ I m' u' p_b' p_l' p_c' i' w') (fun u' p_b' p_l' p_c' i' w' hx => by obtain ⟨m', hlt, hI'⟩ := hx; exact ih m' hlt _ w' ⟨u', p_b', p_l', p_c', i', rfl, hI'⟩) u p_b p_l p_c i w (hr m u p_b p_l p_c i w hI)
def frame_Sum_AddAll.B0 (u p_b : Option Addr) (p_l p_c : Nat) (w : World)   (R : World → Prop) : Prop :=
  frame_Sum_AddAll.L1 u p_b p_l p_c (0 : Int) w  R
theorem frame_Sum_AddAll.B0_eq (u p_b : Option Addr) (p_l p_c : Nat) (w : World)   (R : World → Prop) (sL1 : Option Addr → Option Addr → Nat → Nat → Int → World → Prop) :
    (
  sL1 u p_b p_l p_c (0 : Int) w) = kstep Try.prog 17 Try.f33.results.toList (Try.f33.body.getD .skip) (frame_Sum_AddAll.RV R) (kvc Try.prog 17 Try.f33.results.toList (Try.f33.body.getD .skip) (frame_Sum_AddAll.RV R) [([(0, [1, 0, 0]), (2, [1, 0, 0]), (1, [0])], fun σ w => dP (slotOf σ 0) fun u_ => dL (slotOf σ 1) fun p_b_ p_l_ p_c_ => dI .i64 (slotOf σ 4) fun i_ => sL1 u_ p_b_ p_l_ p_c_ i_ w)] 2000) [(0, [])] [(0, .pointer u), (1, .slice p_b p_l p_c)] w := by kernel_rfl
theorem frame_Sum_AddAll.B0_sound {R : World → Prop}  (u p_b : Option Addr) (p_l p_c : Nat) (w : World) (h : frame_Sum_AddAll.B0 u p_b p_l p_c w   R) :
    KW Try.prog 33 17 (frame_Sum_AddAll.RV R) ([(0, [])].map (toItem (Try.f33.body.getD .skip))) [(0, .pointer u), (1, .slice p_b p_l p_c)] w := by
  exact block_spec Try.func33 Try.mixed (stops_cons (fun σ w h => by
      obtain ⟨u_, e0, h⟩ := dP_elim h
      obtain ⟨p_b_, p_l_, p_c_, e1, h⟩ := dL_elim h
      obtain ⟨i_, e2, h⟩ := dI_elim h
      exact (frame_Sum_AddAll.L1_sound  u_ p_b_ p_l_ p_c_ i_ w h).weaken (Sub.cons (Sub.cons (Sub.cons (Sub.nil _) e2) e1) e0)) stops_nil) (Eq.mp (frame_Sum_AddAll.B0_eq u p_b p_l p_c w   R (fun u_ p_b_ p_l_ p_c_ i_ w => frame_Sum_AddAll.L1 u_ p_b_ p_l_ p_c_ i_ w  R)) h)
theorem frame_Sum_AddAll.sound (u p_b : Option Addr) (p_l p_c : Nat) (w : World) (R : World → Prop) (h : frame_Sum_AddAll.B0 u p_b p_l p_c w R) : frame_Sum_AddAll.Call u p_b p_l p_c w R := by
  have hc := calls_of_block (args := #[.pointer u, .slice p_b p_l p_c]) Try.func33 (body := (Try.f33.body.getD .skip)) (by kernel_rfl) (by kernel_rfl) (args_slot _) (frame_Sum_AddAll.B0_sound u p_b p_l p_c w h)
  exact hc.mono fun e w' he => by
    obtain ⟨v, rfl, hv⟩ := he
    exact frame_Sum_AddAll.RV_elim hv
def frame_Sum_Add.B0 (u : Option Addr) (b : Int) (w : World)   (R : World → Prop) : Prop :=
  Pn u fun a =>
  LdI .u8 a w fun x7 =>
  Pn u fun a_1 =>
  Sts [.int .u8 (IntKind.u8.wrap (x7 + b))] a_1 0 w fun w1 =>
  Pn u fun a_2 =>
  LdI .u8 (a_2.add 1) w1.drew fun x15 =>
  Pn u fun a_3 =>
  LdI .u8 a_3 w1.drew fun x19 =>
  Pn u fun a_4 =>
  Sts [.int .u8 (IntKind.u8.wrap (x15 + x19))] (a_4.add 1) 0 w1.drew fun w2 =>
  R  w2
theorem frame_Sum_Add.B0_eq (u : Option Addr) (b : Int) (w : World)   (R : World → Prop)  :
    (
  Pn u fun a =>
  LdI .u8 a w fun x7 =>
  Pn u fun a_1 =>
  Sts [.int .u8 (IntKind.u8.wrap (x7 + b))] a_1 0 w fun w1 =>
  Pn u fun a_2 =>
  LdI .u8 (a_2.add 1) w1.drew fun x15 =>
  Pn u fun a_3 =>
  LdI .u8 a_3 w1.drew fun x19 =>
  Pn u fun a_4 =>
  Sts [.int .u8 (IntKind.u8.wrap (x15 + x19))] (a_4.add 1) 0 w1.drew fun w2 =>
  R  w2) = kstep Try.prog 23 Try.f34.results.toList (Try.f34.body.getD .skip) (frame_Sum_Add.RV R) (kvc Try.prog 23 Try.f34.results.toList (Try.f34.body.getD .skip) (frame_Sum_Add.RV R) [] 2000) [(0, [])] [(0, .pointer u), (1, .int .u8 b)] w := by kernel_rfl
theorem frame_Sum_Add.B0_sound {R : World → Prop}  (u : Option Addr) (b : Int) (w : World) (h : frame_Sum_Add.B0 u b w   R) :
    KW Try.prog 34 23 (frame_Sum_Add.RV R) ([(0, [])].map (toItem (Try.f34.body.getD .skip))) [(0, .pointer u), (1, .int .u8 b)] w := by
  exact block_spec Try.func34 Try.mixed stops_nil (Eq.mp (frame_Sum_Add.B0_eq u b w   R ) h)
theorem frame_Sum_Add.sound (u : Option Addr) (b : Int) (w : World) (R : World → Prop) (h : frame_Sum_Add.B0 u b w R) : frame_Sum_Add.Call u b w R := by
  have hc := calls_of_block (args := #[.pointer u, .int .u8 b]) Try.func34 (body := (Try.f34.body.getD .skip)) (by kernel_rfl) (by kernel_rfl) (args_slot _) (frame_Sum_Add.B0_sound u b w h)
  exact hc.mono fun e w' he => by
    obtain ⟨v, rfl, hv⟩ := he
    exact frame_Sum_Add.RV_elim hv
def frame_Sum_A.B0 (u : Option Addr) (w : World)   (R : Int → World → Prop) : Prop :=
  Pn u fun a =>
  LdI .u8 a w fun x6 =>
  R x6 w
theorem frame_Sum_A.B0_eq (u : Option Addr) (w : World)   (R : Int → World → Prop)  :
    (
  Pn u fun a =>
  LdI .u8 a w fun x6 =>
  R x6 w) = kstep Try.prog 7 Try.f35.results.toList (Try.f35.body.getD .skip) (frame_Sum_A.RV R) (kvc Try.prog 7 Try.f35.results.toList (Try.f35.body.getD .skip) (frame_Sum_A.RV R) [] 2000) [(0, [])] [(0, .pointer u)] w := by kernel_rfl
theorem frame_Sum_A.B0_sound {R : Int → World → Prop}  (u : Option Addr) (w : World) (h : frame_Sum_A.B0 u w   R) :
    KW Try.prog 35 7 (frame_Sum_A.RV R) ([(0, [])].map (toItem (Try.f35.body.getD .skip))) [(0, .pointer u)] w := by
  exact block_spec Try.func35 Try.mixed stops_nil (Eq.mp (frame_Sum_A.B0_eq u w   R ) h)
theorem frame_Sum_A.sound (u : Option Addr) (w : World) (R : Int → World → Prop) (h : frame_Sum_A.B0 u w R) : frame_Sum_A.Call u w R := by
  have hc := calls_of_block (args := #[.pointer u]) Try.func35 (body := (Try.f35.body.getD .skip)) (by kernel_rfl) (by kernel_rfl) (args_slot _) (frame_Sum_A.B0_sound u w h)
  exact hc.mono fun e w' he => by
    obtain ⟨v, rfl, hv⟩ := he
    exact frame_Sum_A.RV_elim hv
def frame_Sum_B.B0 (u : Option Addr) (w : World)   (R : Int → World → Prop) : Prop :=
  Pn u fun a =>
  LdI .u8 (a.add 1) w fun x6 =>
  R x6 w
theorem frame_Sum_B.B0_eq (u : Option Addr) (w : World)   (R : Int → World → Prop)  :
    (
  Pn u fun a =>
  LdI .u8 (a.add 1) w fun x6 =>
  R x6 w) = kstep Try.prog 7 Try.f36.results.toList (Try.f36.body.getD .skip) (frame_Sum_B.RV R) (kvc Try.prog 7 Try.f36.results.toList (Try.f36.body.getD .skip) (frame_Sum_B.RV R) [] 2000) [(0, [])] [(0, .pointer u)] w := by kernel_rfl
theorem frame_Sum_B.B0_sound {R : Int → World → Prop}  (u : Option Addr) (w : World) (h : frame_Sum_B.B0 u w   R) :
    KW Try.prog 36 7 (frame_Sum_B.RV R) ([(0, [])].map (toItem (Try.f36.body.getD .skip))) [(0, .pointer u)] w := by
  exact block_spec Try.func36 Try.mixed stops_nil (Eq.mp (frame_Sum_B.B0_eq u w   R ) h)
theorem frame_Sum_B.sound (u : Option Addr) (w : World) (R : Int → World → Prop) (h : frame_Sum_B.B0 u w R) : frame_Sum_B.Call u w R := by
  have hc := calls_of_block (args := #[.pointer u]) Try.func36 (body := (Try.f36.body.getD .skip)) (by kernel_rfl) (by kernel_rfl) (args_slot _) (frame_Sum_B.B0_sound u w h)
  exact hc.mono fun e w' he => by
    obtain ⟨v, rfl, hv⟩ := he
    exact frame_Sum_B.RV_elim hv
def frame_Link_count.B0 (l : Option Addr) (c : Int) (w : World)   (R : World → Prop) : Prop :=
  Pn l fun a =>
  (0 ≤ c ∧ c < ((4 : Nat) : Int)) ∧
  LdI .i64 (Addr.add (a.add 1) (c.toNat * 1)) w.drew fun x9 =>
  Pn l fun a_1 =>
  (0 ≤ c ∧ c < ((4 : Nat) : Int)) ∧
  Sts [.int .i64 (IntKind.i64.wrap (x9 + (1 : Int)))] (Addr.add (a_1.add 1) (c.toNat * 1)) 0 w.drew fun w1 =>
  Pn l fun a_2 =>
  LdI .i64 (a_2.add 5) w1 fun x17 =>
  Pn l fun a_3 =>
  Sts [.int .i64 (IntKind.i64.wrap (x17 + (1 : Int)))] (a_3.add 5) 0 w1 fun w2 =>
  R  w2
theorem frame_Link_count.B0_eq (l : Option Addr) (c : Int) (w : World)   (R : World → Prop)  :
    (
  Pn l fun a =>
  (0 ≤ c ∧ c < ((4 : Nat) : Int)) ∧
  LdI .i64 (Addr.add (a.add 1) (c.toNat * 1)) w.drew fun x9 =>
  Pn l fun a_1 =>
  (0 ≤ c ∧ c < ((4 : Nat) : Int)) ∧
  Sts [.int .i64 (IntKind.i64.wrap (x9 + (1 : Int)))] (Addr.add (a_1.add 1) (c.toNat * 1)) 0 w.drew fun w1 =>
  Pn l fun a_2 =>
  LdI .i64 (a_2.add 5) w1 fun x17 =>
  Pn l fun a_3 =>
  Sts [.int .i64 (IntKind.i64.wrap (x17 + (1 : Int)))] (a_3.add 5) 0 w1 fun w2 =>
  R  w2) = kstep Try.prog 21 Try.f37.results.toList (Try.f37.body.getD .skip) (frame_Link_count.RV R) (kvc Try.prog 21 Try.f37.results.toList (Try.f37.body.getD .skip) (frame_Link_count.RV R) [] 2000) [(0, [])] [(0, .pointer l), (1, .int .i64 c)] w := by kernel_rfl
theorem frame_Link_count.B0_sound {R : World → Prop}  (l : Option Addr) (c : Int) (w : World) (h : frame_Link_count.B0 l c w   R) :
    KW Try.prog 37 21 (frame_Link_count.RV R) ([(0, [])].map (toItem (Try.f37.body.getD .skip))) [(0, .pointer l), (1, .int .i64 c)] w := by
  exact block_spec Try.func37 Try.mixed stops_nil (Eq.mp (frame_Link_count.B0_eq l c w   R ) h)
theorem frame_Link_count.sound (l : Option Addr) (c : Int) (w : World) (R : World → Prop) (h : frame_Link_count.B0 l c w R) : frame_Link_count.Call l c w R := by
  have hc := calls_of_block (args := #[.pointer l, .int .i64 c]) Try.func37 (body := (Try.f37.body.getD .skip)) (by kernel_rfl) (by kernel_rfl) (args_slot _) (frame_Link_count.B0_sound l c w h)
  exact hc.mono fun e w' he => by
    obtain ⟨v, rfl, hv⟩ := he
    exact frame_Link_count.RV_elim hv
end Go.Proofs.Qxb6500423a
