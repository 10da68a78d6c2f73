import Derived.Test.Qxb6500427aSig
set_option maxRecDepth 100000
set_option linter.unusedVariables false
open Go.Vc
namespace Go.Proofs.Qxb6500427a
def socklaw_Untouched.L2b (d : Option Addr) (j i : Int) (w : World) (N1 : Option Addr → Int → World → Prop) (N2 : Option Addr → Int → Int → World → Prop) (R : Bool → World → Prop) : Prop :=
  Pn d fun a =>
  LdL (a.add 2) w fun x18_b x18_l x18_c =>
  Pn x18_b fun a_1 =>
  (0 ≤ j ∧ j < ((x18_l : Nat) : Int)) ∧
  LdL (Addr.add a_1 (j.toNat * 1)) w fun x21_b x21_l x21_c =>
  Bm (decide (i < ((x21_l : Nat) : Int))) (
    Pn d fun a_2 =>
    LdL (a_2.add 2) w fun x29_b x29_l x29_c =>
    Pn x29_b fun a_3 =>
    (0 ≤ j ∧ j < ((x29_l : Nat) : Int)) ∧
    LdL (Addr.add a_3 (j.toNat * 1)) w fun x32_b x32_l x32_c =>
    Pn x32_b fun a_4 =>
    (0 ≤ i ∧ i < ((x32_l : Nat) : Int)) ∧
    LdI .i64 (Addr.add a_4 (i.toNat * 1)) w fun x35 =>
    Bm (x35 != (IntKind.i64.wrap ((-1 : Int) - j))) (
      R false w) (
      N2 d j (IntKind.i64.wrap (i + (1 : Int))) w)) (
    N1 d (IntKind.i64.wrap (j + (1 : Int))) w)
theorem socklaw_Untouched.L2b_eq (d : Option Addr) (j i : Int) (w : World) (N1 : Option Addr → Int → World → Prop) (N2 : Option Addr → Int → Int → World → Prop) (R : Bool → World → Prop)  :
    (
  Pn d fun a =>
  LdL (a.add 2) w fun x18_b x18_l x18_c =>
  Pn x18_b fun a_1 =>
  (0 ≤ j ∧ j < ((x18_l : Nat) : Int)) ∧
  LdL (Addr.add a_1 (j.toNat * 1)) w fun x21_b x21_l x21_c =>
  Bm (decide (i < ((x21_l : Nat) : Int))) (
    Pn d fun a_2 =>
    LdL (a_2.add 2) w fun x29_b x29_l x29_c =>
    Pn x29_b fun a_3 =>
    (0 ≤ j ∧ j < ((x29_l : Nat) : Int)) ∧
    LdL (Addr.add a_3 (j.toNat * 1)) w fun x32_b x32_l x32_c =>
    Pn x32_b fun a_4 =>
    (0 ≤ i ∧ i < ((x32_l : Nat) : Int)) ∧
    LdI .i64 (Addr.add a_4 (i.toNat * 1)) w fun x35 =>
    Bm (x35 != (IntKind.i64.wrap ((-1 : Int) - j))) (
      R false w) (
      N2 d j (IntKind.i64.wrap (i + (1 : Int))) w)) (
    N1 d (IntKind.i64.wrap (j + (1 : Int))) w)) = kstep Try.prog 39 Try.f11.results.toList (Try.f11.body.getD .skip) (socklaw_Untouched.RV R) (kvc Try.prog 39 Try.f11.results.toList (Try.f11.body.getD .skip) (socklaw_Untouched.RV R) [([(0, [1, 0, 1, 0, 0, 1, 0, 0, 1, 0, 0]), (2, [1, 0, 1, 0, 0, 1, 0, 0, 1, 0, 0]), (1, [2]), (1, [1]), (0, [1, 0, 1, 0, 0, 1, 1]), (2, [1, 0, 1, 0, 0]), (1, [0]), (0, [1, 1])], fun σ w => dP (slotOf σ 0) fun d_ => dI .i64 (slotOf σ 3) fun j_ => dI .i64 (slotOf σ 4) fun i_ => N2 d_ j_ i_ w),
    ([(0, [1, 0, 1, 0, 0]), (2, [1, 0, 1, 0, 0]), (1, [0]), (0, [1, 1])], fun σ w => dP (slotOf σ 0) fun d_ => dI .i64 (slotOf σ 3) fun j_ => N1 d_ j_ w)] 2000) [(0, [1, 0, 1, 0, 0, 1, 0, 0, 1, 0, 0]), (2, [1, 0, 1, 0, 0, 1, 0, 0, 1, 0, 0]), (1, [2]), (1, [1]), (0, [1, 0, 1, 0, 0, 1, 1]), (2, [1, 0, 1, 0, 0]), (1, [0]), (0, [1, 1])] [(0, .pointer d), (3, .int .i64 j), (4, .int .i64 i)] w := by kernel_rfl
theorem socklaw_Untouched.L2b_sound {R : Bool → World → Prop} {N1 : Option Addr → Int → World → Prop} (hN1 : ∀ d j w, N1 d j w → KW Try.prog 11 39 (socklaw_Untouched.RV R) ([(0, [1, 0, 1, 0, 0]), (2, [1, 0, 1, 0, 0]), (1, [0]), (0, [1, 1])].map (toItem (Try.f11.body.getD .skip))) [(0, .pointer d), (3, .int .i64 j)] w) {N2 : Option Addr → Int → Int → World → Prop} (hN2 : ∀ d j i w, N2 d j i w → KW Try.prog 11 39 (socklaw_Untouched.RV R) ([(0, [1, 0, 1, 0, 0, 1, 0, 0, 1, 0, 0]), (2, [1, 0, 1, 0, 0, 1, 0, 0, 1, 0, 0]), (1, [2]), (1, [1]), (0, [1, 0, 1, 0, 0, 1, 1]), (2, [1, 0, 1, 0, 0]), (1, [0]), (0, [1, 1])].map (toItem (Try.f11.body.getD .skip))) [(0, .pointer d), (3, .int .i64 j), (4, .int .i64 i)] w) (d : Option Addr) (j i : Int) (w : World) (h : socklaw_Untouched.L2b d j i w N1 N2 R) :
    KW Try.prog 11 39 (socklaw_Untouched.RV R) ([(0, [1, 0, 1, 0, 0, 1, 0, 0, 1, 0, 0]), (2, [1, 0, 1, 0, 0, 1, 0, 0, 1, 0, 0]), (1, [2]), (1, [1]), (0, [1, 0, 1, 0, 0, 1, 1]), (2, [1, 0, 1, 0, 0]), (1, [0]), (0, [1, 1])].map (toItem (Try.f11.body.getD .skip))) [(0, .pointer d), (3, .int .i64 j), (4, .int .i64 i)] w := by
  exact block_spec Try.func11 Try.mixed (stops_cons (fun σ w h => by
      obtain ⟨d_, e0, h⟩ := dP_elim h
      obtain ⟨j_, e1, h⟩ := dI_elim h
      obtain ⟨i_, e2, h⟩ := dI_elim h
      exact (hN2 d_ j_ i_ w h).weaken (Sub.cons (Sub.cons (Sub.cons (Sub.nil _) e2) e1) e0)) (stops_cons (fun σ w h => by
      obtain ⟨d_, e0, h⟩ := dP_elim h
      obtain ⟨j_, e1, h⟩ := dI_elim h
      exact (hN1 d_ j_ w h).weaken (Sub.cons (Sub.cons (Sub.nil _) e1) e0)) stops_nil)) (Eq.mp (socklaw_Untouched.L2b_eq d j i w N1 N2 R ) h)
def socklaw_Untouched.L2 (d : Option Addr) (j i : Int) (w : World) (N1 : Option Addr → Int → World → Prop) (R : Bool → World → Prop) : Prop :=
  ∃ (I : Nat → Option Addr → Int → Int → World → Prop) (m : Nat), I m d j i w ∧ ∀ m d j i w, I m d j i w → socklaw_Untouched.L2b d j i w N1 (fun d' j' i' w' => ∃ m', m' < m ∧ I m' d' j' i' w') R
theorem socklaw_Untouched.L2_sound {R : Bool → World → Prop} {N1 : Option Addr → Int → World → Prop} (hN1 : ∀ d j w, N1 d j w → KW Try.prog 11 39 (socklaw_Untouched.RV R) ([(0, [1, 0, 1, 0, 0]), (2, [1, 0, 1, 0, 0]), (1, [0]), (0, [1, 1])].map (toItem (Try.f11.body.getD .skip))) [(0, .pointer d), (3, .int .i64 j)] w) (d : Option Addr) (j i : Int) (w : World) (h : socklaw_Untouched.L2 d j i w N1 R) :
    KW Try.prog 11 39 (socklaw_Untouched.RV R) ([(0, [1, 0, 1, 0, 0, 1, 0, 0, 1, 0, 0]), (2, [1, 0, 1, 0, 0, 1, 0, 0, 1, 0, 0]), (1, [2]), (1, [1]), (0, [1, 0, 1, 0, 0, 1, 1]), (2, [1, 0, 1, 0, 0]), (1, [0]), (0, [1, 1])].map (toItem (Try.f11.body.getD .skip))) [(0, .pointer d), (3, .int .i64 j), (4, .int .i64 i)] w := by
  obtain ⟨I, m, hBase, hr⟩ := h
  refine KW.loop (fun m σ w => ∃ (d : Option Addr) (j i : Int), σ = [(0, .pointer d), (3, .int .i64 j), (4, .int .i64 i)] ∧ I m d j i w) ?_ m _ w ⟨d, j, i, rfl, hBase⟩
  rintro m ih σ w ⟨d, j, i, rfl, hI⟩
  exact socklaw_Untouched.L2b_sound hN1 (N2 := fun d' j' i' w' => ∃ m', m' < m ∧ I m' d' j' i' w') (fun d' j' i' w' hx => by obtain ⟨m', hlt, hI'⟩ := hx; exact ih m' hlt _ w' ⟨d', j', i', rfl, hI'⟩) d j i w (hr m d j i w hI)
def socklaw_Untouched.L1b (d : Option Addr) (j : Int) (w : World)  (N1 : Option Addr → Int → World → Prop) (R : Bool → World → Prop) : Prop :=
  Pn d fun a =>
  LdL (a.add 2) w fun x9_b x9_l x9_c =>
  Bm (decide (j < ((x9_l : Nat) : Int))) (
    socklaw_Untouched.L2 d j (0 : Int) w N1 R) (
    R true w)
theorem socklaw_Untouched.L1b_eq (d : Option Addr) (j : Int) (w : World)  (N1 : Option Addr → Int → World → Prop) (R : Bool → World → Prop) (sL2 : Option Addr → Int → Int → World → Prop) :
    (
  Pn d fun a =>
  LdL (a.add 2) w fun x9_b x9_l x9_c =>
  Bm (decide (j < ((x9_l : Nat) : Int))) (
    sL2 d j (0 : Int) w) (
    R true w)) = kstep Try.prog 39 Try.f11.results.toList (Try.f11.body.getD .skip) (socklaw_Untouched.RV R) (kvc Try.prog 39 Try.f11.results.toList (Try.f11.body.getD .skip) (socklaw_Untouched.RV R) [([(0, [1, 0, 1, 0, 0, 1, 0, 0, 1, 0, 0]), (2, [1, 0, 1, 0, 0, 1, 0, 0, 1, 0, 0]), (1, [2]), (1, [1]), (0, [1, 0, 1, 0, 0, 1, 1]), (2, [1, 0, 1, 0, 0]), (1, [0]), (0, [1, 1])], fun σ w => dP (slotOf σ 0) fun d_ => dI .i64 (slotOf σ 3) fun j_ => dI .i64 (slotOf σ 4) fun i_ => sL2 d_ j_ i_ w)] 2000) [(0, [1, 0, 1, 0, 0]), (2, [1, 0, 1, 0, 0]), (1, [0]), (0, [1, 1])] [(0, .pointer d), (3, .int .i64 j)] w := by kernel_rfl
theorem socklaw_Untouched.L1b_sound {R : Bool → World → Prop} {N1 : Option Addr → Int → World → Prop} (hN1 : ∀ d j w, N1 d j w → KW Try.prog 11 39 (socklaw_Untouched.RV R) ([(0, [1, 0, 1, 0, 0]), (2, [1, 0, 1, 0, 0]), (1, [0]), (0, [1, 1])].map (toItem (Try.f11.body.getD .skip))) [(0, .pointer d), (3, .int .i64 j)] w) (d : Option Addr) (j : Int) (w : World) (h : socklaw_Untouched.L1b d j w  N1 R) :
    KW Try.prog 11 39 (socklaw_Untouched.RV R) ([(0, [1, 0, 1, 0, 0]), (2, [1, 0, 1, 0, 0]), (1, [0]), (0, [1, 1])].map (toItem (Try.f11.body.getD .skip))) [(0, .pointer d), (3, .int .i64 j)] w := by
  exact block_spec Try.func11 Try.mixed (stops_cons (fun σ w h => by
      obtain ⟨d_, e0, h⟩ := dP_elim h
      obtain ⟨j_, e1, h⟩ := dI_elim h
      obtain ⟨i_, e2, h⟩ := dI_elim h
      exact (socklaw_Untouched.L2_sound hN1 d_ j_ i_ w h).weaken (Sub.cons (Sub.cons (Sub.cons (Sub.nil _) e2) e1) e0)) stops_nil) (Eq.mp (socklaw_Untouched.L1b_eq d j w  N1 R (fun d_ j_ i_ w => socklaw_Untouched.L2 d_ j_ i_ w N1 R)) h)
def socklaw_Untouched.L1 (d : Option Addr) (j : Int) (w : World)  (R : Bool → World → Prop) : Prop :=
  ∃ (I : Nat → Option Addr → Int → World → Prop) (m : Nat), I m d j w ∧ ∀ m d j w, I m d j w → socklaw_Untouched.L1b d j w  (fun d' j' w' => ∃ m', m' < m ∧ I m' d' j' w') R
theorem socklaw_Untouched.L1_sound {R : Bool → World → Prop}  (d : Option Addr) (j : Int) (w : World) (h : socklaw_Untouched.L1 d j w  R) :
    KW Try.prog 11 39 (socklaw_Untouched.RV R) ([(0, [1, 0, 1, 0, 0]), (2, [1, 0, 1, 0, 0]), (1, [0]), (0, [1, 1])].map (toItem (Try.f11.body.getD .skip))) [(0, .pointer d), (3, .int .i64 j)] w := by
  obtain ⟨I, m, hBase, hr⟩ := h
  refine KW.loop (fun m σ w => ∃ (d : Option Addr) (j : Int), σ = [(0, .pointer d), (3, .int .i64 j)] ∧ I m d j w) ?_ m _ w ⟨d, j, rfl, hBase⟩
  rintro m ih σ w ⟨d, j, rfl, hI⟩
  exact socklaw_Untouched.L1b_sound  (N1 := fun d' j' w' => ∃ m', m' < m ∧ I m' d' j' w') (fun d' j' w' hx => by obtain ⟨m', hlt, hI'⟩ := hx; exact ih m' hlt _ w' ⟨d', j', rfl, hI'⟩) d j w (hr m d j w hI)
def socklaw_Untouched.B0 (d : Option Addr) (w : World)   (R : Bool → World → Prop) : Prop :=
  socklaw_Untouched.L1 d (0 : Int) w  R
theorem socklaw_Untouched.B0_eq (d : Option Addr) (w : World)   (R : Bool → World → Prop) (sL1 : Option Addr → Int → World → Prop) :
    (
  sL1 d (0 : Int) w) = kstep Try.prog 39 Try.f11.results.toList (Try.f11.body.getD .skip) (socklaw_Untouched.RV R) (kvc Try.prog 39 Try.f11.results.toList (Try.f11.body.getD .skip) (socklaw_Untouched.RV R) [([(0, [1, 0, 1, 0, 0]), (2, [1, 0, 1, 0, 0]), (1, [0]), (0, [1, 1])], fun σ w => dP (slotOf σ 0) fun d_ => dI .i64 (slotOf σ 3) fun j_ => sL1 d_ j_ w)] 2000) [(0, [])] [(0, .pointer d)] w := by kernel_rfl
theorem socklaw_Untouched.B0_sound {R : Bool → World → Prop}  (d : Option Addr) (w : World) (h : socklaw_Untouched.B0 d w   R) :
    KW Try.prog 11 39 (socklaw_Untouched.RV R) ([(0, [])].map (toItem (Try.f11.body.getD .skip))) [(0, .pointer d)] w := by
  exact block_spec Try.func11 Try.mixed (stops_cons (fun σ w h => by
      obtain ⟨d_, e0, h⟩ := dP_elim h
      obtain ⟨j_, e1, h⟩ := dI_elim h
      exact (socklaw_Untouched.L1_sound  d_ j_ w h).weaken (Sub.cons (Sub.cons (Sub.nil _) e1) e0)) stops_nil) (Eq.mp (socklaw_Untouched.B0_eq d w   R (fun d_ j_ w => socklaw_Untouched.L1 d_ j_ w  R)) h)
theorem socklaw_Untouched.sound (d : Option Addr) (w : World) (R : Bool → World → Prop) (h : socklaw_Untouched.B0 d w R) : socklaw_Untouched.Call d w R := by
  have hc := calls_of_block (args := #[.pointer d]) Try.func11 (body := (Try.f11.body.getD .skip)) (by kernel_rfl) (by kernel_rfl) (args_slot _) (socklaw_Untouched.B0_sound d w h)
  exact hc.mono fun e w' he => by
    obtain ⟨v, rfl, hv⟩ := he
    exact socklaw_Untouched.RV_elim hv
def socklaw_SameNext.B0 (x m0 : Option Addr) (w : World)   (R : Bool → World → Prop) : Prop :=
  sock_Table_Next.Call x w fun r11_0 r11_1 w1 =>
  sockm_Table_Next.Call m0 w1 fun r16_0 r16_1 w2 =>
  Bm (r11_0 == r16_0) (
    R (r11_1 == r16_1) w2) (
    R false w2)
theorem socklaw_SameNext.B0_eq (x m0 : Option Addr) (w : World)   (R : Bool → World → Prop)  :
    (
  sock_Table_Next.Call x w fun r11_0 r11_1 w1 =>
  sockm_Table_Next.Call m0 w1 fun r16_0 r16_1 w2 =>
  Bm (r11_0 == r16_0) (
    R (r11_1 == r16_1) w2) (
    R false w2)) = kstep Try.prog 27 Try.f12.results.toList (Try.f12.body.getD .skip) (socklaw_SameNext.RV R) (kvc Try.prog 27 Try.f12.results.toList (Try.f12.body.getD .skip) (socklaw_SameNext.RV R) [] 2000) [(0, [])] [(0, .pointer x), (1, .pointer m0)] w := by kernel_rfl
theorem socklaw_SameNext.B0_sound {R : Bool → World → Prop}  (x m0 : Option Addr) (w : World) (h : socklaw_SameNext.B0 x m0 w   R) :
    KW Try.prog 12 27 (socklaw_SameNext.RV R) ([(0, [])].map (toItem (Try.f12.body.getD .skip))) [(0, .pointer x), (1, .pointer m0)] w := by
  exact block_spec Try.func12 Try.mixed stops_nil (Eq.mp (socklaw_SameNext.B0_eq x m0 w   R ) h)
theorem socklaw_SameNext.sound (x m0 : Option Addr) (w : World) (R : Bool → World → Prop) (h : socklaw_SameNext.B0 x m0 w R) : socklaw_SameNext.Call x m0 w R := by
  have hc := calls_of_block (args := #[.pointer x, .pointer m0]) Try.func12 (body := (Try.f12.body.getD .skip)) (by kernel_rfl) (by kernel_rfl) (args_slot _) (socklaw_SameNext.B0_sound x m0 w h)
  exact hc.mono fun e w' he => by
    obtain ⟨v, rfl, hv⟩ := he
    exact socklaw_SameNext.RV_elim hv
def socklaw_SameList.B0 (d : Option Addr) (w : World)   (R : Bool → World → Prop) : Prop :=
  Pn d fun a =>
  LdP a w fun x8 =>
  sock_Table_List.Call x8 w fun r9_b r9_l r9_c w1 =>
  Pn d fun a_1 =>
  LdP (a_1.add 1) w1 fun x13 =>
  sockm_Table_List.Call x13 w1 fun r14_b r14_l r14_c w2 =>
  socklaw_SameInts.Call d r9_b r9_l r9_c r14_b r14_l r14_c w2 fun r18 w3 =>
  R r18 w3
theorem socklaw_SameList.B0_eq (d : Option Addr) (w : World)   (R : Bool → World → Prop)  :
    (
  Pn d fun a =>
  LdP a w fun x8 =>
  sock_Table_List.Call x8 w fun r9_b r9_l r9_c w1 =>
  Pn d fun a_1 =>
  LdP (a_1.add 1) w1 fun x13 =>
  sockm_Table_List.Call x13 w1 fun r14_b r14_l r14_c w2 =>
  socklaw_SameInts.Call d r9_b r9_l r9_c r14_b r14_l r14_c w2 fun r18 w3 =>
  R r18 w3) = kstep Try.prog 19 Try.f13.results.toList (Try.f13.body.getD .skip) (socklaw_SameList.RV R) (kvc Try.prog 19 Try.f13.results.toList (Try.f13.body.getD .skip) (socklaw_SameList.RV R) [] 2000) [(0, [])] [(0, .pointer d)] w := by kernel_rfl
theorem socklaw_SameList.B0_sound {R : Bool → World → Prop}  (d : Option Addr) (w : World) (h : socklaw_SameList.B0 d w   R) :
    KW Try.prog 13 19 (socklaw_SameList.RV R) ([(0, [])].map (toItem (Try.f13.body.getD .skip))) [(0, .pointer d)] w := by
  exact block_spec Try.func13 Try.mixed stops_nil (Eq.mp (socklaw_SameList.B0_eq d w   R ) h)
theorem socklaw_SameList.sound (d : Option Addr) (w : World) (R : Bool → World → Prop) (h : socklaw_SameList.B0 d w R) : socklaw_SameList.Call d w R := by
  have hc := calls_of_block (args := #[.pointer d]) Try.func13 (body := (Try.f13.body.getD .skip)) (by kernel_rfl) (by kernel_rfl) (args_slot _) (socklaw_SameList.B0_sound d w h)
  exact hc.mono fun e w' he => by
    obtain ⟨v, rfl, hv⟩ := he
    exact socklaw_SameList.RV_elim hv
def sockm_Table_List.L1b (t out_b : Option Addr) (out_l out_c : Nat) (i : Int) (w : World)  (N1 : Option Addr → Option Addr → Nat → Nat → Int → World → Prop) (R : Option Addr → Nat → Nat → World → Prop) : Prop :=
  Pn t fun a =>
  LdL a w fun x15_b x15_l x15_c =>
  Bm (decide (i < ((x15_l : Nat) : Int))) (
    Pn t fun a_1 =>
    LdL a_1 w fun x24_b x24_l x24_c =>
    Pn x24_b fun a_2 =>
    (0 ≤ i ∧ i < ((x24_l : Nat) : Int)) ∧
    LdI .i64 (Addr.add a_2 (i.toNat * 9)) w fun x29 =>
    New (.cells #[.int .i64 x29] 3) w fun b30 w1 =>
    Append 3 (.int .i64 (0 : Int)) 1 8 out_b out_l out_c (some ⟨b30, 0, none⟩) 1 w1 fun b31 c31 w2 =>
    N1 t b31 (out_l + 1) c31 (IntKind.i64.wrap (i + (1 : Int))) w2) (
    R out_b out_l out_c w)
theorem sockm_Table_List.L1b_eq (t out_b : Option Addr) (out_l out_c : Nat) (i : Int) (w : World)  (N1 : Option Addr → Option Addr → Nat → Nat → Int → World → Prop) (R : Option Addr → Nat → Nat → World → Prop)  :
    (
  Pn t fun a =>
  LdL a w fun x15_b x15_l x15_c =>
  Bm (decide (i < ((x15_l : Nat) : Int))) (
    Pn t fun a_1 =>
    LdL a_1 w fun x24_b x24_l x24_c =>
    Pn x24_b fun a_2 =>
    (0 ≤ i ∧ i < ((x24_l : Nat) : Int)) ∧
    LdI .i64 (Addr.add a_2 (i.toNat * 9)) w fun x29 =>
    New (.cells #[.int .i64 x29] 3) w fun b30 w1 =>
    Append 3 (.int .i64 (0 : Int)) 1 8 out_b out_l out_c (some ⟨b30, 0, none⟩) 1 w1 fun b31 c31 w2 =>
    N1 t b31 (out_l + 1) c31 (IntKind.i64.wrap (i + (1 : Int))) w2) (
    R out_b out_l out_c w)) = kstep Try.prog 33 Try.f14.results.toList (Try.f14.body.getD .skip) (sockm_Table_List.RV R) (kvc Try.prog 33 Try.f14.results.toList (Try.f14.body.getD .skip) (sockm_Table_List.RV R) [([(0, [1, 1, 0, 1, 0, 0]), (2, [1, 1, 0, 1, 0, 0]), (1, [0]), (0, [1, 1, 1])], fun σ w => dP (slotOf σ 0) fun t_ => dL (slotOf σ 3) fun out_b_ out_l_ out_c_ => dI .i64 (slotOf σ 4) fun i_ => N1 t_ out_b_ out_l_ out_c_ i_ w)] 2000) [(0, [1, 1, 0, 1, 0, 0]), (2, [1, 1, 0, 1, 0, 0]), (1, [0]), (0, [1, 1, 1])] [(0, .pointer t), (3, .slice out_b out_l out_c), (4, .int .i64 i)] w := by kernel_rfl
theorem sockm_Table_List.L1b_sound {R : Option Addr → Nat → Nat → World → Prop} {N1 : Option Addr → Option Addr → Nat → Nat → Int → World → Prop} (hN1 : ∀ t out_b out_l out_c i w, N1 t out_b out_l out_c i w → KW Try.prog 14 33 (sockm_Table_List.RV R) ([(0, [1, 1, 0, 1, 0, 0]), (2, [1, 1, 0, 1, 0, 0]), (1, [0]), (0, [1, 1, 1])].map (toItem (Try.f14.body.getD .skip))) [(0, .pointer t), (3, .slice out_b out_l out_c), (4, .int .i64 i)] w) (t out_b : Option Addr) (out_l out_c : Nat) (i : Int) (w : World) (h : sockm_Table_List.L1b t out_b out_l out_c i w  N1 R) :
    KW Try.prog 14 33 (sockm_Table_List.RV R) ([(0, [1, 1, 0, 1, 0, 0]), (2, [1, 1, 0, 1, 0, 0]), (1, [0]), (0, [1, 1, 1])].map (toItem (Try.f14.body.getD .skip))) [(0, .pointer t), (3, .slice out_b out_l out_c), (4, .int .i64 i)] w := by
  exact block_spec Try.func14 Try.mixed (stops_cons (fun σ w h => by
      obtain ⟨t_, e0, h⟩ := dP_elim h
      obtain ⟨out_b_, out_l_, out_c_, e1, h⟩ := dL_elim h
      obtain ⟨i_, e2, h⟩ := dI_elim h
      exact (hN1 t_ out_b_ out_l_ out_c_ i_ w h).weaken (Sub.cons (Sub.cons (Sub.cons (Sub.nil _) e2) e1) e0)) stops_nil) (Eq.mp (sockm_Table_List.L1b_eq t out_b out_l out_c i w  N1 R ) h)
def sockm_Table_List.L1 (t out_b : Option Addr) (out_l out_c : Nat) (i : Int) (w : World)  (R : Option Addr → Nat → Nat → World → Prop) : Prop :=
  ∃ (I : Nat → Option Addr → Option Addr → Nat → Nat → Int → World → Prop) (m : Nat), I m t out_b out_l out_c i w ∧ ∀ m t out_b out_l out_c i w, I m t out_b out_l out_c i w → sockm_Table_List.L1b t out_b out_l out_c i w  (fun t' out_b' out_l' out_c' i' w' => ∃ m', m' < m ∧ I m' t' out_b' out_l' out_c' i' w') R
theorem sockm_Table_List.L1_sound {R : Option Addr → Nat → Nat → World → Prop}  (t out_b : Option Addr) (out_l out_c : Nat) (i : Int) (w : World) (h : sockm_Table_List.L1 t out_b out_l out_c i w  R) :
    KW Try.prog 14 33 (sockm_Table_List.RV R) ([(0, [1, 1, 0, 1, 0, 0]), (2, [1, 1, 0, 1, 0, 0]), (1, [0]), (0, [1, 1, 1])].map (toItem (Try.f14.body.getD .skip))) [(0, .pointer t), (3, .slice out_b out_l out_c), (4, .int .i64 i)] w := by
  obtain ⟨I, m, hBase, hr⟩ := h
  refine KW.loop (fun m σ w => ∃ (t out_b : Option Addr) (out_l out_c : Nat) (i : Int), σ = [(0, .pointer t), (3, .slice out_b out_l out_c), (4, .int .i64 i)] ∧ I m t out_b out_l out_c i w) ?_ m _ w ⟨t, out_b, out_l, out_c, i, rfl, hBase⟩
  rintro m ih σ w ⟨t, out_b, out_l, out_c, i, rfl, hI⟩
  exact sockm_Table_List.L1b_sound  (N1 := fun t' out_b' out_l' out_c' i' w' => ∃ m', m' < m ∧ I m' t' out_b' out_l' out_c' i' w') (fun t' out_b' out_l' out_c' i' w' hx => by obtain ⟨m', hlt, hI'⟩ := hx; exact ih m' hlt _ w' ⟨t', out_b', out_l', out_c', i', rfl, hI'⟩) t out_b out_l out_c i w (hr m t out_b out_l out_c i w hI)
def sockm_Table_List.B0 (t : Option Addr) (w : World)   (R : Option Addr → Nat → Nat → World → Prop) : Prop :=
  Pn t fun a =>
  LdL a w fun x8_b x8_l x8_c =>
  Make 3 (.int .i64 (0 : Int)) 1 8 (0 : Int) ((x8_l : Nat) : Int) w fun b10 w1 =>
  sockm_Table_List.L1 t (some ⟨b10, 0, none⟩) 0 (((x8_l : Nat) : Int).toNat) (0 : Int) w1  R
theorem sockm_Table_List.B0_eq (t : Option Addr) (w : World)   (R : Option Addr → Nat → Nat → World → Prop) (sL1 : Option Addr → Option Addr → Nat → Nat → Int → World → Prop) :
    (
  Pn t fun a =>
  LdL a w fun x8_b x8_l x8_c =>
  Make 3 (.int .i64 (0 : Int)) 1 8 (0 : Int) ((x8_l : Nat) : Int) w fun b10 w1 =>
  sL1 t (some ⟨b10, 0, none⟩) 0 (((x8_l : Nat) : Int).toNat) (0 : Int) w1) = kstep Try.prog 33 Try.f14.results.toList (Try.f14.body.getD .skip) (sockm_Table_List.RV R) (kvc Try.prog 33 Try.f14.results.toList (Try.f14.body.getD .skip) (sockm_Table_List.RV R) [([(0, [1, 1, 0, 1, 0, 0]), (2, [1, 1, 0, 1, 0, 0]), (1, [0]), (0, [1, 1, 1])], fun σ w => dP (slotOf σ 0) fun t_ => dL (slotOf σ 3) fun out_b_ out_l_ out_c_ => dI .i64 (slotOf σ 4) fun i_ => sL1 t_ out_b_ out_l_ out_c_ i_ w)] 2000) [(0, [])] [(0, .pointer t)] w := by kernel_rfl
theorem sockm_Table_List.B0_sound {R : Option Addr → Nat → Nat → World → Prop}  (t : Option Addr) (w : World) (h : sockm_Table_List.B0 t w   R) :
    KW Try.prog 14 33 (sockm_Table_List.RV R) ([(0, [])].map (toItem (Try.f14.body.getD .skip))) [(0, .pointer t)] w := by
  exact block_spec Try.func14 Try.mixed (stops_cons (fun σ w h => by
      obtain ⟨t_, e0, h⟩ := dP_elim h
      obtain ⟨out_b_, out_l_, out_c_, e1, h⟩ := dL_elim h
      obtain ⟨i_, e2, h⟩ := dI_elim h
      exact (sockm_Table_List.L1_sound  t_ out_b_ out_l_ out_c_ i_ w h).weaken (Sub.cons (Sub.cons (Sub.cons (Sub.nil _) e2) e1) e0)) stops_nil) (Eq.mp (sockm_Table_List.B0_eq t w   R (fun t_ out_b_ out_l_ out_c_ i_ w => sockm_Table_List.L1 t_ out_b_ out_l_ out_c_ i_ w  R)) h)
theorem sockm_Table_List.sound (t : Option Addr) (w : World) (R : Option Addr → Nat → Nat → World → Prop) (h : sockm_Table_List.B0 t w R) : sockm_Table_List.Call t w R := by
  have hc := calls_of_block (args := #[.pointer t]) Try.func14 (body := (Try.f14.body.getD .skip)) (by kernel_rfl) (by kernel_rfl) (args_slot _) (sockm_Table_List.B0_sound t w h)
  exact hc.mono fun e w' he => by
    obtain ⟨v, rfl, hv⟩ := he
    exact sockm_Table_List.RV_elim hv
def socklaw_SameRow.B0 (d : Option Addr) (sd : Int) (w : World)   (R : Bool → World → Prop) : Prop :=
  Pn d fun a =>
  LdP a w.drew fun x11 =>
  Pn d fun a_1 =>
  LdP (a_1.add 1) w.drew fun x15 =>
  socklaw_SameGet.Call x11 x15 sd w.drew fun r17 w1 =>
  Bm (!r17) (
    R false w1) (
    socklaw_SameQueue.Call d sd w1 fun r21 w2 =>
    Bm (!r21) (
      R false w2) (
      Pn d fun a_2 =>
      LdP (a_2.add 1) w2 fun x27 =>
      sockm_Table_Get.Call x27 sd w2 fun r29_0_0 r29_0_1 r29_0_2 r29_0_3 r29_0_4 r29_0_5 r29_0_6 r29_0_7 r29_1 w3 =>
      New (.cells #[.int .i64 (0 : Int), .int .i64 (0 : Int), .int .i64 (0 : Int), .int .i64 (0 : Int), .int .i64 (0 : Int), .int .i64 (0 : Int), .int .i64 (0 : Int), .bool false] 40) w3 fun e_ w4 =>
      Sts [.int .i64 r29_0_0, .int .i64 r29_0_1, .int .i64 r29_0_2, .int .i64 r29_0_3, .int .i64 r29_0_4, .int .i64 r29_0_5, .int .i64 r29_0_6, .bool r29_0_7] ⟨e_, 0, none⟩ 0 w4 fun w5 =>
      LdI .i64 ⟨e_, 1, none⟩ w5 fun x33 =>
      Bm (x33 != (2 : Int)) (
        R true w5) (
        Pn d fun a_3 =>
        LdP a_3 w5.drew fun x38 =>
        LdI .i64 ⟨e_, 2, none⟩ w5.drew fun x40 =>
        LdI .i64 ⟨e_, 3, none⟩ w5.drew fun x42 =>
        LdI .i64 ⟨e_, 4, none⟩ w5.drew fun x44 =>
        sock_Table_Lookup.Call x38 x40 x42 x44 w5.drew fun r45 w6 =>
        R (r45 == sd) w6)))
theorem socklaw_SameRow.B0_eq (d : Option Addr) (sd : Int) (w : World)   (R : Bool → World → Prop)  :
    (
  Pn d fun a =>
  LdP a w.drew fun x11 =>
  Pn d fun a_1 =>
  LdP (a_1.add 1) w.drew fun x15 =>
  socklaw_SameGet.Call x11 x15 sd w.drew fun r17 w1 =>
  Bm (!r17) (
    R false w1) (
    socklaw_SameQueue.Call d sd w1 fun r21 w2 =>
    Bm (!r21) (
      R false w2) (
      Pn d fun a_2 =>
      LdP (a_2.add 1) w2 fun x27 =>
      sockm_Table_Get.Call x27 sd w2 fun r29_0_0 r29_0_1 r29_0_2 r29_0_3 r29_0_4 r29_0_5 r29_0_6 r29_0_7 r29_1 w3 =>
      New (.cells #[.int .i64 (0 : Int), .int .i64 (0 : Int), .int .i64 (0 : Int), .int .i64 (0 : Int), .int .i64 (0 : Int), .int .i64 (0 : Int), .int .i64 (0 : Int), .bool false] 40) w3 fun e_ w4 =>
      Sts [.int .i64 r29_0_0, .int .i64 r29_0_1, .int .i64 r29_0_2, .int .i64 r29_0_3, .int .i64 r29_0_4, .int .i64 r29_0_5, .int .i64 r29_0_6, .bool r29_0_7] ⟨e_, 0, none⟩ 0 w4 fun w5 =>
      LdI .i64 ⟨e_, 1, none⟩ w5 fun x33 =>
      Bm (x33 != (2 : Int)) (
        R true w5) (
        Pn d fun a_3 =>
        LdP a_3 w5.drew fun x38 =>
        LdI .i64 ⟨e_, 2, none⟩ w5.drew fun x40 =>
        LdI .i64 ⟨e_, 3, none⟩ w5.drew fun x42 =>
        LdI .i64 ⟨e_, 4, none⟩ w5.drew fun x44 =>
        sock_Table_Lookup.Call x38 x40 x42 x44 w5.drew fun r45 w6 =>
        R (r45 == sd) w6)))) = kstep Try.prog 49 Try.f15.results.toList (Try.f15.body.getD .skip) (socklaw_SameRow.RV R) (kvc Try.prog 49 Try.f15.results.toList (Try.f15.body.getD .skip) (socklaw_SameRow.RV R) [] 2000) [(0, [])] [(0, .pointer d), (1, .int .i64 sd)] w := by kernel_rfl
theorem socklaw_SameRow.B0_sound {R : Bool → World → Prop}  (d : Option Addr) (sd : Int) (w : World) (h : socklaw_SameRow.B0 d sd w   R) :
    KW Try.prog 15 49 (socklaw_SameRow.RV R) ([(0, [])].map (toItem (Try.f15.body.getD .skip))) [(0, .pointer d), (1, .int .i64 sd)] w := by
  exact block_spec Try.func15 Try.mixed stops_nil (Eq.mp (socklaw_SameRow.B0_eq d sd w   R ) h)
theorem socklaw_SameRow.sound (d : Option Addr) (sd : Int) (w : World) (R : Bool → World → Prop) (h : socklaw_SameRow.B0 d sd w R) : socklaw_SameRow.Call d sd w R := by
  have hc := calls_of_block (args := #[.pointer d, .int .i64 sd]) Try.func15 (body := (Try.f15.body.getD .skip)) (by kernel_rfl) (by kernel_rfl) (args_slot _) (socklaw_SameRow.B0_sound d sd w h)
  exact hc.mono fun e w' he => by
    obtain ⟨v, rfl, hv⟩ := he
    exact socklaw_SameRow.RV_elim hv
def socklaw_SameListener.B0 (x m0 : Option Addr) (lport : Int) (w : World)   (R : Bool → World → Prop) : Prop :=
  sock_Table_Listener.Call x lport w fun r11 w1 =>
  sockm_Table_Listener.Call m0 lport w1 fun r14 w2 =>
  R (r11 == r14) w2
theorem socklaw_SameListener.B0_eq (x m0 : Option Addr) (lport : Int) (w : World)   (R : Bool → World → Prop)  :
    (
  sock_Table_Listener.Call x lport w fun r11 w1 =>
  sockm_Table_Listener.Call m0 lport w1 fun r14 w2 =>
  R (r11 == r14) w2) = kstep Try.prog 18 Try.f16.results.toList (Try.f16.body.getD .skip) (socklaw_SameListener.RV R) (kvc Try.prog 18 Try.f16.results.toList (Try.f16.body.getD .skip) (socklaw_SameListener.RV R) [] 2000) [(0, [])] [(0, .pointer x), (1, .pointer m0), (2, .int .i64 lport)] w := by kernel_rfl
theorem socklaw_SameListener.B0_sound {R : Bool → World → Prop}  (x m0 : Option Addr) (lport : Int) (w : World) (h : socklaw_SameListener.B0 x m0 lport w   R) :
    KW Try.prog 16 18 (socklaw_SameListener.RV R) ([(0, [])].map (toItem (Try.f16.body.getD .skip))) [(0, .pointer x), (1, .pointer m0), (2, .int .i64 lport)] w := by
  exact block_spec Try.func16 Try.mixed stops_nil (Eq.mp (socklaw_SameListener.B0_eq x m0 lport w   R ) h)
theorem socklaw_SameListener.sound (x m0 : Option Addr) (lport : Int) (w : World) (R : Bool → World → Prop) (h : socklaw_SameListener.B0 x m0 lport w R) : socklaw_SameListener.Call x m0 lport w R := by
  have hc := calls_of_block (args := #[.pointer x, .pointer m0, .int .i64 lport]) Try.func16 (body := (Try.f16.body.getD .skip)) (by kernel_rfl) (by kernel_rfl) (args_slot _) (socklaw_SameListener.B0_sound x m0 lport w h)
  exact hc.mono fun e w' he => by
    obtain ⟨v, rfl, hv⟩ := he
    exact socklaw_SameListener.RV_elim hv
def socklaw_SameGet.B0 (x m0 : Option Addr) (sd : Int) (w : World)   (R : Bool → World → Prop) : Prop :=
  sock_Table_Get.Call x sd w fun r14_0_0 r14_0_1 r14_0_2 r14_0_3 r14_0_4 r14_0_5 r14_0_6 r14_0_7 r14_1 w1 =>
  New (.cells #[.int .i64 (0 : Int), .int .i64 (0 : Int), .int .i64 (0 : Int), .int .i64 (0 : Int), .int .i64 (0 : Int), .int .i64 (0 : Int), .int .i64 (0 : Int), .bool false] 40) w1 fun a_ w2 =>
  Sts [.int .i64 r14_0_0, .int .i64 r14_0_1, .int .i64 r14_0_2, .int .i64 r14_0_3, .int .i64 r14_0_4, .int .i64 r14_0_5, .int .i64 r14_0_6, .bool r14_0_7] ⟨a_, 0, none⟩ 0 w2 fun w3 =>
  sockm_Table_Get.Call m0 sd w3 fun r20_0_0 r20_0_1 r20_0_2 r20_0_3 r20_0_4 r20_0_5 r20_0_6 r20_0_7 r20_1 w4 =>
  New (.cells #[.int .i64 (0 : Int), .int .i64 (0 : Int), .int .i64 (0 : Int), .int .i64 (0 : Int), .int .i64 (0 : Int), .int .i64 (0 : Int), .int .i64 (0 : Int), .bool false] 40) w4 fun b_ w5 =>
  Sts [.int .i64 r20_0_0, .int .i64 r20_0_1, .int .i64 r20_0_2, .int .i64 r20_0_3, .int .i64 r20_0_4, .int .i64 r20_0_5, .int .i64 r20_0_6, .bool r20_0_7] ⟨b_, 0, none⟩ 0 w5 fun w6 =>
  Bm (r14_1 == r20_1) (
    LdI .i64 ⟨a_, 0, none⟩ w6 fun x27_0 =>
    LdI .i64 ⟨a_, 1, none⟩ w6 fun x27_1 =>
    LdI .i64 ⟨a_, 2, none⟩ w6 fun x27_2 =>
    LdI .i64 ⟨a_, 3, none⟩ w6 fun x27_3 =>
    LdI .i64 ⟨a_, 4, none⟩ w6 fun x27_4 =>
    LdI .i64 ⟨a_, 5, none⟩ w6 fun x27_5 =>
    LdI .i64 ⟨a_, 6, none⟩ w6 fun x27_6 =>
    LdB ⟨a_, 7, none⟩ w6 fun x27_7 =>
    LdI .i64 ⟨b_, 0, none⟩ w6 fun x28_0 =>
    LdI .i64 ⟨b_, 1, none⟩ w6 fun x28_1 =>
    LdI .i64 ⟨b_, 2, none⟩ w6 fun x28_2 =>
    LdI .i64 ⟨b_, 3, none⟩ w6 fun x28_3 =>
    LdI .i64 ⟨b_, 4, none⟩ w6 fun x28_4 =>
    LdI .i64 ⟨b_, 5, none⟩ w6 fun x28_5 =>
    LdI .i64 ⟨b_, 6, none⟩ w6 fun x28_6 =>
    LdB ⟨b_, 7, none⟩ w6 fun x28_7 =>
    socklaw_SameEntry.Call x27_0 x27_1 x27_2 x27_3 x27_4 x27_5 x27_6 x27_7 x28_0 x28_1 x28_2 x28_3 x28_4 x28_5 x28_6 x28_7 w6 fun r29 w7 =>
    R r29 w7) (
    R false w6)
theorem socklaw_SameGet.B0_eq (x m0 : Option Addr) (sd : Int) (w : World)   (R : Bool → World → Prop)  :
    (
  sock_Table_Get.Call x sd w fun r14_0_0 r14_0_1 r14_0_2 r14_0_3 r14_0_4 r14_0_5 r14_0_6 r14_0_7 r14_1 w1 =>
  New (.cells #[.int .i64 (0 : Int), .int .i64 (0 : Int), .int .i64 (0 : Int), .int .i64 (0 : Int), .int .i64 (0 : Int), .int .i64 (0 : Int), .int .i64 (0 : Int), .bool false] 40) w1 fun a_ w2 =>
  Sts [.int .i64 r14_0_0, .int .i64 r14_0_1, .int .i64 r14_0_2, .int .i64 r14_0_3, .int .i64 r14_0_4, .int .i64 r14_0_5, .int .i64 r14_0_6, .bool r14_0_7] ⟨a_, 0, none⟩ 0 w2 fun w3 =>
  sockm_Table_Get.Call m0 sd w3 fun r20_0_0 r20_0_1 r20_0_2 r20_0_3 r20_0_4 r20_0_5 r20_0_6 r20_0_7 r20_1 w4 =>
  New (.cells #[.int .i64 (0 : Int), .int .i64 (0 : Int), .int .i64 (0 : Int), .int .i64 (0 : Int), .int .i64 (0 : Int), .int .i64 (0 : Int), .int .i64 (0 : Int), .bool false] 40) w4 fun b_ w5 =>
  Sts [.int .i64 r20_0_0, .int .i64 r20_0_1, .int .i64 r20_0_2, .int .i64 r20_0_3, .int .i64 r20_0_4, .int .i64 r20_0_5, .int .i64 r20_0_6, .bool r20_0_7] ⟨b_, 0, none⟩ 0 w5 fun w6 =>
  Bm (r14_1 == r20_1) (
    LdI .i64 ⟨a_, 0, none⟩ w6 fun x27_0 =>
    LdI .i64 ⟨a_, 1, none⟩ w6 fun x27_1 =>
    LdI .i64 ⟨a_, 2, none⟩ w6 fun x27_2 =>
    LdI .i64 ⟨a_, 3, none⟩ w6 fun x27_3 =>
    LdI .i64 ⟨a_, 4, none⟩ w6 fun x27_4 =>
    LdI .i64 ⟨a_, 5, none⟩ w6 fun x27_5 =>
    LdI .i64 ⟨a_, 6, none⟩ w6 fun x27_6 =>
    LdB ⟨a_, 7, none⟩ w6 fun x27_7 =>
    LdI .i64 ⟨b_, 0, none⟩ w6 fun x28_0 =>
    LdI .i64 ⟨b_, 1, none⟩ w6 fun x28_1 =>
    LdI .i64 ⟨b_, 2, none⟩ w6 fun x28_2 =>
    LdI .i64 ⟨b_, 3, none⟩ w6 fun x28_3 =>
    LdI .i64 ⟨b_, 4, none⟩ w6 fun x28_4 =>
    LdI .i64 ⟨b_, 5, none⟩ w6 fun x28_5 =>
    LdI .i64 ⟨b_, 6, none⟩ w6 fun x28_6 =>
    LdB ⟨b_, 7, none⟩ w6 fun x28_7 =>
    socklaw_SameEntry.Call x27_0 x27_1 x27_2 x27_3 x27_4 x27_5 x27_6 x27_7 x28_0 x28_1 x28_2 x28_3 x28_4 x28_5 x28_6 x28_7 w6 fun r29 w7 =>
    R r29 w7) (
    R false w6)) = kstep Try.prog 31 Try.f17.results.toList (Try.f17.body.getD .skip) (socklaw_SameGet.RV R) (kvc Try.prog 31 Try.f17.results.toList (Try.f17.body.getD .skip) (socklaw_SameGet.RV R) [] 2000) [(0, [])] [(0, .pointer x), (1, .pointer m0), (2, .int .i64 sd)] w := by kernel_rfl
theorem socklaw_SameGet.B0_sound {R : Bool → World → Prop}  (x m0 : Option Addr) (sd : Int) (w : World) (h : socklaw_SameGet.B0 x m0 sd w   R) :
    KW Try.prog 17 31 (socklaw_SameGet.RV R) ([(0, [])].map (toItem (Try.f17.body.getD .skip))) [(0, .pointer x), (1, .pointer m0), (2, .int .i64 sd)] w := by
  exact block_spec Try.func17 Try.mixed stops_nil (Eq.mp (socklaw_SameGet.B0_eq x m0 sd w   R ) h)
theorem socklaw_SameGet.sound (x m0 : Option Addr) (sd : Int) (w : World) (R : Bool → World → Prop) (h : socklaw_SameGet.B0 x m0 sd w R) : socklaw_SameGet.Call x m0 sd w R := by
  have hc := calls_of_block (args := #[.pointer x, .pointer m0, .int .i64 sd]) Try.func17 (body := (Try.f17.body.getD .skip)) (by kernel_rfl) (by kernel_rfl) (args_slot _) (socklaw_SameGet.B0_sound x m0 sd w h)
  exact hc.mono fun e w' he => by
    obtain ⟨v, rfl, hv⟩ := he
    exact socklaw_SameGet.RV_elim hv
def sock_Table_Check.L1b (t : Option Addr) (i : Int) (w : World)  (N1 : Option Addr → Int → World → Prop) (R : Bool → World → Prop) : Prop :=
  Bm (decide (i < (6 : Int))) (
    sock_Table_rowFine.Call t i w fun r22 w1 =>
    Bm (!r22) (
      R false w1) (
      N1 t (IntKind.i64.wrap (i + (1 : Int))) w1)) (
    R true w)
theorem sock_Table_Check.L1b_eq (t : Option Addr) (i : Int) (w : World)  (N1 : Option Addr → Int → World → Prop) (R : Bool → World → Prop)  :
    (
  Bm (decide (i < (6 : Int))) (
    sock_Table_rowFine.Call t i w fun r22 w1 =>
    Bm (!r22) (
      R false w1) (
      N1 t (IntKind.i64.wrap (i + (1 : Int))) w1)) (
    R true w)) = kstep Try.prog 24 Try.f18.results.toList (Try.f18.body.getD .skip) (sock_Table_Check.RV R) (kvc Try.prog 24 Try.f18.results.toList (Try.f18.body.getD .skip) (sock_Table_Check.RV R) [([(0, [1, 1, 1, 1, 1, 0, 1, 0, 0]), (2, [1, 1, 1, 1, 1, 0, 1, 0, 0]), (1, [0]), (0, [1, 1, 1, 1, 1, 1])], fun σ w => dP (slotOf σ 0) fun t_ => dI .i64 (slotOf σ 3) fun i_ => N1 t_ i_ w)] 2000) [(0, [1, 1, 1, 1, 1, 0, 1, 0, 0]), (2, [1, 1, 1, 1, 1, 0, 1, 0, 0]), (1, [0]), (0, [1, 1, 1, 1, 1, 1])] [(0, .pointer t), (3, .int .i64 i)] w := by kernel_rfl
theorem sock_Table_Check.L1b_sound {R : Bool → World → Prop} {N1 : Option Addr → Int → World → Prop} (hN1 : ∀ t i w, N1 t i w → KW Try.prog 18 24 (sock_Table_Check.RV R) ([(0, [1, 1, 1, 1, 1, 0, 1, 0, 0]), (2, [1, 1, 1, 1, 1, 0, 1, 0, 0]), (1, [0]), (0, [1, 1, 1, 1, 1, 1])].map (toItem (Try.f18.body.getD .skip))) [(0, .pointer t), (3, .int .i64 i)] w) (t : Option Addr) (i : Int) (w : World) (h : sock_Table_Check.L1b t i w  N1 R) :
    KW Try.prog 18 24 (sock_Table_Check.RV R) ([(0, [1, 1, 1, 1, 1, 0, 1, 0, 0]), (2, [1, 1, 1, 1, 1, 0, 1, 0, 0]), (1, [0]), (0, [1, 1, 1, 1, 1, 1])].map (toItem (Try.f18.body.getD .skip))) [(0, .pointer t), (3, .int .i64 i)] w := by
  exact block_spec Try.func18 Try.mixed (stops_cons (fun σ w h => by
      obtain ⟨t_, e0, h⟩ := dP_elim h
      obtain ⟨i_, e1, h⟩ := dI_elim h
      exact (hN1 t_ i_ w h).weaken (Sub.cons (Sub.cons (Sub.nil _) e1) e0)) stops_nil) (Eq.mp (sock_Table_Check.L1b_eq t i w  N1 R ) h)
def sock_Table_Check.L1 (t : Option Addr) (i : Int) (w : World)  (R : Bool → World → Prop) : Prop :=
  ∃ (I : Nat → Option Addr → Int → World → Prop) (m : Nat), I m t i w ∧ ∀ m t i w, I m t i w → sock_Table_Check.L1b t i w  (fun t' i' w' => ∃ m', m' < m ∧ I m' t' i' w') R
theorem sock_Table_Check.L1_sound {R : Bool → World → Prop}  (t : Option Addr) (i : Int) (w : World) (h : sock_Table_Check.L1 t i w  R) :
    KW Try.prog 18 24 (sock_Table_Check.RV R) ([(0, [1, 1, 1, 1, 1, 0, 1, 0, 0]), (2, [1, 1, 1, 1, 1, 0, 1, 0, 0]), (1, [0]), (0, [1, 1, 1, 1, 1, 1])].map (toItem (Try.f18.body.getD .skip))) [(0, .pointer t), (3, .int .i64 i)] w := by
  obtain ⟨I, m, hBase, hr⟩ := h
  refine KW.loop (fun m σ w => ∃ (t : Option Addr) (i : Int), σ = [(0, .pointer t), (3, .int .i64 i)] ∧ I m t i w) ?_ m _ w ⟨t, i, rfl, hBase⟩
  rintro m ih σ w ⟨t, i, rfl, hI⟩
  exact sock_Table_Check.L1b_sound  (N1 := fun t' i' w' => ∃ m', m' < m ∧ I m' t' i' w') (fun t' i' w' hx => by obtain ⟨m', hlt, hI'⟩ := hx; exact ih m' hlt _ w' ⟨t', i', rfl, hI'⟩) t i w (hr m t i w hI)
def sock_Table_Check.B0 (t : Option Addr) (w : World)   (R : Bool → World → Prop) : Prop :=
  sock_Table_rangesFine.Call t w fun r5 w1 =>
  Bm (!r5) (
    R false w1) (
    sock_Table_freeFine.Call t w1 fun r8 w2 =>
    Bm (!r8) (
      R false w2) (
      sock_Table_chainsFine.Call t w2 fun r11 w3 =>
      Bm (!r11) (
        R false w3) (
        sock_Table_portsFine.Call t w3 fun r14 w4 =>
        Bm (!r14) (
          R false w4) (
          sock_Table_Check.L1 t (0 : Int) w4  R))))
theorem sock_Table_Check.B0_eq (t : Option Addr) (w : World)   (R : Bool → World → Prop) (sL1 : Option Addr → Int → World → Prop) :
    (
  sock_Table_rangesFine.Call t w fun r5 w1 =>
  Bm (!r5) (
    R false w1) (
    sock_Table_freeFine.Call t w1 fun r8 w2 =>
    Bm (!r8) (
      R false w2) (
      sock_Table_chainsFine.Call t w2 fun r11 w3 =>
      Bm (!r11) (
        R false w3) (
        sock_Table_portsFine.Call t w3 fun r14 w4 =>
        Bm (!r14) (
          R false w4) (
          sL1 t (0 : Int) w4))))) = kstep Try.prog 24 Try.f18.results.toList (Try.f18.body.getD .skip) (sock_Table_Check.RV R) (kvc Try.prog 24 Try.f18.results.toList (Try.f18.body.getD .skip) (sock_Table_Check.RV R) [([(0, [1, 1, 1, 1, 1, 0, 1, 0, 0]), (2, [1, 1, 1, 1, 1, 0, 1, 0, 0]), (1, [0]), (0, [1, 1, 1, 1, 1, 1])], fun σ w => dP (slotOf σ 0) fun t_ => dI .i64 (slotOf σ 3) fun i_ => sL1 t_ i_ w)] 2000) [(0, [])] [(0, .pointer t)] w := by kernel_rfl
theorem sock_Table_Check.B0_sound {R : Bool → World → Prop}  (t : Option Addr) (w : World) (h : sock_Table_Check.B0 t w   R) :
    KW Try.prog 18 24 (sock_Table_Check.RV R) ([(0, [])].map (toItem (Try.f18.body.getD .skip))) [(0, .pointer t)] w := by
  exact block_spec Try.func18 Try.mixed (stops_cons (fun σ w h => by
      obtain ⟨t_, e0, h⟩ := dP_elim h
      obtain ⟨i_, e1, h⟩ := dI_elim h
      exact (sock_Table_Check.L1_sound  t_ i_ w h).weaken (Sub.cons (Sub.cons (Sub.nil _) e1) e0)) stops_nil) (Eq.mp (sock_Table_Check.B0_eq t w   R (fun t_ i_ w => sock_Table_Check.L1 t_ i_ w  R)) h)
theorem sock_Table_Check.sound (t : Option Addr) (w : World) (R : Bool → World → Prop) (h : sock_Table_Check.B0 t w R) : sock_Table_Check.Call t w R := by
  have hc := calls_of_block (args := #[.pointer t]) Try.func18 (body := (Try.f18.body.getD .skip)) (by kernel_rfl) (by kernel_rfl) (args_slot _) (sock_Table_Check.B0_sound t w h)
  exact hc.mono fun e w' he => by
    obtain ⟨v, rfl, hv⟩ := he
    exact sock_Table_Check.RV_elim hv
def socklaw_SameListen.B0 (x m0 : Option Addr) (port : Int) (w : World)   (R : Bool → World → Prop) : Prop :=
  sock_Table_Listen.Call x port w fun r14_0 r14_1 w1 =>
  sockm_Table_Listen.Call m0 port w1 fun r20_0 r20_1 w2 =>
  Bm (r14_0 == r20_0) (
    R (r14_1 == r20_1) w2) (
    R false w2)
theorem socklaw_SameListen.B0_eq (x m0 : Option Addr) (port : Int) (w : World)   (R : Bool → World → Prop)  :
    (
  sock_Table_Listen.Call x port w fun r14_0 r14_1 w1 =>
  sockm_Table_Listen.Call m0 port w1 fun r20_0 r20_1 w2 =>
  Bm (r14_0 == r20_0) (
    R (r14_1 == r20_1) w2) (
    R false w2)) = kstep Try.prog 31 Try.f19.results.toList (Try.f19.body.getD .skip) (socklaw_SameListen.RV R) (kvc Try.prog 31 Try.f19.results.toList (Try.f19.body.getD .skip) (socklaw_SameListen.RV R) [] 2000) [(0, [])] [(0, .pointer x), (1, .pointer m0), (2, .int .i64 port)] w := by kernel_rfl
theorem socklaw_SameListen.B0_sound {R : Bool → World → Prop}  (x m0 : Option Addr) (port : Int) (w : World) (h : socklaw_SameListen.B0 x m0 port w   R) :
    KW Try.prog 19 31 (socklaw_SameListen.RV R) ([(0, [])].map (toItem (Try.f19.body.getD .skip))) [(0, .pointer x), (1, .pointer m0), (2, .int .i64 port)] w := by
  exact block_spec Try.func19 Try.mixed stops_nil (Eq.mp (socklaw_SameListen.B0_eq x m0 port w   R ) h)
theorem socklaw_SameListen.sound (x m0 : Option Addr) (port : Int) (w : World) (R : Bool → World → Prop) (h : socklaw_SameListen.B0 x m0 port w R) : socklaw_SameListen.Call x m0 port w R := by
  have hc := calls_of_block (args := #[.pointer x, .pointer m0, .int .i64 port]) Try.func19 (body := (Try.f19.body.getD .skip)) (by kernel_rfl) (by kernel_rfl) (args_slot _) (socklaw_SameListen.B0_sound x m0 port w h)
  exact hc.mono fun e w' he => by
    obtain ⟨v, rfl, hv⟩ := he
    exact socklaw_SameListen.RV_elim hv
def socklaw_SameConnect.B0 (x m0 : Option Addr) (rhost rport : Int) (w : World)   (R : Bool → World → Prop) : Prop :=
  sock_Table_Connect.Call x rhost rport w fun r17_0 r17_1 w1 =>
  sockm_Table_Connect.Call m0 rhost rport w1 fun r24_0 r24_1 w2 =>
  Bm (r17_0 == r24_0) (
    R (r17_1 == r24_1) w2) (
    R false w2)
theorem socklaw_SameConnect.B0_eq (x m0 : Option Addr) (rhost rport : Int) (w : World)   (R : Bool → World → Prop)  :
    (
  sock_Table_Connect.Call x rhost rport w fun r17_0 r17_1 w1 =>
  sockm_Table_Connect.Call m0 rhost rport w1 fun r24_0 r24_1 w2 =>
  Bm (r17_0 == r24_0) (
    R (r17_1 == r24_1) w2) (
    R false w2)) = kstep Try.prog 35 Try.f20.results.toList (Try.f20.body.getD .skip) (socklaw_SameConnect.RV R) (kvc Try.prog 35 Try.f20.results.toList (Try.f20.body.getD .skip) (socklaw_SameConnect.RV R) [] 2000) [(0, [])] [(0, .pointer x), (1, .pointer m0), (2, .int .i64 rhost), (3, .int .i64 rport)] w := by kernel_rfl
theorem socklaw_SameConnect.B0_sound {R : Bool → World → Prop}  (x m0 : Option Addr) (rhost rport : Int) (w : World) (h : socklaw_SameConnect.B0 x m0 rhost rport w   R) :
    KW Try.prog 20 35 (socklaw_SameConnect.RV R) ([(0, [])].map (toItem (Try.f20.body.getD .skip))) [(0, .pointer x), (1, .pointer m0), (2, .int .i64 rhost), (3, .int .i64 rport)] w := by
  exact block_spec Try.func20 Try.mixed stops_nil (Eq.mp (socklaw_SameConnect.B0_eq x m0 rhost rport w   R ) h)
theorem socklaw_SameConnect.sound (x m0 : Option Addr) (rhost rport : Int) (w : World) (R : Bool → World → Prop) (h : socklaw_SameConnect.B0 x m0 rhost rport w R) : socklaw_SameConnect.Call x m0 rhost rport w R := by
  have hc := calls_of_block (args := #[.pointer x, .pointer m0, .int .i64 rhost, .int .i64 rport]) Try.func20 (body := (Try.f20.body.getD .skip)) (by kernel_rfl) (by kernel_rfl) (args_slot _) (socklaw_SameConnect.B0_sound x m0 rhost rport w h)
  exact hc.mono fun e w' he => by
    obtain ⟨v, rfl, hv⟩ := he
    exact socklaw_SameConnect.RV_elim hv
def socklaw_SameChild.B0 (x m0 : Option Addr) (lport rhost rport : Int) (w : World)   (R : Bool → World → Prop) : Prop :=
  sock_Table_Child.Call x lport rhost rport w fun r20_0 r20_1 w1 =>
  sockm_Table_Child.Call m0 lport rhost rport w1 fun r28_0 r28_1 w2 =>
  Bm (r20_0 == r28_0) (
    R (r20_1 == r28_1) w2) (
    R false w2)
theorem socklaw_SameChild.B0_eq (x m0 : Option Addr) (lport rhost rport : Int) (w : World)   (R : Bool → World → Prop)  :
    (
  sock_Table_Child.Call x lport rhost rport w fun r20_0 r20_1 w1 =>
  sockm_Table_Child.Call m0 lport rhost rport w1 fun r28_0 r28_1 w2 =>
  Bm (r20_0 == r28_0) (
    R (r20_1 == r28_1) w2) (
    R false w2)) = kstep Try.prog 39 Try.f21.results.toList (Try.f21.body.getD .skip) (socklaw_SameChild.RV R) (kvc Try.prog 39 Try.f21.results.toList (Try.f21.body.getD .skip) (socklaw_SameChild.RV R) [] 2000) [(0, [])] [(0, .pointer x), (1, .pointer m0), (2, .int .i64 lport), (3, .int .i64 rhost), (4, .int .i64 rport)] w := by kernel_rfl
theorem socklaw_SameChild.B0_sound {R : Bool → World → Prop}  (x m0 : Option Addr) (lport rhost rport : Int) (w : World) (h : socklaw_SameChild.B0 x m0 lport rhost rport w   R) :
    KW Try.prog 21 39 (socklaw_SameChild.RV R) ([(0, [])].map (toItem (Try.f21.body.getD .skip))) [(0, .pointer x), (1, .pointer m0), (2, .int .i64 lport), (3, .int .i64 rhost), (4, .int .i64 rport)] w := by
  exact block_spec Try.func21 Try.mixed stops_nil (Eq.mp (socklaw_SameChild.B0_eq x m0 lport rhost rport w   R ) h)
theorem socklaw_SameChild.sound (x m0 : Option Addr) (lport rhost rport : Int) (w : World) (R : Bool → World → Prop) (h : socklaw_SameChild.B0 x m0 lport rhost rport w R) : socklaw_SameChild.Call x m0 lport rhost rport w R := by
  have hc := calls_of_block (args := #[.pointer x, .pointer m0, .int .i64 lport, .int .i64 rhost, .int .i64 rport]) Try.func21 (body := (Try.f21.body.getD .skip)) (by kernel_rfl) (by kernel_rfl) (args_slot _) (socklaw_SameChild.B0_sound x m0 lport rhost rport w h)
  exact hc.mono fun e w' he => by
    obtain ⟨v, rfl, hv⟩ := he
    exact socklaw_SameChild.RV_elim hv
def socklaw_SameReady.B0 (x m0 : Option Addr) (sd : Int) (w : World)   (R : Bool → World → Prop) : Prop :=
  sock_Table_Ready.Call x sd w fun r11 w1 =>
  sockm_Table_Ready.Call m0 sd w1 fun r14 w2 =>
  R (r11 == r14) w2
theorem socklaw_SameReady.B0_eq (x m0 : Option Addr) (sd : Int) (w : World)   (R : Bool → World → Prop)  :
    (
  sock_Table_Ready.Call x sd w fun r11 w1 =>
  sockm_Table_Ready.Call m0 sd w1 fun r14 w2 =>
  R (r11 == r14) w2) = kstep Try.prog 18 Try.f22.results.toList (Try.f22.body.getD .skip) (socklaw_SameReady.RV R) (kvc Try.prog 18 Try.f22.results.toList (Try.f22.body.getD .skip) (socklaw_SameReady.RV R) [] 2000) [(0, [])] [(0, .pointer x), (1, .pointer m0), (2, .int .i64 sd)] w := by kernel_rfl
theorem socklaw_SameReady.B0_sound {R : Bool → World → Prop}  (x m0 : Option Addr) (sd : Int) (w : World) (h : socklaw_SameReady.B0 x m0 sd w   R) :
    KW Try.prog 22 18 (socklaw_SameReady.RV R) ([(0, [])].map (toItem (Try.f22.body.getD .skip))) [(0, .pointer x), (1, .pointer m0), (2, .int .i64 sd)] w := by
  exact block_spec Try.func22 Try.mixed stops_nil (Eq.mp (socklaw_SameReady.B0_eq x m0 sd w   R ) h)
theorem socklaw_SameReady.sound (x m0 : Option Addr) (sd : Int) (w : World) (R : Bool → World → Prop) (h : socklaw_SameReady.B0 x m0 sd w R) : socklaw_SameReady.Call x m0 sd w R := by
  have hc := calls_of_block (args := #[.pointer x, .pointer m0, .int .i64 sd]) Try.func22 (body := (Try.f22.body.getD .skip)) (by kernel_rfl) (by kernel_rfl) (args_slot _) (socklaw_SameReady.B0_sound x m0 sd w h)
  exact hc.mono fun e w' he => by
    obtain ⟨v, rfl, hv⟩ := he
    exact socklaw_SameReady.RV_elim hv
def socklaw_SameAccept.B0 (x m0 : Option Addr) (lsd : Int) (w : World)   (R : Bool → World → Prop) : Prop :=
  sock_Table_Accept.Call x lsd w fun r14_0 r14_1 w1 =>
  sockm_Table_Accept.Call m0 lsd w1 fun r20_0 r20_1 w2 =>
  Bm (r14_0 == r20_0) (
    R (r14_1 == r20_1) w2) (
    R false w2)
theorem socklaw_SameAccept.B0_eq (x m0 : Option Addr) (lsd : Int) (w : World)   (R : Bool → World → Prop)  :
    (
  sock_Table_Accept.Call x lsd w fun r14_0 r14_1 w1 =>
  sockm_Table_Accept.Call m0 lsd w1 fun r20_0 r20_1 w2 =>
  Bm (r14_0 == r20_0) (
    R (r14_1 == r20_1) w2) (
    R false w2)) = kstep Try.prog 31 Try.f23.results.toList (Try.f23.body.getD .skip) (socklaw_SameAccept.RV R) (kvc Try.prog 31 Try.f23.results.toList (Try.f23.body.getD .skip) (socklaw_SameAccept.RV R) [] 2000) [(0, [])] [(0, .pointer x), (1, .pointer m0), (2, .int .i64 lsd)] w := by kernel_rfl
theorem socklaw_SameAccept.B0_sound {R : Bool → World → Prop}  (x m0 : Option Addr) (lsd : Int) (w : World) (h : socklaw_SameAccept.B0 x m0 lsd w   R) :
    KW Try.prog 23 31 (socklaw_SameAccept.RV R) ([(0, [])].map (toItem (Try.f23.body.getD .skip))) [(0, .pointer x), (1, .pointer m0), (2, .int .i64 lsd)] w := by
  exact block_spec Try.func23 Try.mixed stops_nil (Eq.mp (socklaw_SameAccept.B0_eq x m0 lsd w   R ) h)
theorem socklaw_SameAccept.sound (x m0 : Option Addr) (lsd : Int) (w : World) (R : Bool → World → Prop) (h : socklaw_SameAccept.B0 x m0 lsd w R) : socklaw_SameAccept.Call x m0 lsd w R := by
  have hc := calls_of_block (args := #[.pointer x, .pointer m0, .int .i64 lsd]) Try.func23 (body := (Try.f23.body.getD .skip)) (by kernel_rfl) (by kernel_rfl) (args_slot _) (socklaw_SameAccept.B0_sound x m0 lsd w h)
  exact hc.mono fun e w' he => by
    obtain ⟨v, rfl, hv⟩ := he
    exact socklaw_SameAccept.RV_elim hv
def socklaw_SameFree.B0 (x m0 : Option Addr) (sd : Int) (w : World)   (R : Bool → World → Prop) : Prop :=
  sock_Table_Free.Call x sd w fun r11 w1 =>
  sockm_Table_Free.Call m0 sd w1 fun r14 w2 =>
  R (r11 == r14) w2
theorem socklaw_SameFree.B0_eq (x m0 : Option Addr) (sd : Int) (w : World)   (R : Bool → World → Prop)  :
    (
  sock_Table_Free.Call x sd w fun r11 w1 =>
  sockm_Table_Free.Call m0 sd w1 fun r14 w2 =>
  R (r11 == r14) w2) = kstep Try.prog 18 Try.f24.results.toList (Try.f24.body.getD .skip) (socklaw_SameFree.RV R) (kvc Try.prog 18 Try.f24.results.toList (Try.f24.body.getD .skip) (socklaw_SameFree.RV R) [] 2000) [(0, [])] [(0, .pointer x), (1, .pointer m0), (2, .int .i64 sd)] w := by kernel_rfl
theorem socklaw_SameFree.B0_sound {R : Bool → World → Prop}  (x m0 : Option Addr) (sd : Int) (w : World) (h : socklaw_SameFree.B0 x m0 sd w   R) :
    KW Try.prog 24 18 (socklaw_SameFree.RV R) ([(0, [])].map (toItem (Try.f24.body.getD .skip))) [(0, .pointer x), (1, .pointer m0), (2, .int .i64 sd)] w := by
  exact block_spec Try.func24 Try.mixed stops_nil (Eq.mp (socklaw_SameFree.B0_eq x m0 sd w   R ) h)
theorem socklaw_SameFree.sound (x m0 : Option Addr) (sd : Int) (w : World) (R : Bool → World → Prop) (h : socklaw_SameFree.B0 x m0 sd w R) : socklaw_SameFree.Call x m0 sd w R := by
  have hc := calls_of_block (args := #[.pointer x, .pointer m0, .int .i64 sd]) Try.func24 (body := (Try.f24.body.getD .skip)) (by kernel_rfl) (by kernel_rfl) (args_slot _) (socklaw_SameFree.B0_sound x m0 sd w h)
  exact hc.mono fun e w' he => by
    obtain ⟨v, rfl, hv⟩ := he
    exact socklaw_SameFree.RV_elim hv
def socklaw_SameLookup.B0 (x m0 : Option Addr) (lport rhost rport : Int) (w : World)   (R : Bool → World → Prop) : Prop :=
  sock_Table_Lookup.Call x lport rhost rport w fun r17 w1 =>
  sockm_Table_Lookup.Call m0 lport rhost rport w1 fun r22 w2 =>
  R (r17 == r22) w2
theorem socklaw_SameLookup.B0_eq (x m0 : Option Addr) (lport rhost rport : Int) (w : World)   (R : Bool → World → Prop)  :
    (
  sock_Table_Lookup.Call x lport rhost rport w fun r17 w1 =>
  sockm_Table_Lookup.Call m0 lport rhost rport w1 fun r22 w2 =>
  R (r17 == r22) w2) = kstep Try.prog 26 Try.f25.results.toList (Try.f25.body.getD .skip) (socklaw_SameLookup.RV R) (kvc Try.prog 26 Try.f25.results.toList (Try.f25.body.getD .skip) (socklaw_SameLookup.RV R) [] 2000) [(0, [])] [(0, .pointer x), (1, .pointer m0), (2, .int .i64 lport), (3, .int .i64 rhost), (4, .int .i64 rport)] w := by kernel_rfl
theorem socklaw_SameLookup.B0_sound {R : Bool → World → Prop}  (x m0 : Option Addr) (lport rhost rport : Int) (w : World) (h : socklaw_SameLookup.B0 x m0 lport rhost rport w   R) :
    KW Try.prog 25 26 (socklaw_SameLookup.RV R) ([(0, [])].map (toItem (Try.f25.body.getD .skip))) [(0, .pointer x), (1, .pointer m0), (2, .int .i64 lport), (3, .int .i64 rhost), (4, .int .i64 rport)] w := by
  exact block_spec Try.func25 Try.mixed stops_nil (Eq.mp (socklaw_SameLookup.B0_eq x m0 lport rhost rport w   R ) h)
theorem socklaw_SameLookup.sound (x m0 : Option Addr) (lport rhost rport : Int) (w : World) (R : Bool → World → Prop) (h : socklaw_SameLookup.B0 x m0 lport rhost rport w R) : socklaw_SameLookup.Call x m0 lport rhost rport w R := by
  have hc := calls_of_block (args := #[.pointer x, .pointer m0, .int .i64 lport, .int .i64 rhost, .int .i64 rport]) Try.func25 (body := (Try.f25.body.getD .skip)) (by kernel_rfl) (by kernel_rfl) (args_slot _) (socklaw_SameLookup.B0_sound x m0 lport rhost rport w h)
  exact hc.mono fun e w' he => by
    obtain ⟨v, rfl, hv⟩ := he
    exact socklaw_SameLookup.RV_elim hv
def socklaw_SameQueue.B0 (d : Option Addr) (lsd : Int) (w : World)   (R : Bool → World → Prop) : Prop :=
  Pn d fun a =>
  LdP a w fun x10 =>
  sock_Table_Queue.Call x10 lsd w fun r12_b r12_l r12_c w1 =>
  Pn d fun a_1 =>
  LdP (a_1.add 1) w1 fun x16 =>
  sockm_Table_Queue.Call x16 lsd w1 fun r18_b r18_l r18_c w2 =>
  socklaw_SameInts.Call d r12_b r12_l r12_c r18_b r18_l r18_c w2 fun r22 w3 =>
  R r22 w3
theorem socklaw_SameQueue.B0_eq (d : Option Addr) (lsd : Int) (w : World)   (R : Bool → World → Prop)  :
    (
  Pn d fun a =>
  LdP a w fun x10 =>
  sock_Table_Queue.Call x10 lsd w fun r12_b r12_l r12_c w1 =>
  Pn d fun a_1 =>
  LdP (a_1.add 1) w1 fun x16 =>
  sockm_Table_Queue.Call x16 lsd w1 fun r18_b r18_l r18_c w2 =>
  socklaw_SameInts.Call d r12_b r12_l r12_c r18_b r18_l r18_c w2 fun r22 w3 =>
  R r22 w3) = kstep Try.prog 23 Try.f26.results.toList (Try.f26.body.getD .skip) (socklaw_SameQueue.RV R) (kvc Try.prog 23 Try.f26.results.toList (Try.f26.body.getD .skip) (socklaw_SameQueue.RV R) [] 2000) [(0, [])] [(0, .pointer d), (1, .int .i64 lsd)] w := by kernel_rfl
theorem socklaw_SameQueue.B0_sound {R : Bool → World → Prop}  (d : Option Addr) (lsd : Int) (w : World) (h : socklaw_SameQueue.B0 d lsd w   R) :
    KW Try.prog 26 23 (socklaw_SameQueue.RV R) ([(0, [])].map (toItem (Try.f26.body.getD .skip))) [(0, .pointer d), (1, .int .i64 lsd)] w := by
  exact block_spec Try.func26 Try.mixed stops_nil (Eq.mp (socklaw_SameQueue.B0_eq d lsd w   R ) h)
theorem socklaw_SameQueue.sound (d : Option Addr) (lsd : Int) (w : World) (R : Bool → World → Prop) (h : socklaw_SameQueue.B0 d lsd w R) : socklaw_SameQueue.Call d lsd w R := by
  have hc := calls_of_block (args := #[.pointer d, .int .i64 lsd]) Try.func26 (body := (Try.f26.body.getD .skip)) (by kernel_rfl) (by kernel_rfl) (args_slot _) (socklaw_SameQueue.B0_sound d lsd w h)
  exact hc.mono fun e w' he => by
    obtain ⟨v, rfl, hv⟩ := he
    exact socklaw_SameQueue.RV_elim hv
def sock_Table_Next.B0 (t : Option Addr) (w : World)   (R : Int → Int → World → Prop) : Prop :=
  Pn t fun a =>
  LdI .i64 (a.add 105) w.drew fun x7 =>
  Pn t fun a_1 =>
  LdI .i64 (a_1.add 106) w.drew fun x11 =>
  R x7 x11 w.drew
theorem sock_Table_Next.B0_eq (t : Option Addr) (w : World)   (R : Int → Int → World → Prop)  :
    (
  Pn t fun a =>
  LdI .i64 (a.add 105) w.drew fun x7 =>
  Pn t fun a_1 =>
  LdI .i64 (a_1.add 106) w.drew fun x11 =>
  R x7 x11 w.drew) = kstep Try.prog 12 Try.f27.results.toList (Try.f27.body.getD .skip) (sock_Table_Next.RV R) (kvc Try.prog 12 Try.f27.results.toList (Try.f27.body.getD .skip) (sock_Table_Next.RV R) [] 2000) [(0, [])] [(0, .pointer t)] w := by kernel_rfl
theorem sock_Table_Next.B0_sound {R : Int → Int → World → Prop}  (t : Option Addr) (w : World) (h : sock_Table_Next.B0 t w   R) :
    KW Try.prog 27 12 (sock_Table_Next.RV R) ([(0, [])].map (toItem (Try.f27.body.getD .skip))) [(0, .pointer t)] w := by
  exact block_spec Try.func27 Try.mixed stops_nil (Eq.mp (sock_Table_Next.B0_eq t w   R ) h)
theorem sock_Table_Next.sound (t : Option Addr) (w : World) (R : Int → Int → World → Prop) (h : sock_Table_Next.B0 t w R) : sock_Table_Next.Call t w R := by
  have hc := calls_of_block (args := #[.pointer t]) Try.func27 (body := (Try.f27.body.getD .skip)) (by kernel_rfl) (by kernel_rfl) (args_slot _) (sock_Table_Next.B0_sound t w h)
  exact hc.mono fun e w' he => by
    obtain ⟨v, rfl, hv⟩ := he
    exact sock_Table_Next.RV_elim hv
def sockm_Table_Next.B0 (t : Option Addr) (w : World)   (R : Int → Int → World → Prop) : Prop :=
  Pn t fun a =>
  LdI .i64 (a.add 1) w.drew fun x7 =>
  Pn t fun a_1 =>
  LdI .i64 (a_1.add 2) w.drew fun x11 =>
  R x7 x11 w.drew
theorem sockm_Table_Next.B0_eq (t : Option Addr) (w : World)   (R : Int → Int → World → Prop)  :
    (
  Pn t fun a =>
  LdI .i64 (a.add 1) w.drew fun x7 =>
  Pn t fun a_1 =>
  LdI .i64 (a_1.add 2) w.drew fun x11 =>
  R x7 x11 w.drew) = kstep Try.prog 12 Try.f28.results.toList (Try.f28.body.getD .skip) (sockm_Table_Next.RV R) (kvc Try.prog 12 Try.f28.results.toList (Try.f28.body.getD .skip) (sockm_Table_Next.RV R) [] 2000) [(0, [])] [(0, .pointer t)] w := by kernel_rfl
theorem sockm_Table_Next.B0_sound {R : Int → Int → World → Prop}  (t : Option Addr) (w : World) (h : sockm_Table_Next.B0 t w   R) :
    KW Try.prog 28 12 (sockm_Table_Next.RV R) ([(0, [])].map (toItem (Try.f28.body.getD .skip))) [(0, .pointer t)] w := by
  exact block_spec Try.func28 Try.mixed stops_nil (Eq.mp (sockm_Table_Next.B0_eq t w   R ) h)
theorem sockm_Table_Next.sound (t : Option Addr) (w : World) (R : Int → Int → World → Prop) (h : sockm_Table_Next.B0 t w R) : sockm_Table_Next.Call t w R := by
  have hc := calls_of_block (args := #[.pointer t]) Try.func28 (body := (Try.f28.body.getD .skip)) (by kernel_rfl) (by kernel_rfl) (args_slot _) (sockm_Table_Next.B0_sound t w h)
  exact hc.mono fun e w' he => by
    obtain ⟨v, rfl, hv⟩ := he
    exact sockm_Table_Next.RV_elim hv
def sock_Table_List.B1 (t : Option Addr) (n i : Int) (w : World) (N1 : Option Addr → Int → Int → World → Prop)  (R : Option Addr → Nat → Nat → World → Prop) : Prop :=
  N1 t n (IntKind.i64.wrap (i + (1 : Int))) w
theorem sock_Table_List.B1_eq (t : Option Addr) (n i : Int) (w : World) (N1 : Option Addr → Int → Int → World → Prop)  (R : Option Addr → Nat → Nat → World → Prop)  :
    (
  N1 t n (IntKind.i64.wrap (i + (1 : Int))) w) = kstep Try.prog 82 Try.f29.results.toList (Try.f29.body.getD .skip) (sock_Table_List.RV R) (kvc Try.prog 82 Try.f29.results.toList (Try.f29.body.getD .skip) (sock_Table_List.RV R) [([(0, [1, 1, 0, 1, 0, 0]), (2, [1, 1, 0, 1, 0, 0]), (1, [0]), (0, [1, 1, 1])], fun σ w => dP (slotOf σ 0) fun t_ => dI .i64 (slotOf σ 3) fun n_ => dI .i64 (slotOf σ 4) fun i_ => N1 t_ n_ i_ w)] 2000) [(0, [1, 1, 0, 1, 0, 0, 1, 1]), (2, [1, 1, 0, 1, 0, 0]), (1, [0]), (0, [1, 1, 1])] [(0, .pointer t), (3, .int .i64 n), (4, .int .i64 i)] w := by kernel_rfl
theorem sock_Table_List.B1_sound {R : Option Addr → Nat → Nat → World → Prop} {N1 : Option Addr → Int → Int → World → Prop} (hN1 : ∀ t n i w, N1 t n i w → KW Try.prog 29 82 (sock_Table_List.RV R) ([(0, [1, 1, 0, 1, 0, 0]), (2, [1, 1, 0, 1, 0, 0]), (1, [0]), (0, [1, 1, 1])].map (toItem (Try.f29.body.getD .skip))) [(0, .pointer t), (3, .int .i64 n), (4, .int .i64 i)] w) (t : Option Addr) (n i : Int) (w : World) (h : sock_Table_List.B1 t n i w N1  R) :
    KW Try.prog 29 82 (sock_Table_List.RV R) ([(0, [1, 1, 0, 1, 0, 0, 1, 1]), (2, [1, 1, 0, 1, 0, 0]), (1, [0]), (0, [1, 1, 1])].map (toItem (Try.f29.body.getD .skip))) [(0, .pointer t), (3, .int .i64 n), (4, .int .i64 i)] w := by
  exact block_spec Try.func29 Try.mixed (stops_cons (fun σ w h => by
      obtain ⟨t_, e0, h⟩ := dP_elim h
      obtain ⟨n_, e1, h⟩ := dI_elim h
      obtain ⟨i_, e2, h⟩ := dI_elim h
      exact (hN1 t_ n_ i_ w h).weaken (Sub.cons (Sub.cons (Sub.cons (Sub.nil _) e2) e1) e0)) stops_nil) (Eq.mp (sock_Table_List.B1_eq t n i w N1  R ) h)
def sock_Table_List.B2 (t out_b : Option Addr) (out_l out_c : Nat) (k i j : Int) (t60 : Bool) (w : World) (N2 : Option Addr → Option Addr → Nat → Nat → Int → Int → World → Prop) (N3 : Option Addr → Option Addr → Nat → Nat → Int → Int → Int → World → Prop)  (R : Option Addr → Nat → Nat → World → Prop) : Prop :=
  Bm t60 (
    Pn out_b fun a =>
    (0 ≤ j ∧ j < ((out_l : Nat) : Int)) ∧
    LdI .i64 (Addr.add a (j.toNat * 1)) w.drew fun x71 =>
    Pn out_b fun a_1 =>
    (0 ≤ (IntKind.i64.wrap (j - (1 : Int))) ∧ (IntKind.i64.wrap (j - (1 : Int))) < ((out_l : Nat) : Int)) ∧
    LdI .i64 (Addr.add a_1 ((IntKind.i64.wrap (j - (1 : Int))).toNat * 1)) w.drew fun x76 =>
    Pn out_b fun a_2 =>
    (0 ≤ (IntKind.i64.wrap (j - (1 : Int))) ∧ (IntKind.i64.wrap (j - (1 : Int))) < ((out_l : Nat) : Int)) ∧
    Sts [.int .i64 x71] (Addr.add a_2 ((IntKind.i64.wrap (j - (1 : Int))).toNat * 1)) 0 w.drew fun w1 =>
    Pn out_b fun a_3 =>
    (0 ≤ j ∧ j < ((out_l : Nat) : Int)) ∧
    Sts [.int .i64 x76] (Addr.add a_3 (j.toNat * 1)) 0 w1 fun w2 =>
    N3 t out_b out_l out_c k i (IntKind.i64.wrap (j - (1 : Int))) w2) (
    N2 t out_b out_l out_c (IntKind.i64.wrap (k + (1 : Int))) (IntKind.i64.wrap (i + (1 : Int))) w)
theorem sock_Table_List.B2_eq (t out_b : Option Addr) (out_l out_c : Nat) (k i j : Int) (t60 : Bool) (w : World) (N2 : Option Addr → Option Addr → Nat → Nat → Int → Int → World → Prop) (N3 : Option Addr → Option Addr → Nat → Nat → Int → Int → Int → World → Prop)  (R : Option Addr → Nat → Nat → World → Prop)  :
    (
  Bm t60 (
    Pn out_b fun a =>
    (0 ≤ j ∧ j < ((out_l : Nat) : Int)) ∧
    LdI .i64 (Addr.add a (j.toNat * 1)) w.drew fun x71 =>
    Pn out_b fun a_1 =>
    (0 ≤ (IntKind.i64.wrap (j - (1 : Int))) ∧ (IntKind.i64.wrap (j - (1 : Int))) < ((out_l : Nat) : Int)) ∧
    LdI .i64 (Addr.add a_1 ((IntKind.i64.wrap (j - (1 : Int))).toNat * 1)) w.drew fun x76 =>
    Pn out_b fun a_2 =>
    (0 ≤ (IntKind.i64.wrap (j - (1 : Int))) ∧ (IntKind.i64.wrap (j - (1 : Int))) < ((out_l : Nat) : Int)) ∧
    Sts [.int .i64 x71] (Addr.add a_2 ((IntKind.i64.wrap (j - (1 : Int))).toNat * 1)) 0 w.drew fun w1 =>
    Pn out_b fun a_3 =>
    (0 ≤ j ∧ j < ((out_l : Nat) : Int)) ∧
    Sts [.int .i64 x76] (Addr.add a_3 (j.toNat * 1)) 0 w1 fun w2 =>
    N3 t out_b out_l out_c k i (IntKind.i64.wrap (j - (1 : Int))) w2) (
    N2 t out_b out_l out_c (IntKind.i64.wrap (k + (1 : Int))) (IntKind.i64.wrap (i + (1 : Int))) w)) = kstep Try.prog 82 Try.f29.results.toList (Try.f29.body.getD .skip) (sock_Table_List.RV R) (kvc Try.prog 82 Try.f29.results.toList (Try.f29.body.getD .skip) (sock_Table_List.RV R) [([(0, [1, 1, 1, 1, 1, 0, 1, 0, 0, 1, 0, 0, 1, 0, 1, 0, 1, 0, 0]), (2, [1, 1, 1, 1, 1, 0, 1, 0, 0, 1, 0, 0, 1, 0, 1, 0, 1, 0, 0]), (1, [4]), (0, [1, 1, 1, 1, 1, 0, 1, 0, 0, 1, 0, 0, 1, 0, 1, 1]), (1, [3]), (0, [1, 1, 1, 1, 1, 0, 1, 0, 0, 1, 1]), (2, [1, 1, 1, 1, 1, 0, 1, 0, 0]), (1, [2]), (0, [1, 1, 1, 1, 1, 1])], fun σ w => dP (slotOf σ 0) fun t_ => dL (slotOf σ 5) fun out_b_ out_l_ out_c_ => dI .i64 (slotOf σ 6) fun k_ => dI .i64 (slotOf σ 7) fun i_ => dI .i64 (slotOf σ 8) fun j_ => N3 t_ out_b_ out_l_ out_c_ k_ i_ j_ w),
    ([(0, [1, 1, 1, 1, 1, 0, 1, 0, 0]), (2, [1, 1, 1, 1, 1, 0, 1, 0, 0]), (1, [2]), (0, [1, 1, 1, 1, 1, 1])], fun σ w => dP (slotOf σ 0) fun t_ => dL (slotOf σ 5) fun out_b_ out_l_ out_c_ => dI .i64 (slotOf σ 6) fun k_ => dI .i64 (slotOf σ 7) fun i_ => N2 t_ out_b_ out_l_ out_c_ k_ i_ w)] 2000) [(0, [1, 1, 1, 1, 1, 0, 1, 0, 0, 1, 0, 0, 1, 0, 1, 0, 1, 0, 0, 0, 1]), (0, [1, 1, 1, 1, 1, 0, 1, 0, 0, 1, 0, 0, 1, 0, 1, 0, 1, 0, 0, 1]), (2, [1, 1, 1, 1, 1, 0, 1, 0, 0, 1, 0, 0, 1, 0, 1, 0, 1, 0, 0]), (1, [4]), (0, [1, 1, 1, 1, 1, 0, 1, 0, 0, 1, 0, 0, 1, 0, 1, 1]), (1, [3]), (0, [1, 1, 1, 1, 1, 0, 1, 0, 0, 1, 1]), (2, [1, 1, 1, 1, 1, 0, 1, 0, 0]), (1, [2]), (0, [1, 1, 1, 1, 1, 1])] [(0, .pointer t), (5, .slice out_b out_l out_c), (6, .int .i64 k), (7, .int .i64 i), (8, .int .i64 j), (60, .bool t60)] w := by kernel_rfl
theorem sock_Table_List.B2_sound {R : Option Addr → Nat → Nat → World → Prop} {N2 : Option Addr → Option Addr → Nat → Nat → Int → Int → World → Prop} (hN2 : ∀ t out_b out_l out_c k i w, N2 t out_b out_l out_c k i w → KW Try.prog 29 82 (sock_Table_List.RV R) ([(0, [1, 1, 1, 1, 1, 0, 1, 0, 0]), (2, [1, 1, 1, 1, 1, 0, 1, 0, 0]), (1, [2]), (0, [1, 1, 1, 1, 1, 1])].map (toItem (Try.f29.body.getD .skip))) [(0, .pointer t), (5, .slice out_b out_l out_c), (6, .int .i64 k), (7, .int .i64 i)] w) {N3 : Option Addr → Option Addr → Nat → Nat → Int → Int → Int → World → Prop} (hN3 : ∀ t out_b out_l out_c k i j w, N3 t out_b out_l out_c k i j w → KW Try.prog 29 82 (sock_Table_List.RV R) ([(0, [1, 1, 1, 1, 1, 0, 1, 0, 0, 1, 0, 0, 1, 0, 1, 0, 1, 0, 0]), (2, [1, 1, 1, 1, 1, 0, 1, 0, 0, 1, 0, 0, 1, 0, 1, 0, 1, 0, 0]), (1, [4]), (0, [1, 1, 1, 1, 1, 0, 1, 0, 0, 1, 0, 0, 1, 0, 1, 1]), (1, [3]), (0, [1, 1, 1, 1, 1, 0, 1, 0, 0, 1, 1]), (2, [1, 1, 1, 1, 1, 0, 1, 0, 0]), (1, [2]), (0, [1, 1, 1, 1, 1, 1])].map (toItem (Try.f29.body.getD .skip))) [(0, .pointer t), (5, .slice out_b out_l out_c), (6, .int .i64 k), (7, .int .i64 i), (8, .int .i64 j)] w) (t out_b : Option Addr) (out_l out_c : Nat) (k i j : Int) (t60 : Bool) (w : World) (h : sock_Table_List.B2 t out_b out_l out_c k i j t60 w N2 N3  R) :
    KW Try.prog 29 82 (sock_Table_List.RV R) ([(0, [1, 1, 1, 1, 1, 0, 1, 0, 0, 1, 0, 0, 1, 0, 1, 0, 1, 0, 0, 0, 1]), (0, [1, 1, 1, 1, 1, 0, 1, 0, 0, 1, 0, 0, 1, 0, 1, 0, 1, 0, 0, 1]), (2, [1, 1, 1, 1, 1, 0, 1, 0, 0, 1, 0, 0, 1, 0, 1, 0, 1, 0, 0]), (1, [4]), (0, [1, 1, 1, 1, 1, 0, 1, 0, 0, 1, 0, 0, 1, 0, 1, 1]), (1, [3]), (0, [1, 1, 1, 1, 1, 0, 1, 0, 0, 1, 1]), (2, [1, 1, 1, 1, 1, 0, 1, 0, 0]), (1, [2]), (0, [1, 1, 1, 1, 1, 1])].map (toItem (Try.f29.body.getD .skip))) [(0, .pointer t), (5, .slice out_b out_l out_c), (6, .int .i64 k), (7, .int .i64 i), (8, .int .i64 j), (60, .bool t60)] w := by
  exact block_spec Try.func29 Try.mixed (stops_cons (fun σ w h => by
      obtain ⟨t_, e0, h⟩ := dP_elim h
      obtain ⟨out_b_, out_l_, out_c_, e1, h⟩ := dL_elim h
      obtain ⟨k_, e2, h⟩ := dI_elim h
      obtain ⟨i_, e3, h⟩ := dI_elim h
      obtain ⟨j_, e4, h⟩ := dI_elim h
      exact (hN3 t_ out_b_ out_l_ out_c_ k_ i_ j_ w h).weaken (Sub.cons (Sub.cons (Sub.cons (Sub.cons (Sub.cons (Sub.nil _) e4) e3) e2) e1) e0)) (stops_cons (fun σ w h => by
      obtain ⟨t_, e0, h⟩ := dP_elim h
      obtain ⟨out_b_, out_l_, out_c_, e1, h⟩ := dL_elim h
      obtain ⟨k_, e2, h⟩ := dI_elim h
      obtain ⟨i_, e3, h⟩ := dI_elim h
      exact (hN2 t_ out_b_ out_l_ out_c_ k_ i_ w h).weaken (Sub.cons (Sub.cons (Sub.cons (Sub.cons (Sub.nil _) e3) e2) e1) e0)) stops_nil)) (Eq.mp (sock_Table_List.B2_eq t out_b out_l out_c k i j t60 w N2 N3  R ) h)
def sock_Table_List.L3b (t out_b : Option Addr) (out_l out_c : Nat) (k i j : Int) (w : World) (N2 : Option Addr → Option Addr → Nat → Nat → Int → Int → World → Prop) (N3 : Option Addr → Option Addr → Nat → Nat → Int → Int → Int → World → Prop) (R : Option Addr → Nat → Nat → World → Prop) : Prop :=
  Bm (decide (j > (0 : Int))) (
    Pn out_b fun a =>
    (0 ≤ (IntKind.i64.wrap (j - (1 : Int))) ∧ (IntKind.i64.wrap (j - (1 : Int))) < ((out_l : Nat) : Int)) ∧
    LdI .i64 (Addr.add a ((IntKind.i64.wrap (j - (1 : Int))).toNat * 1)) w.drew fun x54 =>
    Pn out_b fun a_1 =>
    (0 ≤ j ∧ j < ((out_l : Nat) : Int)) ∧
    LdI .i64 (Addr.add a_1 (j.toNat * 1)) w.drew fun x58 =>
    sock_Table_List.B2 t out_b out_l out_c k i j (decide (x54 > x58)) w.drew N2 N3 R) (
    sock_Table_List.B2 t out_b out_l out_c k i j false w.drew N2 N3 R)
theorem sock_Table_List.L3b_eq (t out_b : Option Addr) (out_l out_c : Nat) (k i j : Int) (w : World) (N2 : Option Addr → Option Addr → Nat → Nat → Int → Int → World → Prop) (N3 : Option Addr → Option Addr → Nat → Nat → Int → Int → Int → World → Prop) (R : Option Addr → Nat → Nat → World → Prop) (sB2 : Option Addr → Option Addr → Nat → Nat → Int → Int → Int → Bool → World → Prop) :
    (
  Bm (decide (j > (0 : Int))) (
    Pn out_b fun a =>
    (0 ≤ (IntKind.i64.wrap (j - (1 : Int))) ∧ (IntKind.i64.wrap (j - (1 : Int))) < ((out_l : Nat) : Int)) ∧
    LdI .i64 (Addr.add a ((IntKind.i64.wrap (j - (1 : Int))).toNat * 1)) w.drew fun x54 =>
    Pn out_b fun a_1 =>
    (0 ≤ j ∧ j < ((out_l : Nat) : Int)) ∧
    LdI .i64 (Addr.add a_1 (j.toNat * 1)) w.drew fun x58 =>
    sB2 t out_b out_l out_c k i j (decide (x54 > x58)) w.drew) (
    sB2 t out_b out_l out_c k i j false w.drew)) = kstep Try.prog 82 Try.f29.results.toList (Try.f29.body.getD .skip) (sock_Table_List.RV R) (kvc Try.prog 82 Try.f29.results.toList (Try.f29.body.getD .skip) (sock_Table_List.RV R) [([(0, [1, 1, 1, 1, 1, 0, 1, 0, 0, 1, 0, 0, 1, 0, 1, 0, 1, 0, 0, 0, 1]), (0, [1, 1, 1, 1, 1, 0, 1, 0, 0, 1, 0, 0, 1, 0, 1, 0, 1, 0, 0, 1]), (2, [1, 1, 1, 1, 1, 0, 1, 0, 0, 1, 0, 0, 1, 0, 1, 0, 1, 0, 0]), (1, [4]), (0, [1, 1, 1, 1, 1, 0, 1, 0, 0, 1, 0, 0, 1, 0, 1, 1]), (1, [3]), (0, [1, 1, 1, 1, 1, 0, 1, 0, 0, 1, 1]), (2, [1, 1, 1, 1, 1, 0, 1, 0, 0]), (1, [2]), (0, [1, 1, 1, 1, 1, 1])], fun σ w => dP (slotOf σ 0) fun t_ => dL (slotOf σ 5) fun out_b_ out_l_ out_c_ => dI .i64 (slotOf σ 6) fun k_ => dI .i64 (slotOf σ 7) fun i_ => dI .i64 (slotOf σ 8) fun j_ => dB (slotOf σ 60) fun t60_ => sB2 t_ out_b_ out_l_ out_c_ k_ i_ j_ t60_ w)] 2000) [(0, [1, 1, 1, 1, 1, 0, 1, 0, 0, 1, 0, 0, 1, 0, 1, 0, 1, 0, 0]), (2, [1, 1, 1, 1, 1, 0, 1, 0, 0, 1, 0, 0, 1, 0, 1, 0, 1, 0, 0]), (1, [4]), (0, [1, 1, 1, 1, 1, 0, 1, 0, 0, 1, 0, 0, 1, 0, 1, 1]), (1, [3]), (0, [1, 1, 1, 1, 1, 0, 1, 0, 0, 1, 1]), (2, [1, 1, 1, 1, 1, 0, 1, 0, 0]), (1, [2]), (0, [1, 1, 1, 1, 1, 1])] [(0, .pointer t), (5, .slice out_b out_l out_c), (6, .int .i64 k), (7, .int .i64 i), (8, .int .i64 j)] w := by kernel_rfl
theorem sock_Table_List.L3b_sound {R : Option Addr → Nat → Nat → World → Prop} {N2 : Option Addr → Option Addr → Nat → Nat → Int → Int → World → Prop} (hN2 : ∀ t out_b out_l out_c k i w, N2 t out_b out_l out_c k i w → KW Try.prog 29 82 (sock_Table_List.RV R) ([(0, [1, 1, 1, 1, 1, 0, 1, 0, 0]), (2, [1, 1, 1, 1, 1, 0, 1, 0, 0]), (1, [2]), (0, [1, 1, 1, 1, 1, 1])].map (toItem (Try.f29.body.getD .skip))) [(0, .pointer t), (5, .slice out_b out_l out_c), (6, .int .i64 k), (7, .int .i64 i)] w) {N3 : Option Addr → Option Addr → Nat → Nat → Int → Int → Int → World → Prop} (hN3 : ∀ t out_b out_l out_c k i j w, N3 t out_b out_l out_c k i j w → KW Try.prog 29 82 (sock_Table_List.RV R) ([(0, [1, 1, 1, 1, 1, 0, 1, 0, 0, 1, 0, 0, 1, 0, 1, 0, 1, 0, 0]), (2, [1, 1, 1, 1, 1, 0, 1, 0, 0, 1, 0, 0, 1, 0, 1, 0, 1, 0, 0]), (1, [4]), (0, [1, 1, 1, 1, 1, 0, 1, 0, 0, 1, 0, 0, 1, 0, 1, 1]), (1, [3]), (0, [1, 1, 1, 1, 1, 0, 1, 0, 0, 1, 1]), (2, [1, 1, 1, 1, 1, 0, 1, 0, 0]), (1, [2]), (0, [1, 1, 1, 1, 1, 1])].map (toItem (Try.f29.body.getD .skip))) [(0, .pointer t), (5, .slice out_b out_l out_c), (6, .int .i64 k), (7, .int .i64 i), (8, .int .i64 j)] w) (t out_b : Option Addr) (out_l out_c : Nat) (k i j : Int) (w : World) (h : sock_Table_List.L3b t out_b out_l out_c k i j w N2 N3 R) :
    KW Try.prog 29 82 (sock_Table_List.RV R) ([(0, [1, 1, 1, 1, 1, 0, 1, 0, 0, 1, 0, 0, 1, 0, 1, 0, 1, 0, 0]), (2, [1, 1, 1, 1, 1, 0, 1, 0, 0, 1, 0, 0, 1, 0, 1, 0, 1, 0, 0]), (1, [4]), (0, [1, 1, 1, 1, 1, 0, 1, 0, 0, 1, 0, 0, 1, 0, 1, 1]), (1, [3]), (0, [1, 1, 1, 1, 1, 0, 1, 0, 0, 1, 1]), (2, [1, 1, 1, 1, 1, 0, 1, 0, 0]), (1, [2]), (0, [1, 1, 1, 1, 1, 1])].map (toItem (Try.f29.body.getD .skip))) [(0, .pointer t), (5, .slice out_b out_l out_c), (6, .int .i64 k), (7, .int .i64 i), (8, .int .i64 j)] w := by
  exact block_spec Try.func29 Try.mixed (stops_cons (fun σ w h => by
      obtain ⟨t_, e0, h⟩ := dP_elim h
      obtain ⟨out_b_, out_l_, out_c_, e1, h⟩ := dL_elim h
      obtain ⟨k_, e2, h⟩ := dI_elim h
      obtain ⟨i_, e3, h⟩ := dI_elim h
      obtain ⟨j_, e4, h⟩ := dI_elim h
      obtain ⟨t60_, e5, h⟩ := dB_elim h
      exact (sock_Table_List.B2_sound hN2 hN3 t_ out_b_ out_l_ out_c_ k_ i_ j_ t60_ w h).weaken (Sub.cons (Sub.cons (Sub.cons (Sub.cons (Sub.cons (Sub.cons (Sub.nil _) e5) e4) e3) e2) e1) e0)) stops_nil) (Eq.mp (sock_Table_List.L3b_eq t out_b out_l out_c k i j w N2 N3 R (fun t_ out_b_ out_l_ out_c_ k_ i_ j_ t60_ w => sock_Table_List.B2 t_ out_b_ out_l_ out_c_ k_ i_ j_ t60_ w N2 N3 R)) h)
def sock_Table_List.L3 (t out_b : Option Addr) (out_l out_c : Nat) (k i j : Int) (w : World) (N2 : Option Addr → Option Addr → Nat → Nat → Int → Int → World → Prop) (R : Option Addr → Nat → Nat → World → Prop) : Prop :=
  ∃ (I : Nat → Option Addr → Option Addr → Nat → Nat → Int → Int → Int → World → Prop) (m : Nat), I m t out_b out_l out_c k i j w ∧ ∀ m t out_b out_l out_c k i j w, I m t out_b out_l out_c k i j w → sock_Table_List.L3b t out_b out_l out_c k i j w N2 (fun t' out_b' out_l' out_c' k' i' j' w' => ∃ m', m' < m ∧ I m' t' out_b' out_l' out_c' k' i' j' w') R
theorem sock_Table_List.L3_sound {R : Option Addr → Nat → Nat → World → Prop} {N2 : Option Addr → Option Addr → Nat → Nat → Int → Int → World → Prop} (hN2 : ∀ t out_b out_l out_c k i w, N2 t out_b out_l out_c k i w → KW Try.prog 29 82 (sock_Table_List.RV R) ([(0, [1, 1, 1, 1, 1, 0, 1, 0, 0]), (2, [1, 1, 1, 1, 1, 0, 1, 0, 0]), (1, [2]), (0, [1, 1, 1, 1, 1, 1])].map (toItem (Try.f29.body.getD .skip))) [(0, .pointer t), (5, .slice out_b out_l out_c), (6, .int .i64 k), (7, .int .i64 i)] w) (t out_b : Option Addr) (out_l out_c : Nat) (k i j : Int) (w : World) (h : sock_Table_List.L3 t out_b out_l out_c k i j w N2 R) :
    KW Try.prog 29 82 (sock_Table_List.RV R) ([(0, [1, 1, 1, 1, 1, 0, 1, 0, 0, 1, 0, 0, 1, 0, 1, 0, 1, 0, 0]), (2, [1, 1, 1, 1, 1, 0, 1, 0, 0, 1, 0, 0, 1, 0, 1, 0, 1, 0, 0]), (1, [4]), (0, [1, 1, 1, 1, 1, 0, 1, 0, 0, 1, 0, 0, 1, 0, 1, 1]), (1, [3]), (0, [1, 1, 1, 1, 1, 0, 1, 0, 0, 1, 1]), (2, [1, 1, 1, 1, 1, 0, 1, 0, 0]), (1, [2]), (0, [1, 1, 1, 1, 1, 1])].map (toItem (Try.f29.body.getD .skip))) [(0, .pointer t), (5, .slice out_b out_l out_c), (6, .int .i64 k), (7, .int .i64 i), (8, .int .i64 j)] w := by
  obtain ⟨I, m, hBase, hr⟩ := h
  refine KW.loop (fun m σ w => ∃ (t out_b : Option Addr) (out_l out_c : Nat) (k i j : Int), σ = [(0, .pointer t), (5, .slice out_b out_l out_c), (6, .int .i64 k), (7, .int .i64 i), (8, .int .i64 j)] ∧ I m t out_b out_l out_c k i j w) ?_ m _ w ⟨t, out_b, out_l, out_c, k, i, j, rfl, hBase⟩
  rintro m ih σ w ⟨t, out_b, out_l, out_c, k, i, j, rfl, hI⟩
  exact sock_Table_List.L3b_sound hN2 (N3 := fun t' out_b' out_l' out_c' k' i' j' w' => ∃ m', m' < m ∧ I m' t' out_b' out_l' out_c' k' i' j' w') (fun t' out_b' out_l' out_c' k' i' j' w' hx => by obtain ⟨m', hlt, hI'⟩ := hx; exact ih m' hlt _ w' ⟨t', out_b', out_l', out_c', k', i', j', rfl, hI'⟩) t out_b out_l out_c k i j w (hr m t out_b out_l out_c k i j w hI)
def sock_Table_List.L2b (t out_b : Option Addr) (out_l out_c : Nat) (k i : Int) (w : World)  (N2 : Option Addr → Option Addr → Nat → Nat → Int → Int → World → Prop) (R : Option Addr → Nat → Nat → World → Prop) : Prop :=
  Bm (decide (i < (6 : Int))) (
    Pn t fun a =>
    (0 ≤ i ∧ i < ((6 : Nat) : Int)) ∧
    LdB (Addr.add a (i.toNat * 15)) w fun x34 =>
    Bm x34 (
      Pn t fun a_1 =>
      (0 ≤ i ∧ i < ((6 : Nat) : Int)) ∧
      LdI .i64 ((Addr.add a_1 (i.toNat * 15)).add 1) w fun x44 =>
      Pn out_b fun a_2 =>
      (0 ≤ k ∧ k < ((out_l : Nat) : Int)) ∧
      Sts [.int .i64 x44] (Addr.add a_2 (k.toNat * 1)) 0 w fun w1 =>
      sock_Table_List.L3 t out_b out_l out_c k i k w1 N2 R) (
      N2 t out_b out_l out_c k (IntKind.i64.wrap (i + (1 : Int))) w)) (
    R out_b out_l out_c w)
theorem sock_Table_List.L2b_eq (t out_b : Option Addr) (out_l out_c : Nat) (k i : Int) (w : World)  (N2 : Option Addr → Option Addr → Nat → Nat → Int → Int → World → Prop) (R : Option Addr → Nat → Nat → World → Prop) (sL3 : Option Addr → Option Addr → Nat → Nat → Int → Int → Int → World → Prop) :
    (
  Bm (decide (i < (6 : Int))) (
    Pn t fun a =>
    (0 ≤ i ∧ i < ((6 : Nat) : Int)) ∧
    LdB (Addr.add a (i.toNat * 15)) w fun x34 =>
    Bm x34 (
      Pn t fun a_1 =>
      (0 ≤ i ∧ i < ((6 : Nat) : Int)) ∧
      LdI .i64 ((Addr.add a_1 (i.toNat * 15)).add 1) w fun x44 =>
      Pn out_b fun a_2 =>
      (0 ≤ k ∧ k < ((out_l : Nat) : Int)) ∧
      Sts [.int .i64 x44] (Addr.add a_2 (k.toNat * 1)) 0 w fun w1 =>
      sL3 t out_b out_l out_c k i k w1) (
      N2 t out_b out_l out_c k (IntKind.i64.wrap (i + (1 : Int))) w)) (
    R out_b out_l out_c w)) = kstep Try.prog 82 Try.f29.results.toList (Try.f29.body.getD .skip) (sock_Table_List.RV R) (kvc Try.prog 82 Try.f29.results.toList (Try.f29.body.getD .skip) (sock_Table_List.RV R) [([(0, [1, 1, 1, 1, 1, 0, 1, 0, 0, 1, 0, 0, 1, 0, 1, 0, 1, 0, 0]), (2, [1, 1, 1, 1, 1, 0, 1, 0, 0, 1, 0, 0, 1, 0, 1, 0, 1, 0, 0]), (1, [4]), (0, [1, 1, 1, 1, 1, 0, 1, 0, 0, 1, 0, 0, 1, 0, 1, 1]), (1, [3]), (0, [1, 1, 1, 1, 1, 0, 1, 0, 0, 1, 1]), (2, [1, 1, 1, 1, 1, 0, 1, 0, 0]), (1, [2]), (0, [1, 1, 1, 1, 1, 1])], fun σ w => dP (slotOf σ 0) fun t_ => dL (slotOf σ 5) fun out_b_ out_l_ out_c_ => dI .i64 (slotOf σ 6) fun k_ => dI .i64 (slotOf σ 7) fun i_ => dI .i64 (slotOf σ 8) fun j_ => sL3 t_ out_b_ out_l_ out_c_ k_ i_ j_ w),
    ([(0, [1, 1, 1, 1, 1, 0, 1, 0, 0]), (2, [1, 1, 1, 1, 1, 0, 1, 0, 0]), (1, [2]), (0, [1, 1, 1, 1, 1, 1])], fun σ w => dP (slotOf σ 0) fun t_ => dL (slotOf σ 5) fun out_b_ out_l_ out_c_ => dI .i64 (slotOf σ 6) fun k_ => dI .i64 (slotOf σ 7) fun i_ => N2 t_ out_b_ out_l_ out_c_ k_ i_ w)] 2000) [(0, [1, 1, 1, 1, 1, 0, 1, 0, 0]), (2, [1, 1, 1, 1, 1, 0, 1, 0, 0]), (1, [2]), (0, [1, 1, 1, 1, 1, 1])] [(0, .pointer t), (5, .slice out_b out_l out_c), (6, .int .i64 k), (7, .int .i64 i)] w := by kernel_rfl
theorem sock_Table_List.L2b_sound {R : Option Addr → Nat → Nat → World → Prop} {N2 : Option Addr → Option Addr → Nat → Nat → Int → Int → World → Prop} (hN2 : ∀ t out_b out_l out_c k i w, N2 t out_b out_l out_c k i w → KW Try.prog 29 82 (sock_Table_List.RV R) ([(0, [1, 1, 1, 1, 1, 0, 1, 0, 0]), (2, [1, 1, 1, 1, 1, 0, 1, 0, 0]), (1, [2]), (0, [1, 1, 1, 1, 1, 1])].map (toItem (Try.f29.body.getD .skip))) [(0, .pointer t), (5, .slice out_b out_l out_c), (6, .int .i64 k), (7, .int .i64 i)] w) (t out_b : Option Addr) (out_l out_c : Nat) (k i : Int) (w : World) (h : sock_Table_List.L2b t out_b out_l out_c k i w  N2 R) :
    KW Try.prog 29 82 (sock_Table_List.RV R) ([(0, [1, 1, 1, 1, 1, 0, 1, 0, 0]), (2, [1, 1, 1, 1, 1, 0, 1, 0, 0]), (1, [2]), (0, [1, 1, 1, 1, 1, 1])].map (toItem (Try.f29.body.getD .skip))) [(0, .pointer t), (5, .slice out_b out_l out_c), (6, .int .i64 k), (7, .int .i64 i)] w := by
  exact block_spec Try.func29 Try.mixed (stops_cons (fun σ w h => by
      obtain ⟨t_, e0, h⟩ := dP_elim h
      obtain ⟨out_b_, out_l_, out_c_, e1, h⟩ := dL_elim h
      obtain ⟨k_, e2, h⟩ := dI_elim h
      obtain ⟨i_, e3, h⟩ := dI_elim h
      obtain ⟨j_, e4, h⟩ := dI_elim h
      exact (sock_Table_List.L3_sound hN2 t_ out_b_ out_l_ out_c_ k_ i_ j_ w h).weaken (Sub.cons (Sub.cons (Sub.cons (Sub.cons (Sub.cons (Sub.nil _) e4) e3) e2) e1) e0)) (stops_cons (fun σ w h => by
      obtain ⟨t_, e0, h⟩ := dP_elim h
      obtain ⟨out_b_, out_l_, out_c_, e1, h⟩ := dL_elim h
      obtain ⟨k_, e2, h⟩ := dI_elim h
      obtain ⟨i_, e3, h⟩ := dI_elim h
      exact (hN2 t_ out_b_ out_l_ out_c_ k_ i_ w h).weaken (Sub.cons (Sub.cons (Sub.cons (Sub.cons (Sub.nil _) e3) e2) e1) e0)) stops_nil)) (Eq.mp (sock_Table_List.L2b_eq t out_b out_l out_c k i w  N2 R (fun t_ out_b_ out_l_ out_c_ k_ i_ j_ w => sock_Table_List.L3 t_ out_b_ out_l_ out_c_ k_ i_ j_ w N2 R)) h)
def sock_Table_List.L2 (t out_b : Option Addr) (out_l out_c : Nat) (k i : Int) (w : World)  (R : Option Addr → Nat → Nat → World → Prop) : Prop :=
  ∃ (I : Nat → Option Addr → Option Addr → Nat → Nat → Int → Int → World → Prop) (m : Nat), I m t out_b out_l out_c k i w ∧ ∀ m t out_b out_l out_c k i w, I m t out_b out_l out_c k i w → sock_Table_List.L2b t out_b out_l out_c k i w  (fun t' out_b' out_l' out_c' k' i' w' => ∃ m', m' < m ∧ I m' t' out_b' out_l' out_c' k' i' w') R
theorem sock_Table_List.L2_sound {R : Option Addr → Nat → Nat → World → Prop}  (t out_b : Option Addr) (out_l out_c : Nat) (k i : Int) (w : World) (h : sock_Table_List.L2 t out_b out_l out_c k i w  R) :
    KW Try.prog 29 82 (sock_Table_List.RV R) ([(0, [1, 1, 1, 1, 1, 0, 1, 0, 0]), (2, [1, 1, 1, 1, 1, 0, 1, 0, 0]), (1, [2]), (0, [1, 1, 1, 1, 1, 1])].map (toItem (Try.f29.body.getD .skip))) [(0, .pointer t), (5, .slice out_b out_l out_c), (6, .int .i64 k), (7, .int .i64 i)] w := by
  obtain ⟨I, m, hBase, hr⟩ := h
  refine KW.loop (fun m σ w => ∃ (t out_b : Option Addr) (out_l out_c : Nat) (k i : Int), σ = [(0, .pointer t), (5, .slice out_b out_l out_c), (6, .int .i64 k), (7, .int .i64 i)] ∧ I m t out_b out_l out_c k i w) ?_ m _ w ⟨t, out_b, out_l, out_c, k, i, rfl, hBase⟩
  rintro m ih σ w ⟨t, out_b, out_l, out_c, k, i, rfl, hI⟩
  exact sock_Table_List.L2b_sound  (N2 := fun t' out_b' out_l' out_c' k' i' w' => ∃ m', m' < m ∧ I m' t' out_b' out_l' out_c' k' i' w') (fun t' out_b' out_l' out_c' k' i' w' hx => by obtain ⟨m', hlt, hI'⟩ := hx; exact ih m' hlt _ w' ⟨t', out_b', out_l', out_c', k', i', rfl, hI'⟩) t out_b out_l out_c k i w (hr m t out_b out_l out_c k i w hI)
def sock_Table_List.L1b (t : Option Addr) (n i : Int) (w : World)  (N1 : Option Addr → Int → Int → World → Prop) (R : Option Addr → Nat → Nat → World → Prop) : Prop :=
  Bm (decide (i < (6 : Int))) (
    Pn t fun a =>
    (0 ≤ i ∧ i < ((6 : Nat) : Int)) ∧
    LdB (Addr.add a (i.toNat * 15)) w fun x19 =>
    Bm x19 (
      sock_Table_List.B1 t (IntKind.i64.wrap (n + (1 : Int))) i w N1 R) (
      sock_Table_List.B1 t n i w N1 R)) (
    Make 3 (.int .i64 (0 : Int)) 1 8 n n w fun b23 w1 =>
    sock_Table_List.L2 t (some ⟨b23, 0, none⟩) n.toNat n.toNat (0 : Int) (0 : Int) w1  R)
theorem sock_Table_List.L1b_eq (t : Option Addr) (n i : Int) (w : World)  (N1 : Option Addr → Int → Int → World → Prop) (R : Option Addr → Nat → Nat → World → Prop) (sB1 : Option Addr → Int → Int → World → Prop) (sL2 : Option Addr → Option Addr → Nat → Nat → Int → Int → World → Prop) :
    (
  Bm (decide (i < (6 : Int))) (
    Pn t fun a =>
    (0 ≤ i ∧ i < ((6 : Nat) : Int)) ∧
    LdB (Addr.add a (i.toNat * 15)) w fun x19 =>
    Bm x19 (
      sB1 t (IntKind.i64.wrap (n + (1 : Int))) i w) (
      sB1 t n i w)) (
    Make 3 (.int .i64 (0 : Int)) 1 8 n n w fun b23 w1 =>
    sL2 t (some ⟨b23, 0, none⟩) n.toNat n.toNat (0 : Int) (0 : Int) w1)) = kstep Try.prog 82 Try.f29.results.toList (Try.f29.body.getD .skip) (sock_Table_List.RV R) (kvc Try.prog 82 Try.f29.results.toList (Try.f29.body.getD .skip) (sock_Table_List.RV R) [([(0, [1, 1, 0, 1, 0, 0, 1, 1]), (2, [1, 1, 0, 1, 0, 0]), (1, [0]), (0, [1, 1, 1])], fun σ w => dP (slotOf σ 0) fun t_ => dI .i64 (slotOf σ 3) fun n_ => dI .i64 (slotOf σ 4) fun i_ => sB1 t_ n_ i_ w),
    ([(0, [1, 1, 1, 1, 1, 0, 1, 0, 0]), (2, [1, 1, 1, 1, 1, 0, 1, 0, 0]), (1, [2]), (0, [1, 1, 1, 1, 1, 1])], fun σ w => dP (slotOf σ 0) fun t_ => dL (slotOf σ 5) fun out_b_ out_l_ out_c_ => dI .i64 (slotOf σ 6) fun k_ => dI .i64 (slotOf σ 7) fun i_ => sL2 t_ out_b_ out_l_ out_c_ k_ i_ w)] 2000) [(0, [1, 1, 0, 1, 0, 0]), (2, [1, 1, 0, 1, 0, 0]), (1, [0]), (0, [1, 1, 1])] [(0, .pointer t), (3, .int .i64 n), (4, .int .i64 i)] w := by kernel_rfl
theorem sock_Table_List.L1b_sound {R : Option Addr → Nat → Nat → World → Prop} {N1 : Option Addr → Int → Int → World → Prop} (hN1 : ∀ t n i w, N1 t n i w → KW Try.prog 29 82 (sock_Table_List.RV R) ([(0, [1, 1, 0, 1, 0, 0]), (2, [1, 1, 0, 1, 0, 0]), (1, [0]), (0, [1, 1, 1])].map (toItem (Try.f29.body.getD .skip))) [(0, .pointer t), (3, .int .i64 n), (4, .int .i64 i)] w) (t : Option Addr) (n i : Int) (w : World) (h : sock_Table_List.L1b t n i w  N1 R) :
    KW Try.prog 29 82 (sock_Table_List.RV R) ([(0, [1, 1, 0, 1, 0, 0]), (2, [1, 1, 0, 1, 0, 0]), (1, [0]), (0, [1, 1, 1])].map (toItem (Try.f29.body.getD .skip))) [(0, .pointer t), (3, .int .i64 n), (4, .int .i64 i)] w := by
  exact block_spec Try.func29 Try.mixed (stops_cons (fun σ w h => by
      obtain ⟨t_, e0, h⟩ := dP_elim h
      obtain ⟨n_, e1, h⟩ := dI_elim h
      obtain ⟨i_, e2, h⟩ := dI_elim h
      exact (sock_Table_List.B1_sound hN1 t_ n_ i_ w h).weaken (Sub.cons (Sub.cons (Sub.cons (Sub.nil _) e2) e1) e0)) (stops_cons (fun σ w h => by
      obtain ⟨t_, e0, h⟩ := dP_elim h
      obtain ⟨out_b_, out_l_, out_c_, e1, h⟩ := dL_elim h
      obtain ⟨k_, e2, h⟩ := dI_elim h
      obtain ⟨i_, e3, h⟩ := dI_elim h
      exact (sock_Table_List.L2_sound  t_ out_b_ out_l_ out_c_ k_ i_ w h).weaken (Sub.cons (Sub.cons (Sub.cons (Sub.cons (Sub.nil _) e3) e2) e1) e0)) stops_nil)) (Eq.mp (sock_Table_List.L1b_eq t n i w  N1 R (fun t_ n_ i_ w => sock_Table_List.B1 t_ n_ i_ w N1 R) (fun t_ out_b_ out_l_ out_c_ k_ i_ w => sock_Table_List.L2 t_ out_b_ out_l_ out_c_ k_ i_ w  R)) h)
def sock_Table_List.L1 (t : Option Addr) (n i : Int) (w : World)  (R : Option Addr → Nat → Nat → World → Prop) : Prop :=
  ∃ (I : Nat → Option Addr → Int → Int → World → Prop) (m : Nat), I m t n i w ∧ ∀ m t n i w, I m t n i w → sock_Table_List.L1b t n i w  (fun t' n' i' w' => ∃ m', m' < m ∧ I m' t' n' i' w') R
theorem sock_Table_List.L1_sound {R : Option Addr → Nat → Nat → World → Prop}  (t : Option Addr) (n i : Int) (w : World) (h : sock_Table_List.L1 t n i w  R) :
    KW Try.prog 29 82 (sock_Table_List.RV R) ([(0, [1, 1, 0, 1, 0, 0]), (2, [1, 1, 0, 1, 0, 0]), (1, [0]), (0, [1, 1, 1])].map (toItem (Try.f29.body.getD .skip))) [(0, .pointer t), (3, .int .i64 n), (4, .int .i64 i)] w := by
  obtain ⟨I, m, hBase, hr⟩ := h
  refine KW.loop (fun m σ w => ∃ (t : Option Addr) (n i : Int), σ = [(0, .pointer t), (3, .int .i64 n), (4, .int .i64 i)] ∧ I m t n i w) ?_ m _ w ⟨t, n, i, rfl, hBase⟩
  rintro m ih σ w ⟨t, n, i, rfl, hI⟩
  exact sock_Table_List.L1b_sound  (N1 := fun t' n' i' w' => ∃ m', m' < m ∧ I m' t' n' i' w') (fun t' n' i' w' hx => by obtain ⟨m', hlt, hI'⟩ := hx; exact ih m' hlt _ w' ⟨t', n', i', rfl, hI'⟩) t n i w (hr m t n i w hI)
def sock_Table_List.B0 (t : Option Addr) (w : World)   (R : Option Addr → Nat → Nat → World → Prop) : Prop :=
  sock_Table_List.L1 t (0 : Int) (0 : Int) w  R
theorem sock_Table_List.B0_eq (t : Option Addr) (w : World)   (R : Option Addr → Nat → Nat → World → Prop) (sL1 : Option Addr → Int → Int → World → Prop) :
    (
  sL1 t (0 : Int) (0 : Int) w) = kstep Try.prog 82 Try.f29.results.toList (Try.f29.body.getD .skip) (sock_Table_List.RV R) (kvc Try.prog 82 Try.f29.results.toList (Try.f29.body.getD .skip) (sock_Table_List.RV R) [([(0, [1, 1, 0, 1, 0, 0]), (2, [1, 1, 0, 1, 0, 0]), (1, [0]), (0, [1, 1, 1])], fun σ w => dP (slotOf σ 0) fun t_ => dI .i64 (slotOf σ 3) fun n_ => dI .i64 (slotOf σ 4) fun i_ => sL1 t_ n_ i_ w)] 2000) [(0, [])] [(0, .pointer t)] w := by kernel_rfl
theorem sock_Table_List.B0_sound {R : Option Addr → Nat → Nat → World → Prop}  (t : Option Addr) (w : World) (h : sock_Table_List.B0 t w   R) :
    KW Try.prog 29 82 (sock_Table_List.RV R) ([(0, [])].map (toItem (Try.f29.body.getD .skip))) [(0, .pointer t)] w := by
  exact block_spec Try.func29 Try.mixed (stops_cons (fun σ w h => by
      obtain ⟨t_, e0, h⟩ := dP_elim h
      obtain ⟨n_, e1, h⟩ := dI_elim h
      obtain ⟨i_, e2, h⟩ := dI_elim h
      exact (sock_Table_List.L1_sound  t_ n_ i_ w h).weaken (Sub.cons (Sub.cons (Sub.cons (Sub.nil _) e2) e1) e0)) stops_nil) (Eq.mp (sock_Table_List.B0_eq t w   R (fun t_ n_ i_ w => sock_Table_List.L1 t_ n_ i_ w  R)) h)
theorem sock_Table_List.sound (t : Option Addr) (w : World) (R : Option Addr → Nat → Nat → World → Prop) (h : sock_Table_List.B0 t w R) : sock_Table_List.Call t w R := by
  have hc := calls_of_block (args := #[.pointer t]) Try.func29 (body := (Try.f29.body.getD .skip)) (by kernel_rfl) (by kernel_rfl) (args_slot _) (sock_Table_List.B0_sound t w h)
  exact hc.mono fun e w' he => by
    obtain ⟨v, rfl, hv⟩ := he
    exact sock_Table_List.RV_elim hv
end Go.Proofs.Qxb6500427a
