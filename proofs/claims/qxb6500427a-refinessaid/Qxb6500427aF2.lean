import Derived.Test.Qxb6500427aSig
set_option maxRecDepth 100000
set_option linter.unusedVariables false
open Go.Vc
namespace Go.Proofs.Qxb6500427a
def socklaw_SameInts.L1b (d a_b : Option Addr) (a_l a_c : Nat) (b_b : Option Addr) (b_l b_c : Nat) (j i : Int) (w : World)  (N1 : Option Addr → Option Addr → Nat → Nat → Option Addr → Nat → Nat → Int → Int → World → Prop) (R : Bool → World → Prop) : Prop :=
  Bm (decide (i < ((a_l : Nat) : Int))) (
    Pn a_b fun a =>
    (0 ≤ i ∧ i < ((a_l : Nat) : Int)) ∧
    LdI .i64 (Addr.add a (i.toNat * 1)) w.drew fun x35 =>
    Pn b_b fun a_1 =>
    (0 ≤ i ∧ i < ((b_l : Nat) : Int)) ∧
    LdI .i64 (Addr.add a_1 (i.toNat * 1)) w.drew fun x39 =>
    Bm (x35 != x39) (
      R false w.drew) (
      Pn a_b fun a_2 =>
      (0 ≤ i ∧ i < ((a_l : Nat) : Int)) ∧
      Sts [.int .i64 (IntKind.i64.wrap ((-1 : Int) - j))] (Addr.add a_2 (i.toNat * 1)) 0 w.drew fun w1 =>
      N1 d a_b a_l a_c b_b b_l b_c j (IntKind.i64.wrap (i + (1 : Int))) w1)) (
    Bm (decide (((a_l : Nat) : Int) > (0 : Int))) (
      Pn d fun a_3 =>
      LdL (a_3.add 2) w fun x53_b x53_l x53_c =>
      New (.cells #[.slice a_b a_l a_c] 53) w fun b55 w2 =>
      Append 53 (.slice none 0 0) 1 24 x53_b x53_l x53_c (some ⟨b55, 0, none⟩) 1 w2 fun b56 c56 w3 =>
      Pn d fun a_4 =>
      Sts [.slice b56 (x53_l + 1) c56] (a_4.add 2) 0 w3 fun w4 =>
      R true w4) (
      R true w))
theorem socklaw_SameInts.L1b_eq (d a_b : Option Addr) (a_l a_c : Nat) (b_b : Option Addr) (b_l b_c : Nat) (j i : Int) (w : World)  (N1 : Option Addr → Option Addr → Nat → Nat → Option Addr → Nat → Nat → Int → Int → World → Prop) (R : Bool → World → Prop)  :
    (
  Bm (decide (i < ((a_l : Nat) : Int))) (
    Pn a_b fun a =>
    (0 ≤ i ∧ i < ((a_l : Nat) : Int)) ∧
    LdI .i64 (Addr.add a (i.toNat * 1)) w.drew fun x35 =>
    Pn b_b fun a_1 =>
    (0 ≤ i ∧ i < ((b_l : Nat) : Int)) ∧
    LdI .i64 (Addr.add a_1 (i.toNat * 1)) w.drew fun x39 =>
    Bm (x35 != x39) (
      R false w.drew) (
      Pn a_b fun a_2 =>
      (0 ≤ i ∧ i < ((a_l : Nat) : Int)) ∧
      Sts [.int .i64 (IntKind.i64.wrap ((-1 : Int) - j))] (Addr.add a_2 (i.toNat * 1)) 0 w.drew fun w1 =>
      N1 d a_b a_l a_c b_b b_l b_c j (IntKind.i64.wrap (i + (1 : Int))) w1)) (
    Bm (decide (((a_l : Nat) : Int) > (0 : Int))) (
      Pn d fun a_3 =>
      LdL (a_3.add 2) w fun x53_b x53_l x53_c =>
      New (.cells #[.slice a_b a_l a_c] 53) w fun b55 w2 =>
      Append 53 (.slice none 0 0) 1 24 x53_b x53_l x53_c (some ⟨b55, 0, none⟩) 1 w2 fun b56 c56 w3 =>
      Pn d fun a_4 =>
      Sts [.slice b56 (x53_l + 1) c56] (a_4.add 2) 0 w3 fun w4 =>
      R true w4) (
      R true w))) = kstep Try.prog 59 Try.f30.results.toList (Try.f30.body.getD .skip) (socklaw_SameInts.RV R) (kvc Try.prog 59 Try.f30.results.toList (Try.f30.body.getD .skip) (socklaw_SameInts.RV R) [([(0, [1, 1, 1, 0, 1, 0, 0]), (2, [1, 1, 1, 0, 1, 0, 0]), (1, [0]), (0, [1, 1, 1, 1])], fun σ w => dP (slotOf σ 0) fun d_ => dL (slotOf σ 1) fun a_b_ a_l_ a_c_ => dL (slotOf σ 2) fun b_b_ b_l_ b_c_ => dI .i64 (slotOf σ 7) fun j_ => dI .i64 (slotOf σ 8) fun i_ => N1 d_ a_b_ a_l_ a_c_ b_b_ b_l_ b_c_ j_ i_ w)] 2000) [(0, [1, 1, 1, 0, 1, 0, 0]), (2, [1, 1, 1, 0, 1, 0, 0]), (1, [0]), (0, [1, 1, 1, 1])] [(0, .pointer d), (1, .slice a_b a_l a_c), (2, .slice b_b b_l b_c), (7, .int .i64 j), (8, .int .i64 i)] w := by kernel_rfl
theorem socklaw_SameInts.L1b_sound {R : Bool → World → Prop} {N1 : Option Addr → Option Addr → Nat → Nat → Option Addr → Nat → Nat → Int → Int → World → Prop} (hN1 : ∀ d a_b a_l a_c b_b b_l b_c j i w, N1 d a_b a_l a_c b_b b_l b_c j i w → KW Try.prog 30 59 (socklaw_SameInts.RV R) ([(0, [1, 1, 1, 0, 1, 0, 0]), (2, [1, 1, 1, 0, 1, 0, 0]), (1, [0]), (0, [1, 1, 1, 1])].map (toItem (Try.f30.body.getD .skip))) [(0, .pointer d), (1, .slice a_b a_l a_c), (2, .slice b_b b_l b_c), (7, .int .i64 j), (8, .int .i64 i)] w) (d a_b : Option Addr) (a_l a_c : Nat) (b_b : Option Addr) (b_l b_c : Nat) (j i : Int) (w : World) (h : socklaw_SameInts.L1b d a_b a_l a_c b_b b_l b_c j i w  N1 R) :
    KW Try.prog 30 59 (socklaw_SameInts.RV R) ([(0, [1, 1, 1, 0, 1, 0, 0]), (2, [1, 1, 1, 0, 1, 0, 0]), (1, [0]), (0, [1, 1, 1, 1])].map (toItem (Try.f30.body.getD .skip))) [(0, .pointer d), (1, .slice a_b a_l a_c), (2, .slice b_b b_l b_c), (7, .int .i64 j), (8, .int .i64 i)] w := by
  exact block_spec Try.func30 Try.mixed (stops_cons (fun σ w h => by
      obtain ⟨d_, e0, h⟩ := dP_elim h
      obtain ⟨a_b_, a_l_, a_c_, e1, h⟩ := dL_elim h
      obtain ⟨b_b_, b_l_, b_c_, e2, h⟩ := dL_elim h
      obtain ⟨j_, e3, h⟩ := dI_elim h
      obtain ⟨i_, e4, h⟩ := dI_elim h
      exact (hN1 d_ a_b_ a_l_ a_c_ b_b_ b_l_ b_c_ j_ i_ w h).weaken (Sub.cons (Sub.cons (Sub.cons (Sub.cons (Sub.cons (Sub.nil _) e4) e3) e2) e1) e0)) stops_nil) (Eq.mp (socklaw_SameInts.L1b_eq d a_b a_l a_c b_b b_l b_c j i w  N1 R ) h)
def socklaw_SameInts.L1 (d a_b : Option Addr) (a_l a_c : Nat) (b_b : Option Addr) (b_l b_c : Nat) (j i : Int) (w : World)  (R : Bool → World → Prop) : Prop :=
  ∃ (I : Nat → Option Addr → Option Addr → Nat → Nat → Option Addr → Nat → Nat → Int → Int → World → Prop) (m : Nat), I m d a_b a_l a_c b_b b_l b_c j i w ∧ ∀ m d a_b a_l a_c b_b b_l b_c j i w, I m d a_b a_l a_c b_b b_l b_c j i w → socklaw_SameInts.L1b d a_b a_l a_c b_b b_l b_c j i w  (fun d' a_b' a_l' a_c' b_b' b_l' b_c' j' i' w' => ∃ m', m' < m ∧ I m' d' a_b' a_l' a_c' b_b' b_l' b_c' j' i' w') R
theorem socklaw_SameInts.L1_sound {R : Bool → World → Prop}  (d a_b : Option Addr) (a_l a_c : Nat) (b_b : Option Addr) (b_l b_c : Nat) (j i : Int) (w : World) (h : socklaw_SameInts.L1 d a_b a_l a_c b_b b_l b_c j i w  R) :
    KW Try.prog 30 59 (socklaw_SameInts.RV R) ([(0, [1, 1, 1, 0, 1, 0, 0]), (2, [1, 1, 1, 0, 1, 0, 0]), (1, [0]), (0, [1, 1, 1, 1])].map (toItem (Try.f30.body.getD .skip))) [(0, .pointer d), (1, .slice a_b a_l a_c), (2, .slice b_b b_l b_c), (7, .int .i64 j), (8, .int .i64 i)] w := by
  obtain ⟨I, m, hBase, hr⟩ := h
  refine KW.loop (fun m σ w => ∃ (d a_b : Option Addr) (a_l a_c : Nat) (b_b : Option Addr) (b_l b_c : Nat) (j i : Int), σ = [(0, .pointer d), (1, .slice a_b a_l a_c), (2, .slice b_b b_l b_c), (7, .int .i64 j), (8, .int .i64 i)] ∧ I m d a_b a_l a_c b_b b_l b_c j i w) ?_ m _ w ⟨d, a_b, a_l, a_c, b_b, b_l, b_c, j, i, rfl, hBase⟩
  rintro m ih σ w ⟨d, a_b, a_l, a_c, b_b, b_l, b_c, j, i, rfl, hI⟩
  exact socklaw_SameInts.L1b_sound  (N1 := fun d' a_b' a_l' a_c' b_b' b_l' b_c' j' i' w' => ∃ m', m' < m ∧ I m' d' a_b' a_l' a_c' b_b' b_l' b_c' j' i' w') (fun d' a_b' a_l' a_c' b_b' b_l' b_c' j' i' w' hx => by obtain ⟨m', hlt, hI'⟩ := hx; exact ih m' hlt _ w' ⟨d', a_b', a_l', a_c', b_b', b_l', b_c', j', i', rfl, hI'⟩) d a_b a_l a_c b_b b_l b_c j i w (hr m d a_b a_l a_c b_b b_l b_c j i w hI)
def socklaw_SameInts.B1 (d a_b : Option Addr) (a_l a_c : Nat) (b_b : Option Addr) (b_l b_c : Nat) (t20 : Bool) (w : World)   (R : Bool → World → Prop) : Prop :=
  Bm t20 (
    R false w) (
    Pn d fun a =>
    LdL (a.add 2) w fun x24_b x24_l x24_c =>
    socklaw_SameInts.L1 d a_b a_l a_c b_b b_l b_c ((x24_l : Nat) : Int) (0 : Int) w  R)
theorem socklaw_SameInts.B1_eq (d a_b : Option Addr) (a_l a_c : Nat) (b_b : Option Addr) (b_l b_c : Nat) (t20 : Bool) (w : World)   (R : Bool → World → Prop) (sL1 : Option Addr → Option Addr → Nat → Nat → Option Addr → Nat → Nat → Int → Int → World → Prop) :
    (
  Bm t20 (
    R false w) (
    Pn d fun a =>
    LdL (a.add 2) w fun x24_b x24_l x24_c =>
    sL1 d a_b a_l a_c b_b b_l b_c ((x24_l : Nat) : Int) (0 : Int) w)) = kstep Try.prog 59 Try.f30.results.toList (Try.f30.body.getD .skip) (socklaw_SameInts.RV R) (kvc Try.prog 59 Try.f30.results.toList (Try.f30.body.getD .skip) (socklaw_SameInts.RV R) [([(0, [1, 1, 1, 0, 1, 0, 0]), (2, [1, 1, 1, 0, 1, 0, 0]), (1, [0]), (0, [1, 1, 1, 1])], fun σ w => dP (slotOf σ 0) fun d_ => dL (slotOf σ 1) fun a_b_ a_l_ a_c_ => dL (slotOf σ 2) fun b_b_ b_l_ b_c_ => dI .i64 (slotOf σ 7) fun j_ => dI .i64 (slotOf σ 8) fun i_ => sL1 d_ a_b_ a_l_ a_c_ b_b_ b_l_ b_c_ j_ i_ w)] 2000) [(0, [1, 0, 1]), (0, [1, 1])] [(0, .pointer d), (1, .slice a_b a_l a_c), (2, .slice b_b b_l b_c), (20, .bool t20)] w := by kernel_rfl
theorem socklaw_SameInts.B1_sound {R : Bool → World → Prop}  (d a_b : Option Addr) (a_l a_c : Nat) (b_b : Option Addr) (b_l b_c : Nat) (t20 : Bool) (w : World) (h : socklaw_SameInts.B1 d a_b a_l a_c b_b b_l b_c t20 w   R) :
    KW Try.prog 30 59 (socklaw_SameInts.RV R) ([(0, [1, 0, 1]), (0, [1, 1])].map (toItem (Try.f30.body.getD .skip))) [(0, .pointer d), (1, .slice a_b a_l a_c), (2, .slice b_b b_l b_c), (20, .bool t20)] w := by
  exact block_spec Try.func30 Try.mixed (stops_cons (fun σ w h => by
      obtain ⟨d_, e0, h⟩ := dP_elim h
      obtain ⟨a_b_, a_l_, a_c_, e1, h⟩ := dL_elim h
      obtain ⟨b_b_, b_l_, b_c_, e2, h⟩ := dL_elim h
      obtain ⟨j_, e3, h⟩ := dI_elim h
      obtain ⟨i_, e4, h⟩ := dI_elim h
      exact (socklaw_SameInts.L1_sound  d_ a_b_ a_l_ a_c_ b_b_ b_l_ b_c_ j_ i_ w h).weaken (Sub.cons (Sub.cons (Sub.cons (Sub.cons (Sub.cons (Sub.nil _) e4) e3) e2) e1) e0)) stops_nil) (Eq.mp (socklaw_SameInts.B1_eq d a_b a_l a_c b_b b_l b_c t20 w   R (fun d_ a_b_ a_l_ a_c_ b_b_ b_l_ b_c_ j_ i_ w => socklaw_SameInts.L1 d_ a_b_ a_l_ a_c_ b_b_ b_l_ b_c_ j_ i_ w  R)) h)
def socklaw_SameInts.B0 (d a_b : Option Addr) (a_l a_c : Nat) (b_b : Option Addr) (b_l b_c : Nat) (w : World)   (R : Bool → World → Prop) : Prop :=
  Bm (((a_l : Nat) : Int) != ((b_l : Nat) : Int)) (
    socklaw_SameInts.B1 d a_b a_l a_c b_b b_l b_c true w  R) (
    socklaw_SameInts.B1 d a_b a_l a_c b_b b_l b_c (((a_c : Nat) : Int) != ((a_l : Nat) : Int)) w  R)
theorem socklaw_SameInts.B0_eq (d a_b : Option Addr) (a_l a_c : Nat) (b_b : Option Addr) (b_l b_c : Nat) (w : World)   (R : Bool → World → Prop) (sB1 : Option Addr → Option Addr → Nat → Nat → Option Addr → Nat → Nat → Bool → World → Prop) :
    (
  Bm (((a_l : Nat) : Int) != ((b_l : Nat) : Int)) (
    sB1 d a_b a_l a_c b_b b_l b_c true w) (
    sB1 d a_b a_l a_c b_b b_l b_c (((a_c : Nat) : Int) != ((a_l : Nat) : Int)) w)) = kstep Try.prog 59 Try.f30.results.toList (Try.f30.body.getD .skip) (socklaw_SameInts.RV R) (kvc Try.prog 59 Try.f30.results.toList (Try.f30.body.getD .skip) (socklaw_SameInts.RV R) [([(0, [1, 0, 1]), (0, [1, 1])], fun σ w => dP (slotOf σ 0) fun d_ => dL (slotOf σ 1) fun a_b_ a_l_ a_c_ => dL (slotOf σ 2) fun b_b_ b_l_ b_c_ => dB (slotOf σ 20) fun t20_ => sB1 d_ a_b_ a_l_ a_c_ b_b_ b_l_ b_c_ t20_ w)] 2000) [(0, [])] [(0, .pointer d), (1, .slice a_b a_l a_c), (2, .slice b_b b_l b_c)] w := by kernel_rfl
theorem socklaw_SameInts.B0_sound {R : Bool → World → Prop}  (d a_b : Option Addr) (a_l a_c : Nat) (b_b : Option Addr) (b_l b_c : Nat) (w : World) (h : socklaw_SameInts.B0 d a_b a_l a_c b_b b_l b_c w   R) :
    KW Try.prog 30 59 (socklaw_SameInts.RV R) ([(0, [])].map (toItem (Try.f30.body.getD .skip))) [(0, .pointer d), (1, .slice a_b a_l a_c), (2, .slice b_b b_l b_c)] w := by
  exact block_spec Try.func30 Try.mixed (stops_cons (fun σ w h => by
      obtain ⟨d_, e0, h⟩ := dP_elim h
      obtain ⟨a_b_, a_l_, a_c_, e1, h⟩ := dL_elim h
      obtain ⟨b_b_, b_l_, b_c_, e2, h⟩ := dL_elim h
      obtain ⟨t20_, e3, h⟩ := dB_elim h
      exact (socklaw_SameInts.B1_sound  d_ a_b_ a_l_ a_c_ b_b_ b_l_ b_c_ t20_ w h).weaken (Sub.cons (Sub.cons (Sub.cons (Sub.cons (Sub.nil _) e3) e2) e1) e0)) stops_nil) (Eq.mp (socklaw_SameInts.B0_eq d a_b a_l a_c b_b b_l b_c w   R (fun d_ a_b_ a_l_ a_c_ b_b_ b_l_ b_c_ t20_ w => socklaw_SameInts.B1 d_ a_b_ a_l_ a_c_ b_b_ b_l_ b_c_ t20_ w  R)) h)
theorem socklaw_SameInts.sound (d a_b : Option Addr) (a_l a_c : Nat) (b_b : Option Addr) (b_l b_c : Nat) (w : World) (R : Bool → World → Prop) (h : socklaw_SameInts.B0 d a_b a_l a_c b_b b_l b_c w R) : socklaw_SameInts.Call d a_b a_l a_c b_b b_l b_c w R := by
  have hc := calls_of_block (args := #[.pointer d, .slice a_b a_l a_c, .slice b_b b_l b_c]) Try.func30 (body := (Try.f30.body.getD .skip)) (by kernel_rfl) (by kernel_rfl) (args_slot _) (socklaw_SameInts.B0_sound d a_b a_l a_c b_b b_l b_c w h)
  exact hc.mono fun e w' he => by
    obtain ⟨v, rfl, hv⟩ := he
    exact socklaw_SameInts.RV_elim hv
def sockm_Table_Get.B0 (t : Option Addr) (sd : Int) (w : World)   (R : Int → Int → Int → Int → Int → Int → Int → Bool → Int → World → Prop) : Prop :=
  New (.cells #[.int .i64 (0 : Int), .int .i64 (0 : Int), .int .i64 (0 : Int), .int .i64 (0 : Int), .int .i64 (0 : Int), .int .i64 (0 : Int), .int .i64 (0 : Int), .bool false] 40) w fun b4 w1 =>
  sockm_Table_at.Call t sd w1 fun r9 w2 =>
  Bm (decide (r9 < (0 : Int))) (
    Sts [.int .i64 (0 : Int), .int .i64 (0 : Int), .int .i64 (0 : Int), .int .i64 (0 : Int), .int .i64 (0 : Int), .int .i64 (0 : Int), .int .i64 (0 : Int), .bool false] ⟨b4, 0, none⟩ 0 w2 fun w3 =>
    LdI .i64 ⟨b4, 0, none⟩ w3 fun r_0 =>
    LdI .i64 ⟨b4, 1, none⟩ w3 fun r_1 =>
    LdI .i64 ⟨b4, 2, none⟩ w3 fun r_2 =>
    LdI .i64 ⟨b4, 3, none⟩ w3 fun r_3 =>
    LdI .i64 ⟨b4, 4, none⟩ w3 fun r_4 =>
    LdI .i64 ⟨b4, 5, none⟩ w3 fun r_5 =>
    LdI .i64 ⟨b4, 6, none⟩ w3 fun r_6 =>
    LdB ⟨b4, 7, none⟩ w3 fun r_7 =>
    R r_0 r_1 r_2 r_3 r_4 r_5 r_6 r_7 (21 : Int) w3) (
    Pn t fun a =>
    LdL a w2 fun x16_b x16_l x16_c =>
    Pn x16_b fun a_1 =>
    (0 ≤ r9 ∧ r9 < ((x16_l : Nat) : Int)) ∧
    LdI .i64 (Addr.add a_1 (r9.toNat * 9)) w2 fun x20_0 =>
    LdI .i64 ((Addr.add a_1 (r9.toNat * 9)).add 1) w2 fun x20_1 =>
    LdI .i64 ((Addr.add a_1 (r9.toNat * 9)).add 2) w2 fun x20_2 =>
    LdI .i64 ((Addr.add a_1 (r9.toNat * 9)).add 3) w2 fun x20_3 =>
    LdI .i64 ((Addr.add a_1 (r9.toNat * 9)).add 4) w2 fun x20_4 =>
    LdI .i64 ((Addr.add a_1 (r9.toNat * 9)).add 5) w2 fun x20_5 =>
    LdI .i64 ((Addr.add a_1 (r9.toNat * 9)).add 6) w2 fun x20_6 =>
    LdB ((Addr.add a_1 (r9.toNat * 9)).add 7) w2 fun x20_7 =>
    Sts [.int .i64 x20_0, .int .i64 x20_1, .int .i64 x20_2, .int .i64 x20_3, .int .i64 x20_4, .int .i64 x20_5, .int .i64 x20_6, .bool x20_7] ⟨b4, 0, none⟩ 0 w2 fun w4 =>
    LdI .i64 ⟨b4, 0, none⟩ w4 fun r_0_1 =>
    LdI .i64 ⟨b4, 1, none⟩ w4 fun r_1_1 =>
    LdI .i64 ⟨b4, 2, none⟩ w4 fun r_2_1 =>
    LdI .i64 ⟨b4, 3, none⟩ w4 fun r_3_1 =>
    LdI .i64 ⟨b4, 4, none⟩ w4 fun r_4_1 =>
    LdI .i64 ⟨b4, 5, none⟩ w4 fun r_5_1 =>
    LdI .i64 ⟨b4, 6, none⟩ w4 fun r_6_1 =>
    LdB ⟨b4, 7, none⟩ w4 fun r_7_1 =>
    R r_0_1 r_1_1 r_2_1 r_3_1 r_4_1 r_5_1 r_6_1 r_7_1 (0 : Int) w4)
theorem sockm_Table_Get.B0_eq (t : Option Addr) (sd : Int) (w : World)   (R : Int → Int → Int → Int → Int → Int → Int → Bool → Int → World → Prop)  :
    (
  New (.cells #[.int .i64 (0 : Int), .int .i64 (0 : Int), .int .i64 (0 : Int), .int .i64 (0 : Int), .int .i64 (0 : Int), .int .i64 (0 : Int), .int .i64 (0 : Int), .bool false] 40) w fun b4 w1 =>
  sockm_Table_at.Call t sd w1 fun r9 w2 =>
  Bm (decide (r9 < (0 : Int))) (
    Sts [.int .i64 (0 : Int), .int .i64 (0 : Int), .int .i64 (0 : Int), .int .i64 (0 : Int), .int .i64 (0 : Int), .int .i64 (0 : Int), .int .i64 (0 : Int), .bool false] ⟨b4, 0, none⟩ 0 w2 fun w3 =>
    LdI .i64 ⟨b4, 0, none⟩ w3 fun r_0 =>
    LdI .i64 ⟨b4, 1, none⟩ w3 fun r_1 =>
    LdI .i64 ⟨b4, 2, none⟩ w3 fun r_2 =>
    LdI .i64 ⟨b4, 3, none⟩ w3 fun r_3 =>
    LdI .i64 ⟨b4, 4, none⟩ w3 fun r_4 =>
    LdI .i64 ⟨b4, 5, none⟩ w3 fun r_5 =>
    LdI .i64 ⟨b4, 6, none⟩ w3 fun r_6 =>
    LdB ⟨b4, 7, none⟩ w3 fun r_7 =>
    R r_0 r_1 r_2 r_3 r_4 r_5 r_6 r_7 (21 : Int) w3) (
    Pn t fun a =>
    LdL a w2 fun x16_b x16_l x16_c =>
    Pn x16_b fun a_1 =>
    (0 ≤ r9 ∧ r9 < ((x16_l : Nat) : Int)) ∧
    LdI .i64 (Addr.add a_1 (r9.toNat * 9)) w2 fun x20_0 =>
    LdI .i64 ((Addr.add a_1 (r9.toNat * 9)).add 1) w2 fun x20_1 =>
    LdI .i64 ((Addr.add a_1 (r9.toNat * 9)).add 2) w2 fun x20_2 =>
    LdI .i64 ((Addr.add a_1 (r9.toNat * 9)).add 3) w2 fun x20_3 =>
    LdI .i64 ((Addr.add a_1 (r9.toNat * 9)).add 4) w2 fun x20_4 =>
    LdI .i64 ((Addr.add a_1 (r9.toNat * 9)).add 5) w2 fun x20_5 =>
    LdI .i64 ((Addr.add a_1 (r9.toNat * 9)).add 6) w2 fun x20_6 =>
    LdB ((Addr.add a_1 (r9.toNat * 9)).add 7) w2 fun x20_7 =>
    Sts [.int .i64 x20_0, .int .i64 x20_1, .int .i64 x20_2, .int .i64 x20_3, .int .i64 x20_4, .int .i64 x20_5, .int .i64 x20_6, .bool x20_7] ⟨b4, 0, none⟩ 0 w2 fun w4 =>
    LdI .i64 ⟨b4, 0, none⟩ w4 fun r_0_1 =>
    LdI .i64 ⟨b4, 1, none⟩ w4 fun r_1_1 =>
    LdI .i64 ⟨b4, 2, none⟩ w4 fun r_2_1 =>
    LdI .i64 ⟨b4, 3, none⟩ w4 fun r_3_1 =>
    LdI .i64 ⟨b4, 4, none⟩ w4 fun r_4_1 =>
    LdI .i64 ⟨b4, 5, none⟩ w4 fun r_5_1 =>
    LdI .i64 ⟨b4, 6, none⟩ w4 fun r_6_1 =>
    LdB ⟨b4, 7, none⟩ w4 fun r_7_1 =>
    R r_0_1 r_1_1 r_2_1 r_3_1 r_4_1 r_5_1 r_6_1 r_7_1 (0 : Int) w4)) = kstep Try.prog 21 Try.f31.results.toList (Try.f31.body.getD .skip) (sockm_Table_Get.RV R) (kvc Try.prog 21 Try.f31.results.toList (Try.f31.body.getD .skip) (sockm_Table_Get.RV R) [] 2000) [(0, [])] [(0, .pointer t), (1, .int .i64 sd)] w := by kernel_rfl
theorem sockm_Table_Get.B0_sound {R : Int → Int → Int → Int → Int → Int → Int → Bool → Int → World → Prop}  (t : Option Addr) (sd : Int) (w : World) (h : sockm_Table_Get.B0 t sd w   R) :
    KW Try.prog 31 21 (sockm_Table_Get.RV R) ([(0, [])].map (toItem (Try.f31.body.getD .skip))) [(0, .pointer t), (1, .int .i64 sd)] w := by
  exact block_spec Try.func31 Try.mixed stops_nil (Eq.mp (sockm_Table_Get.B0_eq t sd w   R ) h)
theorem sockm_Table_Get.sound (t : Option Addr) (sd : Int) (w : World) (R : Int → Int → Int → Int → Int → Int → Int → Bool → Int → World → Prop) (h : sockm_Table_Get.B0 t sd w R) : sockm_Table_Get.Call t sd w R := by
  have hc := calls_of_block (args := #[.pointer t, .int .i64 sd]) Try.func31 (body := (Try.f31.body.getD .skip)) (by kernel_rfl) (by kernel_rfl) (args_slot _) (sockm_Table_Get.B0_sound t sd w h)
  exact hc.mono fun e w' he => by
    obtain ⟨v, rfl, hv⟩ := he
    exact sockm_Table_Get.RV_elim hv
def sock_Table_Lookup.B2 (t : Option Addr) (lport rhost rport j n : Int) (e : Nat) (t51 : Bool) (w : World) (N1 : Option Addr → Int → Int → Int → Int → Int → World → Prop)  (R : Int → World → Prop) : Prop :=
  Bm t51 (
    LdI .i64 ⟨e, 0, none⟩ w fun x53 =>
    R x53 w) (
    Pn t fun a =>
    (0 ≤ j ∧ j < ((6 : Nat) : Int)) ∧
    LdI .i64 ((Addr.add a (j.toNat * 15)).add 9) w fun x60 =>
    N1 t lport rhost rport x60 (IntKind.i64.wrap (n + (1 : Int))) w)
theorem sock_Table_Lookup.B2_eq (t : Option Addr) (lport rhost rport j n : Int) (e : Nat) (t51 : Bool) (w : World) (N1 : Option Addr → Int → Int → Int → Int → Int → World → Prop)  (R : Int → World → Prop)  :
    (
  Bm t51 (
    LdI .i64 ⟨e, 0, none⟩ w fun x53 =>
    R x53 w) (
    Pn t fun a =>
    (0 ≤ j ∧ j < ((6 : Nat) : Int)) ∧
    LdI .i64 ((Addr.add a (j.toNat * 15)).add 9) w fun x60 =>
    N1 t lport rhost rport x60 (IntKind.i64.wrap (n + (1 : Int))) w)) = kstep Try.prog 61 Try.f32.results.toList (Try.f32.body.getD .skip) (sock_Table_Lookup.RV R) (kvc Try.prog 61 Try.f32.results.toList (Try.f32.body.getD .skip) (sock_Table_Lookup.RV R) [([(0, [1, 1, 0, 1, 0, 0]), (2, [1, 1, 0, 1, 0, 0]), (1, [0]), (0, [1, 1, 1])], fun σ w => dP (slotOf σ 0) fun t_ => dI .i64 (slotOf σ 1) fun lport_ => dI .i64 (slotOf σ 2) fun rhost_ => dI .i64 (slotOf σ 3) fun rport_ => dI .i64 (slotOf σ 9) fun j_ => dI .i64 (slotOf σ 10) fun n_ => N1 t_ lport_ rhost_ rport_ j_ n_ w)] 2000) [(0, [1, 1, 0, 1, 0, 0, 1, 0, 0, 1, 0, 1]), (0, [1, 1, 0, 1, 0, 0, 1, 0, 0, 1, 1]), (1, [1]), (0, [1, 1, 0, 1, 0, 0, 1, 1]), (2, [1, 1, 0, 1, 0, 0]), (1, [0]), (0, [1, 1, 1])] [(0, .pointer t), (1, .int .i64 lport), (2, .int .i64 rhost), (3, .int .i64 rport), (9, .int .i64 j), (10, .int .i64 n), (11, .pointer (some ⟨e, 0, none⟩)), (51, .bool t51)] w := by kernel_rfl
theorem sock_Table_Lookup.B2_sound {R : Int → World → Prop} {N1 : Option Addr → Int → Int → Int → Int → Int → World → Prop} (hN1 : ∀ t lport rhost rport j n w, N1 t lport rhost rport j n w → KW Try.prog 32 61 (sock_Table_Lookup.RV R) ([(0, [1, 1, 0, 1, 0, 0]), (2, [1, 1, 0, 1, 0, 0]), (1, [0]), (0, [1, 1, 1])].map (toItem (Try.f32.body.getD .skip))) [(0, .pointer t), (1, .int .i64 lport), (2, .int .i64 rhost), (3, .int .i64 rport), (9, .int .i64 j), (10, .int .i64 n)] w) (t : Option Addr) (lport rhost rport j n : Int) (e : Nat) (t51 : Bool) (w : World) (h : sock_Table_Lookup.B2 t lport rhost rport j n e t51 w N1  R) :
    KW Try.prog 32 61 (sock_Table_Lookup.RV R) ([(0, [1, 1, 0, 1, 0, 0, 1, 0, 0, 1, 0, 1]), (0, [1, 1, 0, 1, 0, 0, 1, 0, 0, 1, 1]), (1, [1]), (0, [1, 1, 0, 1, 0, 0, 1, 1]), (2, [1, 1, 0, 1, 0, 0]), (1, [0]), (0, [1, 1, 1])].map (toItem (Try.f32.body.getD .skip))) [(0, .pointer t), (1, .int .i64 lport), (2, .int .i64 rhost), (3, .int .i64 rport), (9, .int .i64 j), (10, .int .i64 n), (11, .pointer (some ⟨e, 0, none⟩)), (51, .bool t51)] w := by
  exact block_spec Try.func32 Try.mixed (stops_cons (fun σ w h => by
      obtain ⟨t_, e0, h⟩ := dP_elim h
      obtain ⟨lport_, e1, h⟩ := dI_elim h
      obtain ⟨rhost_, e2, h⟩ := dI_elim h
      obtain ⟨rport_, e3, h⟩ := dI_elim h
      obtain ⟨j_, e4, h⟩ := dI_elim h
      obtain ⟨n_, e5, h⟩ := dI_elim h
      exact (hN1 t_ lport_ rhost_ rport_ j_ n_ w h).weaken (Sub.cons (Sub.cons (Sub.cons (Sub.cons (Sub.cons (Sub.cons (Sub.nil _) e5) e4) e3) e2) e1) e0)) stops_nil) (Eq.mp (sock_Table_Lookup.B2_eq t lport rhost rport j n e t51 w N1  R ) h)
def sock_Table_Lookup.B1 (t : Option Addr) (lport rhost rport j n : Int) (t26 : Bool) (w : World) (N1 : Option Addr → Int → Int → Int → Int → Int → World → Prop)  (R : Int → World → Prop) : Prop :=
  Bm t26 (
    Pn t fun a =>
    (0 ≤ j ∧ j < ((6 : Nat) : Int)) ∧
    LdI .i64 ((Addr.add a (j.toNat * 15)).add 1) w fun x35_0 =>
    LdI .i64 (((Addr.add a (j.toNat * 15)).add 1).add 1) w fun x35_1 =>
    LdI .i64 (((Addr.add a (j.toNat * 15)).add 1).add 2) w fun x35_2 =>
    LdI .i64 (((Addr.add a (j.toNat * 15)).add 1).add 3) w fun x35_3 =>
    LdI .i64 (((Addr.add a (j.toNat * 15)).add 1).add 4) w fun x35_4 =>
    LdI .i64 (((Addr.add a (j.toNat * 15)).add 1).add 5) w fun x35_5 =>
    LdI .i64 (((Addr.add a (j.toNat * 15)).add 1).add 6) w fun x35_6 =>
    LdB (((Addr.add a (j.toNat * 15)).add 1).add 7) w fun x35_7 =>
    New (.cells #[.int .i64 (0 : Int), .int .i64 (0 : Int), .int .i64 (0 : Int), .int .i64 (0 : Int), .int .i64 (0 : Int), .int .i64 (0 : Int), .int .i64 (0 : Int), .bool false] 40) w fun e_ w1 =>
    Sts [.int .i64 x35_0, .int .i64 x35_1, .int .i64 x35_2, .int .i64 x35_3, .int .i64 x35_4, .int .i64 x35_5, .int .i64 x35_6, .bool x35_7] ⟨e_, 0, none⟩ 0 w1 fun w2 =>
    LdI .i64 ⟨e_, 2, none⟩ w2 fun x37 =>
    Bm (x37 == lport) (
      LdI .i64 ⟨e_, 3, none⟩ w2 fun x42 =>
      Bm (x42 == rhost) (
        LdI .i64 ⟨e_, 4, none⟩ w2 fun x48 =>
        sock_Table_Lookup.B2 t lport rhost rport j n e_ (x48 == rport) w2 N1 R) (
        sock_Table_Lookup.B2 t lport rhost rport j n e_ false w2 N1 R)) (
      sock_Table_Lookup.B2 t lport rhost rport j n e_ false w2 N1 R)) (
    R (0 : Int) w)
theorem sock_Table_Lookup.B1_eq (t : Option Addr) (lport rhost rport j n : Int) (t26 : Bool) (w : World) (N1 : Option Addr → Int → Int → Int → Int → Int → World → Prop)  (R : Int → World → Prop) (sB2 : Option Addr → Int → Int → Int → Int → Int → Nat → Bool → World → Prop) :
    (
  Bm t26 (
    Pn t fun a =>
    (0 ≤ j ∧ j < ((6 : Nat) : Int)) ∧
    LdI .i64 ((Addr.add a (j.toNat * 15)).add 1) w fun x35_0 =>
    LdI .i64 (((Addr.add a (j.toNat * 15)).add 1).add 1) w fun x35_1 =>
    LdI .i64 (((Addr.add a (j.toNat * 15)).add 1).add 2) w fun x35_2 =>
    LdI .i64 (((Addr.add a (j.toNat * 15)).add 1).add 3) w fun x35_3 =>
    LdI .i64 (((Addr.add a (j.toNat * 15)).add 1).add 4) w fun x35_4 =>
    LdI .i64 (((Addr.add a (j.toNat * 15)).add 1).add 5) w fun x35_5 =>
    LdI .i64 (((Addr.add a (j.toNat * 15)).add 1).add 6) w fun x35_6 =>
    LdB (((Addr.add a (j.toNat * 15)).add 1).add 7) w fun x35_7 =>
    New (.cells #[.int .i64 (0 : Int), .int .i64 (0 : Int), .int .i64 (0 : Int), .int .i64 (0 : Int), .int .i64 (0 : Int), .int .i64 (0 : Int), .int .i64 (0 : Int), .bool false] 40) w fun e_ w1 =>
    Sts [.int .i64 x35_0, .int .i64 x35_1, .int .i64 x35_2, .int .i64 x35_3, .int .i64 x35_4, .int .i64 x35_5, .int .i64 x35_6, .bool x35_7] ⟨e_, 0, none⟩ 0 w1 fun w2 =>
    LdI .i64 ⟨e_, 2, none⟩ w2 fun x37 =>
    Bm (x37 == lport) (
      LdI .i64 ⟨e_, 3, none⟩ w2 fun x42 =>
      Bm (x42 == rhost) (
        LdI .i64 ⟨e_, 4, none⟩ w2 fun x48 =>
        sB2 t lport rhost rport j n e_ (x48 == rport) w2) (
        sB2 t lport rhost rport j n e_ false w2)) (
      sB2 t lport rhost rport j n e_ false w2)) (
    R (0 : Int) w)) = kstep Try.prog 61 Try.f32.results.toList (Try.f32.body.getD .skip) (sock_Table_Lookup.RV R) (kvc Try.prog 61 Try.f32.results.toList (Try.f32.body.getD .skip) (sock_Table_Lookup.RV R) [([(0, [1, 1, 0, 1, 0, 0, 1, 0, 0, 1, 0, 1]), (0, [1, 1, 0, 1, 0, 0, 1, 0, 0, 1, 1]), (1, [1]), (0, [1, 1, 0, 1, 0, 0, 1, 1]), (2, [1, 1, 0, 1, 0, 0]), (1, [0]), (0, [1, 1, 1])], fun σ w => dP (slotOf σ 0) fun t_ => dI .i64 (slotOf σ 1) fun lport_ => dI .i64 (slotOf σ 2) fun rhost_ => dI .i64 (slotOf σ 3) fun rport_ => dI .i64 (slotOf σ 9) fun j_ => dI .i64 (slotOf σ 10) fun n_ => dK (slotOf σ 11) fun e_ => dB (slotOf σ 51) fun t51_ => sB2 t_ lport_ rhost_ rport_ j_ n_ e_ t51_ w)] 2000) [(0, [1, 1, 0, 1, 0, 0, 0, 1]), (0, [1, 1, 0, 1, 0, 0, 1]), (2, [1, 1, 0, 1, 0, 0]), (1, [0]), (0, [1, 1, 1])] [(0, .pointer t), (1, .int .i64 lport), (2, .int .i64 rhost), (3, .int .i64 rport), (9, .int .i64 j), (10, .int .i64 n), (26, .bool t26)] w := by kernel_rfl
theorem sock_Table_Lookup.B1_sound {R : Int → World → Prop} {N1 : Option Addr → Int → Int → Int → Int → Int → World → Prop} (hN1 : ∀ t lport rhost rport j n w, N1 t lport rhost rport j n w → KW Try.prog 32 61 (sock_Table_Lookup.RV R) ([(0, [1, 1, 0, 1, 0, 0]), (2, [1, 1, 0, 1, 0, 0]), (1, [0]), (0, [1, 1, 1])].map (toItem (Try.f32.body.getD .skip))) [(0, .pointer t), (1, .int .i64 lport), (2, .int .i64 rhost), (3, .int .i64 rport), (9, .int .i64 j), (10, .int .i64 n)] w) (t : Option Addr) (lport rhost rport j n : Int) (t26 : Bool) (w : World) (h : sock_Table_Lookup.B1 t lport rhost rport j n t26 w N1  R) :
    KW Try.prog 32 61 (sock_Table_Lookup.RV R) ([(0, [1, 1, 0, 1, 0, 0, 0, 1]), (0, [1, 1, 0, 1, 0, 0, 1]), (2, [1, 1, 0, 1, 0, 0]), (1, [0]), (0, [1, 1, 1])].map (toItem (Try.f32.body.getD .skip))) [(0, .pointer t), (1, .int .i64 lport), (2, .int .i64 rhost), (3, .int .i64 rport), (9, .int .i64 j), (10, .int .i64 n), (26, .bool t26)] w := by
  exact block_spec Try.func32 Try.mixed (stops_cons (fun σ w h => by
      obtain ⟨t_, e0, h⟩ := dP_elim h
      obtain ⟨lport_, e1, h⟩ := dI_elim h
      obtain ⟨rhost_, e2, h⟩ := dI_elim h
      obtain ⟨rport_, e3, h⟩ := dI_elim h
      obtain ⟨j_, e4, h⟩ := dI_elim h
      obtain ⟨n_, e5, h⟩ := dI_elim h
      obtain ⟨e_, e6, h⟩ := dK_elim h
      obtain ⟨t51_, e7, h⟩ := dB_elim h
      exact (sock_Table_Lookup.B2_sound hN1 t_ lport_ rhost_ rport_ j_ n_ e_ t51_ w h).weaken (Sub.cons (Sub.cons (Sub.cons (Sub.cons (Sub.cons (Sub.cons (Sub.cons (Sub.cons (Sub.nil _) e7) e6) e5) e4) e3) e2) e1) e0)) stops_nil) (Eq.mp (sock_Table_Lookup.B1_eq t lport rhost rport j n t26 w N1  R (fun t_ lport_ rhost_ rport_ j_ n_ e_ t51_ w => sock_Table_Lookup.B2 t_ lport_ rhost_ rport_ j_ n_ e_ t51_ w N1 R)) h)
def sock_Table_Lookup.L1b (t : Option Addr) (lport rhost rport j n : Int) (w : World)  (N1 : Option Addr → Int → Int → Int → Int → Int → World → Prop) (R : Int → World → Prop) : Prop :=
  Bm (j != (-1 : Int)) (
    sock_Table_Lookup.B1 t lport rhost rport j n (decide (n < (6 : Int))) w N1 R) (
    sock_Table_Lookup.B1 t lport rhost rport j n false w N1 R)
theorem sock_Table_Lookup.L1b_eq (t : Option Addr) (lport rhost rport j n : Int) (w : World)  (N1 : Option Addr → Int → Int → Int → Int → Int → World → Prop) (R : Int → World → Prop) (sB1 : Option Addr → Int → Int → Int → Int → Int → Bool → World → Prop) :
    (
  Bm (j != (-1 : Int)) (
    sB1 t lport rhost rport j n (decide (n < (6 : Int))) w) (
    sB1 t lport rhost rport j n false w)) = kstep Try.prog 61 Try.f32.results.toList (Try.f32.body.getD .skip) (sock_Table_Lookup.RV R) (kvc Try.prog 61 Try.f32.results.toList (Try.f32.body.getD .skip) (sock_Table_Lookup.RV R) [([(0, [1, 1, 0, 1, 0, 0, 0, 1]), (0, [1, 1, 0, 1, 0, 0, 1]), (2, [1, 1, 0, 1, 0, 0]), (1, [0]), (0, [1, 1, 1])], fun σ w => dP (slotOf σ 0) fun t_ => dI .i64 (slotOf σ 1) fun lport_ => dI .i64 (slotOf σ 2) fun rhost_ => dI .i64 (slotOf σ 3) fun rport_ => dI .i64 (slotOf σ 9) fun j_ => dI .i64 (slotOf σ 10) fun n_ => dB (slotOf σ 26) fun t26_ => sB1 t_ lport_ rhost_ rport_ j_ n_ t26_ w)] 2000) [(0, [1, 1, 0, 1, 0, 0]), (2, [1, 1, 0, 1, 0, 0]), (1, [0]), (0, [1, 1, 1])] [(0, .pointer t), (1, .int .i64 lport), (2, .int .i64 rhost), (3, .int .i64 rport), (9, .int .i64 j), (10, .int .i64 n)] w := by kernel_rfl
theorem sock_Table_Lookup.L1b_sound {R : Int → World → Prop} {N1 : Option Addr → Int → Int → Int → Int → Int → World → Prop} (hN1 : ∀ t lport rhost rport j n w, N1 t lport rhost rport j n w → KW Try.prog 32 61 (sock_Table_Lookup.RV R) ([(0, [1, 1, 0, 1, 0, 0]), (2, [1, 1, 0, 1, 0, 0]), (1, [0]), (0, [1, 1, 1])].map (toItem (Try.f32.body.getD .skip))) [(0, .pointer t), (1, .int .i64 lport), (2, .int .i64 rhost), (3, .int .i64 rport), (9, .int .i64 j), (10, .int .i64 n)] w) (t : Option Addr) (lport rhost rport j n : Int) (w : World) (h : sock_Table_Lookup.L1b t lport rhost rport j n w  N1 R) :
    KW Try.prog 32 61 (sock_Table_Lookup.RV R) ([(0, [1, 1, 0, 1, 0, 0]), (2, [1, 1, 0, 1, 0, 0]), (1, [0]), (0, [1, 1, 1])].map (toItem (Try.f32.body.getD .skip))) [(0, .pointer t), (1, .int .i64 lport), (2, .int .i64 rhost), (3, .int .i64 rport), (9, .int .i64 j), (10, .int .i64 n)] w := by
  exact block_spec Try.func32 Try.mixed (stops_cons (fun σ w h => by
      obtain ⟨t_, e0, h⟩ := dP_elim h
      obtain ⟨lport_, e1, h⟩ := dI_elim h
      obtain ⟨rhost_, e2, h⟩ := dI_elim h
      obtain ⟨rport_, e3, h⟩ := dI_elim h
      obtain ⟨j_, e4, h⟩ := dI_elim h
      obtain ⟨n_, e5, h⟩ := dI_elim h
      obtain ⟨t26_, e6, h⟩ := dB_elim h
      exact (sock_Table_Lookup.B1_sound hN1 t_ lport_ rhost_ rport_ j_ n_ t26_ w h).weaken (Sub.cons (Sub.cons (Sub.cons (Sub.cons (Sub.cons (Sub.cons (Sub.cons (Sub.nil _) e6) e5) e4) e3) e2) e1) e0)) stops_nil) (Eq.mp (sock_Table_Lookup.L1b_eq t lport rhost rport j n w  N1 R (fun t_ lport_ rhost_ rport_ j_ n_ t26_ w => sock_Table_Lookup.B1 t_ lport_ rhost_ rport_ j_ n_ t26_ w N1 R)) h)
def sock_Table_Lookup.L1 (t : Option Addr) (lport rhost rport j n : Int) (w : World)  (R : Int → World → Prop) : Prop :=
  ∃ (I : Nat → Option Addr → Int → Int → Int → Int → Int → World → Prop) (m : Nat), I m t lport rhost rport j n w ∧ ∀ m t lport rhost rport j n w, I m t lport rhost rport j n w → sock_Table_Lookup.L1b t lport rhost rport j n w  (fun t' lport' rhost' rport' j' n' w' => ∃ m', m' < m ∧ I m' t' lport' rhost' rport' j' n' w') R
theorem sock_Table_Lookup.L1_sound {R : Int → World → Prop}  (t : Option Addr) (lport rhost rport j n : Int) (w : World) (h : sock_Table_Lookup.L1 t lport rhost rport j n w  R) :
    KW Try.prog 32 61 (sock_Table_Lookup.RV R) ([(0, [1, 1, 0, 1, 0, 0]), (2, [1, 1, 0, 1, 0, 0]), (1, [0]), (0, [1, 1, 1])].map (toItem (Try.f32.body.getD .skip))) [(0, .pointer t), (1, .int .i64 lport), (2, .int .i64 rhost), (3, .int .i64 rport), (9, .int .i64 j), (10, .int .i64 n)] w := by
  obtain ⟨I, m, hBase, hr⟩ := h
  refine KW.loop (fun m σ w => ∃ (t : Option Addr) (lport rhost rport j n : Int), σ = [(0, .pointer t), (1, .int .i64 lport), (2, .int .i64 rhost), (3, .int .i64 rport), (9, .int .i64 j), (10, .int .i64 n)] ∧ I m t lport rhost rport j n w) ?_ m _ w ⟨t, lport, rhost, rport, j, n, rfl, hBase⟩
  rintro m ih σ w ⟨t, lport, rhost, rport, j, n, rfl, hI⟩
  exact sock_Table_Lookup.L1b_sound  (N1 := fun t' lport' rhost' rport' j' n' w' => ∃ m', m' < m ∧ I m' t' lport' rhost' rport' j' n' w') (fun t' lport' rhost' rport' j' n' w' hx => by obtain ⟨m', hlt, hI'⟩ := hx; exact ih m' hlt _ w' ⟨t', lport', rhost', rport', j', n', rfl, hI'⟩) t lport rhost rport j n w (hr m t lport rhost rport j n w hI)
def sock_Table_Lookup.B0 (t : Option Addr) (lport rhost rport : Int) (w : World)   (R : Int → World → Prop) : Prop :=
  Pn t fun a =>
  sock_hash.Call lport rhost rport w.drew fun r16 w1 =>
  (0 ≤ r16 ∧ r16 < ((4 : Nat) : Int)) ∧
  LdI .i64 (Addr.add (a.add 91) (r16.toNat * 1)) w1 fun x20 =>
  sock_Table_Lookup.L1 t lport rhost rport x20 (0 : Int) w1  R
theorem sock_Table_Lookup.B0_eq (t : Option Addr) (lport rhost rport : Int) (w : World)   (R : Int → World → Prop) (sL1 : Option Addr → Int → Int → Int → Int → Int → World → Prop) :
    (
  Pn t fun a =>
  sock_hash.Call lport rhost rport w.drew fun r16 w1 =>
  (0 ≤ r16 ∧ r16 < ((4 : Nat) : Int)) ∧
  LdI .i64 (Addr.add (a.add 91) (r16.toNat * 1)) w1 fun x20 =>
  sL1 t lport rhost rport x20 (0 : Int) w1) = kstep Try.prog 61 Try.f32.results.toList (Try.f32.body.getD .skip) (sock_Table_Lookup.RV R) (kvc Try.prog 61 Try.f32.results.toList (Try.f32.body.getD .skip) (sock_Table_Lookup.RV R) [([(0, [1, 1, 0, 1, 0, 0]), (2, [1, 1, 0, 1, 0, 0]), (1, [0]), (0, [1, 1, 1])], fun σ w => dP (slotOf σ 0) fun t_ => dI .i64 (slotOf σ 1) fun lport_ => dI .i64 (slotOf σ 2) fun rhost_ => dI .i64 (slotOf σ 3) fun rport_ => dI .i64 (slotOf σ 9) fun j_ => dI .i64 (slotOf σ 10) fun n_ => sL1 t_ lport_ rhost_ rport_ j_ n_ w)] 2000) [(0, [])] [(0, .pointer t), (1, .int .i64 lport), (2, .int .i64 rhost), (3, .int .i64 rport)] w := by kernel_rfl
theorem sock_Table_Lookup.B0_sound {R : Int → World → Prop}  (t : Option Addr) (lport rhost rport : Int) (w : World) (h : sock_Table_Lookup.B0 t lport rhost rport w   R) :
    KW Try.prog 32 61 (sock_Table_Lookup.RV R) ([(0, [])].map (toItem (Try.f32.body.getD .skip))) [(0, .pointer t), (1, .int .i64 lport), (2, .int .i64 rhost), (3, .int .i64 rport)] w := by
  exact block_spec Try.func32 Try.mixed (stops_cons (fun σ w h => by
      obtain ⟨t_, e0, h⟩ := dP_elim h
      obtain ⟨lport_, e1, h⟩ := dI_elim h
      obtain ⟨rhost_, e2, h⟩ := dI_elim h
      obtain ⟨rport_, e3, h⟩ := dI_elim h
      obtain ⟨j_, e4, h⟩ := dI_elim h
      obtain ⟨n_, e5, h⟩ := dI_elim h
      exact (sock_Table_Lookup.L1_sound  t_ lport_ rhost_ rport_ j_ n_ w h).weaken (Sub.cons (Sub.cons (Sub.cons (Sub.cons (Sub.cons (Sub.cons (Sub.nil _) e5) e4) e3) e2) e1) e0)) stops_nil) (Eq.mp (sock_Table_Lookup.B0_eq t lport rhost rport w   R (fun t_ lport_ rhost_ rport_ j_ n_ w => sock_Table_Lookup.L1 t_ lport_ rhost_ rport_ j_ n_ w  R)) h)
theorem sock_Table_Lookup.sound (t : Option Addr) (lport rhost rport : Int) (w : World) (R : Int → World → Prop) (h : sock_Table_Lookup.B0 t lport rhost rport w R) : sock_Table_Lookup.Call t lport rhost rport w R := by
  have hc := calls_of_block (args := #[.pointer t, .int .i64 lport, .int .i64 rhost, .int .i64 rport]) Try.func32 (body := (Try.f32.body.getD .skip)) (by kernel_rfl) (by kernel_rfl) (args_slot _) (sock_Table_Lookup.B0_sound t lport rhost rport w h)
  exact hc.mono fun e w' he => by
    obtain ⟨v, rfl, hv⟩ := he
    exact sock_Table_Lookup.RV_elim hv
def sock_Table_Listener.B0 (t : Option Addr) (lport : Int) (w : World)   (R : Int → World → Prop) : Prop :=
  sock_Table_listenerRow.Call t lport w fun r8 w1 =>
  Bm (r8 == (-1 : Int)) (
    R (0 : Int) w1) (
    Pn t fun a =>
    (0 ≤ r8 ∧ r8 < ((6 : Nat) : Int)) ∧
    LdI .i64 ((Addr.add a (r8.toNat * 15)).add 1) w1 fun x18 =>
    R x18 w1)
theorem sock_Table_Listener.B0_eq (t : Option Addr) (lport : Int) (w : World)   (R : Int → World → Prop)  :
    (
  sock_Table_listenerRow.Call t lport w fun r8 w1 =>
  Bm (r8 == (-1 : Int)) (
    R (0 : Int) w1) (
    Pn t fun a =>
    (0 ≤ r8 ∧ r8 < ((6 : Nat) : Int)) ∧
    LdI .i64 ((Addr.add a (r8.toNat * 15)).add 1) w1 fun x18 =>
    R x18 w1)) = kstep Try.prog 19 Try.f33.results.toList (Try.f33.body.getD .skip) (sock_Table_Listener.RV R) (kvc Try.prog 19 Try.f33.results.toList (Try.f33.body.getD .skip) (sock_Table_Listener.RV R) [] 2000) [(0, [])] [(0, .pointer t), (1, .int .i64 lport)] w := by kernel_rfl
theorem sock_Table_Listener.B0_sound {R : Int → World → Prop}  (t : Option Addr) (lport : Int) (w : World) (h : sock_Table_Listener.B0 t lport w   R) :
    KW Try.prog 33 19 (sock_Table_Listener.RV R) ([(0, [])].map (toItem (Try.f33.body.getD .skip))) [(0, .pointer t), (1, .int .i64 lport)] w := by
  exact block_spec Try.func33 Try.mixed stops_nil (Eq.mp (sock_Table_Listener.B0_eq t lport w   R ) h)
theorem sock_Table_Listener.sound (t : Option Addr) (lport : Int) (w : World) (R : Int → World → Prop) (h : sock_Table_Listener.B0 t lport w R) : sock_Table_Listener.Call t lport w R := by
  have hc := calls_of_block (args := #[.pointer t, .int .i64 lport]) Try.func33 (body := (Try.f33.body.getD .skip)) (by kernel_rfl) (by kernel_rfl) (args_slot _) (sock_Table_Listener.B0_sound t lport w h)
  exact hc.mono fun e w' he => by
    obtain ⟨v, rfl, hv⟩ := he
    exact sock_Table_Listener.RV_elim hv
def sockm_Table_Listener.B1 (t : Option Addr) (lport i : Int) (t37 : Bool) (w : World) (N1 : Option Addr → Int → Int → World → Prop)  (R : Int → World → Prop) : Prop :=
  Bm t37 (
    Pn t fun a =>
    LdL a w fun x41_b x41_l x41_c =>
    Pn x41_b fun a_1 =>
    (0 ≤ i ∧ i < ((x41_l : Nat) : Int)) ∧
    LdI .i64 (Addr.add a_1 (i.toNat * 9)) w fun x46 =>
    R x46 w) (
    N1 t lport (IntKind.i64.wrap (i + (1 : Int))) w)
theorem sockm_Table_Listener.B1_eq (t : Option Addr) (lport i : Int) (t37 : Bool) (w : World) (N1 : Option Addr → Int → Int → World → Prop)  (R : Int → World → Prop)  :
    (
  Bm t37 (
    Pn t fun a =>
    LdL a w fun x41_b x41_l x41_c =>
    Pn x41_b fun a_1 =>
    (0 ≤ i ∧ i < ((x41_l : Nat) : Int)) ∧
    LdI .i64 (Addr.add a_1 (i.toNat * 9)) w fun x46 =>
    R x46 w) (
    N1 t lport (IntKind.i64.wrap (i + (1 : Int))) w)) = kstep Try.prog 47 Try.f34.results.toList (Try.f34.body.getD .skip) (sockm_Table_Listener.RV R) (kvc Try.prog 47 Try.f34.results.toList (Try.f34.body.getD .skip) (sockm_Table_Listener.RV R) [([(0, [1, 0, 1, 0, 0]), (2, [1, 0, 1, 0, 0]), (1, [0]), (0, [1, 1])], fun σ w => dP (slotOf σ 0) fun t_ => dI .i64 (slotOf σ 1) fun lport_ => dI .i64 (slotOf σ 5) fun i_ => N1 t_ lport_ i_ w)] 2000) [(0, [1, 0, 1, 0, 0, 1, 0, 0, 1]), (1, [1]), (0, [1, 0, 1, 0, 0, 1, 1]), (2, [1, 0, 1, 0, 0]), (1, [0]), (0, [1, 1])] [(0, .pointer t), (1, .int .i64 lport), (5, .int .i64 i), (37, .bool t37)] w := by kernel_rfl
theorem sockm_Table_Listener.B1_sound {R : Int → World → Prop} {N1 : Option Addr → Int → Int → World → Prop} (hN1 : ∀ t lport i w, N1 t lport i w → KW Try.prog 34 47 (sockm_Table_Listener.RV R) ([(0, [1, 0, 1, 0, 0]), (2, [1, 0, 1, 0, 0]), (1, [0]), (0, [1, 1])].map (toItem (Try.f34.body.getD .skip))) [(0, .pointer t), (1, .int .i64 lport), (5, .int .i64 i)] w) (t : Option Addr) (lport i : Int) (t37 : Bool) (w : World) (h : sockm_Table_Listener.B1 t lport i t37 w N1  R) :
    KW Try.prog 34 47 (sockm_Table_Listener.RV R) ([(0, [1, 0, 1, 0, 0, 1, 0, 0, 1]), (1, [1]), (0, [1, 0, 1, 0, 0, 1, 1]), (2, [1, 0, 1, 0, 0]), (1, [0]), (0, [1, 1])].map (toItem (Try.f34.body.getD .skip))) [(0, .pointer t), (1, .int .i64 lport), (5, .int .i64 i), (37, .bool t37)] w := by
  exact block_spec Try.func34 Try.mixed (stops_cons (fun σ w h => by
      obtain ⟨t_, e0, h⟩ := dP_elim h
      obtain ⟨lport_, e1, h⟩ := dI_elim h
      obtain ⟨i_, e2, h⟩ := dI_elim h
      exact (hN1 t_ lport_ i_ w h).weaken (Sub.cons (Sub.cons (Sub.cons (Sub.nil _) e2) e1) e0)) stops_nil) (Eq.mp (sockm_Table_Listener.B1_eq t lport i t37 w N1  R ) h)
def sockm_Table_Listener.L1b (t : Option Addr) (lport i : Int) (w : World)  (N1 : Option Addr → Int → Int → World → Prop) (R : Int → World → Prop) : Prop :=
  Pn t fun a =>
  LdL a w fun x10_b x10_l x10_c =>
  Bm (decide (i < ((x10_l : Nat) : Int))) (
    Pn t fun a_1 =>
    LdL a_1 w fun x18_b x18_l x18_c =>
    Pn x18_b fun a_2 =>
    (0 ≤ i ∧ i < ((x18_l : Nat) : Int)) ∧
    LdI .i64 ((Addr.add a_2 (i.toNat * 9)).add 1) w fun x23 =>
    Bm (x23 == (1 : Int)) (
      Pn t fun a_3 =>
      LdL a_3 w fun x29_b x29_l x29_c =>
      Pn x29_b fun a_4 =>
      (0 ≤ i ∧ i < ((x29_l : Nat) : Int)) ∧
      LdI .i64 ((Addr.add a_4 (i.toNat * 9)).add 2) w fun x34 =>
      sockm_Table_Listener.B1 t lport i (x34 == lport) w N1 R) (
      sockm_Table_Listener.B1 t lport i false w N1 R)) (
    R (0 : Int) w)
theorem sockm_Table_Listener.L1b_eq (t : Option Addr) (lport i : Int) (w : World)  (N1 : Option Addr → Int → Int → World → Prop) (R : Int → World → Prop) (sB1 : Option Addr → Int → Int → Bool → World → Prop) :
    (
  Pn t fun a =>
  LdL a w fun x10_b x10_l x10_c =>
  Bm (decide (i < ((x10_l : Nat) : Int))) (
    Pn t fun a_1 =>
    LdL a_1 w fun x18_b x18_l x18_c =>
    Pn x18_b fun a_2 =>
    (0 ≤ i ∧ i < ((x18_l : Nat) : Int)) ∧
    LdI .i64 ((Addr.add a_2 (i.toNat * 9)).add 1) w fun x23 =>
    Bm (x23 == (1 : Int)) (
      Pn t fun a_3 =>
      LdL a_3 w fun x29_b x29_l x29_c =>
      Pn x29_b fun a_4 =>
      (0 ≤ i ∧ i < ((x29_l : Nat) : Int)) ∧
      LdI .i64 ((Addr.add a_4 (i.toNat * 9)).add 2) w fun x34 =>
      sB1 t lport i (x34 == lport) w) (
      sB1 t lport i false w)) (
    R (0 : Int) w)) = kstep Try.prog 47 Try.f34.results.toList (Try.f34.body.getD .skip) (sockm_Table_Listener.RV R) (kvc Try.prog 47 Try.f34.results.toList (Try.f34.body.getD .skip) (sockm_Table_Listener.RV R) [([(0, [1, 0, 1, 0, 0, 1, 0, 0, 1]), (1, [1]), (0, [1, 0, 1, 0, 0, 1, 1]), (2, [1, 0, 1, 0, 0]), (1, [0]), (0, [1, 1])], fun σ w => dP (slotOf σ 0) fun t_ => dI .i64 (slotOf σ 1) fun lport_ => dI .i64 (slotOf σ 5) fun i_ => dB (slotOf σ 37) fun t37_ => sB1 t_ lport_ i_ t37_ w)] 2000) [(0, [1, 0, 1, 0, 0]), (2, [1, 0, 1, 0, 0]), (1, [0]), (0, [1, 1])] [(0, .pointer t), (1, .int .i64 lport), (5, .int .i64 i)] w := by kernel_rfl
theorem sockm_Table_Listener.L1b_sound {R : Int → World → Prop} {N1 : Option Addr → Int → Int → World → Prop} (hN1 : ∀ t lport i w, N1 t lport i w → KW Try.prog 34 47 (sockm_Table_Listener.RV R) ([(0, [1, 0, 1, 0, 0]), (2, [1, 0, 1, 0, 0]), (1, [0]), (0, [1, 1])].map (toItem (Try.f34.body.getD .skip))) [(0, .pointer t), (1, .int .i64 lport), (5, .int .i64 i)] w) (t : Option Addr) (lport i : Int) (w : World) (h : sockm_Table_Listener.L1b t lport i w  N1 R) :
    KW Try.prog 34 47 (sockm_Table_Listener.RV R) ([(0, [1, 0, 1, 0, 0]), (2, [1, 0, 1, 0, 0]), (1, [0]), (0, [1, 1])].map (toItem (Try.f34.body.getD .skip))) [(0, .pointer t), (1, .int .i64 lport), (5, .int .i64 i)] w := by
  exact block_spec Try.func34 Try.mixed (stops_cons (fun σ w h => by
      obtain ⟨t_, e0, h⟩ := dP_elim h
      obtain ⟨lport_, e1, h⟩ := dI_elim h
      obtain ⟨i_, e2, h⟩ := dI_elim h
      obtain ⟨t37_, e3, h⟩ := dB_elim h
      exact (sockm_Table_Listener.B1_sound hN1 t_ lport_ i_ t37_ w h).weaken (Sub.cons (Sub.cons (Sub.cons (Sub.cons (Sub.nil _) e3) e2) e1) e0)) stops_nil) (Eq.mp (sockm_Table_Listener.L1b_eq t lport i w  N1 R (fun t_ lport_ i_ t37_ w => sockm_Table_Listener.B1 t_ lport_ i_ t37_ w N1 R)) h)
def sockm_Table_Listener.L1 (t : Option Addr) (lport i : Int) (w : World)  (R : Int → World → Prop) : Prop :=
  ∃ (I : Nat → Option Addr → Int → Int → World → Prop) (m : Nat), I m t lport i w ∧ ∀ m t lport i w, I m t lport i w → sockm_Table_Listener.L1b t lport i w  (fun t' lport' i' w' => ∃ m', m' < m ∧ I m' t' lport' i' w') R
theorem sockm_Table_Listener.L1_sound {R : Int → World → Prop}  (t : Option Addr) (lport i : Int) (w : World) (h : sockm_Table_Listener.L1 t lport i w  R) :
    KW Try.prog 34 47 (sockm_Table_Listener.RV R) ([(0, [1, 0, 1, 0, 0]), (2, [1, 0, 1, 0, 0]), (1, [0]), (0, [1, 1])].map (toItem (Try.f34.body.getD .skip))) [(0, .pointer t), (1, .int .i64 lport), (5, .int .i64 i)] w := by
  obtain ⟨I, m, hBase, hr⟩ := h
  refine KW.loop (fun m σ w => ∃ (t : Option Addr) (lport i : Int), σ = [(0, .pointer t), (1, .int .i64 lport), (5, .int .i64 i)] ∧ I m t lport i w) ?_ m _ w ⟨t, lport, i, rfl, hBase⟩
  rintro m ih σ w ⟨t, lport, i, rfl, hI⟩
  exact sockm_Table_Listener.L1b_sound  (N1 := fun t' lport' i' w' => ∃ m', m' < m ∧ I m' t' lport' i' w') (fun t' lport' i' w' hx => by obtain ⟨m', hlt, hI'⟩ := hx; exact ih m' hlt _ w' ⟨t', lport', i', rfl, hI'⟩) t lport i w (hr m t lport i w hI)
def sockm_Table_Listener.B0 (t : Option Addr) (lport : Int) (w : World)   (R : Int → World → Prop) : Prop :=
  sockm_Table_Listener.L1 t lport (0 : Int) w  R
theorem sockm_Table_Listener.B0_eq (t : Option Addr) (lport : Int) (w : World)   (R : Int → World → Prop) (sL1 : Option Addr → Int → Int → World → Prop) :
    (
  sL1 t lport (0 : Int) w) = kstep Try.prog 47 Try.f34.results.toList (Try.f34.body.getD .skip) (sockm_Table_Listener.RV R) (kvc Try.prog 47 Try.f34.results.toList (Try.f34.body.getD .skip) (sockm_Table_Listener.RV R) [([(0, [1, 0, 1, 0, 0]), (2, [1, 0, 1, 0, 0]), (1, [0]), (0, [1, 1])], fun σ w => dP (slotOf σ 0) fun t_ => dI .i64 (slotOf σ 1) fun lport_ => dI .i64 (slotOf σ 5) fun i_ => sL1 t_ lport_ i_ w)] 2000) [(0, [])] [(0, .pointer t), (1, .int .i64 lport)] w := by kernel_rfl
theorem sockm_Table_Listener.B0_sound {R : Int → World → Prop}  (t : Option Addr) (lport : Int) (w : World) (h : sockm_Table_Listener.B0 t lport w   R) :
    KW Try.prog 34 47 (sockm_Table_Listener.RV R) ([(0, [])].map (toItem (Try.f34.body.getD .skip))) [(0, .pointer t), (1, .int .i64 lport)] w := by
  exact block_spec Try.func34 Try.mixed (stops_cons (fun σ w h => by
      obtain ⟨t_, e0, h⟩ := dP_elim h
      obtain ⟨lport_, e1, h⟩ := dI_elim h
      obtain ⟨i_, e2, h⟩ := dI_elim h
      exact (sockm_Table_Listener.L1_sound  t_ lport_ i_ w h).weaken (Sub.cons (Sub.cons (Sub.cons (Sub.nil _) e2) e1) e0)) stops_nil) (Eq.mp (sockm_Table_Listener.B0_eq t lport w   R (fun t_ lport_ i_ w => sockm_Table_Listener.L1 t_ lport_ i_ w  R)) h)
theorem sockm_Table_Listener.sound (t : Option Addr) (lport : Int) (w : World) (R : Int → World → Prop) (h : sockm_Table_Listener.B0 t lport w R) : sockm_Table_Listener.Call t lport w R := by
  have hc := calls_of_block (args := #[.pointer t, .int .i64 lport]) Try.func34 (body := (Try.f34.body.getD .skip)) (by kernel_rfl) (by kernel_rfl) (args_slot _) (sockm_Table_Listener.B0_sound t lport w h)
  exact hc.mono fun e w' he => by
    obtain ⟨v, rfl, hv⟩ := he
    exact sockm_Table_Listener.RV_elim hv
def sock_Table_Get.B0 (t : Option Addr) (sd : Int) (w : World)   (R : Int → Int → Int → Int → Int → Int → Int → Bool → Int → World → Prop) : Prop :=
  New (.cells #[.int .i64 (0 : Int), .int .i64 (0 : Int), .int .i64 (0 : Int), .int .i64 (0 : Int), .int .i64 (0 : Int), .int .i64 (0 : Int), .int .i64 (0 : Int), .bool false] 40) w fun b4 w1 =>
  sock_Table_find.Call t sd w1 fun r9 w2 =>
  Bm (r9 == (-1 : Int)) (
    Sts [.int .i64 (0 : Int), .int .i64 (0 : Int), .int .i64 (0 : Int), .int .i64 (0 : Int), .int .i64 (0 : Int), .int .i64 (0 : Int), .int .i64 (0 : Int), .bool false] ⟨b4, 0, none⟩ 0 w2 fun w3 =>
    LdI .i64 ⟨b4, 0, none⟩ w3 fun r_0 =>
    LdI .i64 ⟨b4, 1, none⟩ w3 fun r_1 =>
    LdI .i64 ⟨b4, 2, none⟩ w3 fun r_2 =>
    LdI .i64 ⟨b4, 3, none⟩ w3 fun r_3 =>
    LdI .i64 ⟨b4, 4, none⟩ w3 fun r_4 =>
    LdI .i64 ⟨b4, 5, none⟩ w3 fun r_5 =>
    LdI .i64 ⟨b4, 6, none⟩ w3 fun r_6 =>
    LdB ⟨b4, 7, none⟩ w3 fun r_7 =>
    R r_0 r_1 r_2 r_3 r_4 r_5 r_6 r_7 (21 : Int) w3) (
    Pn t fun a =>
    (0 ≤ r9 ∧ r9 < ((6 : Nat) : Int)) ∧
    LdI .i64 ((Addr.add a (r9.toNat * 15)).add 1) w2 fun x19_0 =>
    LdI .i64 (((Addr.add a (r9.toNat * 15)).add 1).add 1) w2 fun x19_1 =>
    LdI .i64 (((Addr.add a (r9.toNat * 15)).add 1).add 2) w2 fun x19_2 =>
    LdI .i64 (((Addr.add a (r9.toNat * 15)).add 1).add 3) w2 fun x19_3 =>
    LdI .i64 (((Addr.add a (r9.toNat * 15)).add 1).add 4) w2 fun x19_4 =>
    LdI .i64 (((Addr.add a (r9.toNat * 15)).add 1).add 5) w2 fun x19_5 =>
    LdI .i64 (((Addr.add a (r9.toNat * 15)).add 1).add 6) w2 fun x19_6 =>
    LdB (((Addr.add a (r9.toNat * 15)).add 1).add 7) w2 fun x19_7 =>
    Sts [.int .i64 x19_0, .int .i64 x19_1, .int .i64 x19_2, .int .i64 x19_3, .int .i64 x19_4, .int .i64 x19_5, .int .i64 x19_6, .bool x19_7] ⟨b4, 0, none⟩ 0 w2 fun w4 =>
    LdI .i64 ⟨b4, 0, none⟩ w4 fun r_0_1 =>
    LdI .i64 ⟨b4, 1, none⟩ w4 fun r_1_1 =>
    LdI .i64 ⟨b4, 2, none⟩ w4 fun r_2_1 =>
    LdI .i64 ⟨b4, 3, none⟩ w4 fun r_3_1 =>
    LdI .i64 ⟨b4, 4, none⟩ w4 fun r_4_1 =>
    LdI .i64 ⟨b4, 5, none⟩ w4 fun r_5_1 =>
    LdI .i64 ⟨b4, 6, none⟩ w4 fun r_6_1 =>
    LdB ⟨b4, 7, none⟩ w4 fun r_7_1 =>
    R r_0_1 r_1_1 r_2_1 r_3_1 r_4_1 r_5_1 r_6_1 r_7_1 (0 : Int) w4)
theorem sock_Table_Get.B0_eq (t : Option Addr) (sd : Int) (w : World)   (R : Int → Int → Int → Int → Int → Int → Int → Bool → Int → World → Prop)  :
    (
  New (.cells #[.int .i64 (0 : Int), .int .i64 (0 : Int), .int .i64 (0 : Int), .int .i64 (0 : Int), .int .i64 (0 : Int), .int .i64 (0 : Int), .int .i64 (0 : Int), .bool false] 40) w fun b4 w1 =>
  sock_Table_find.Call t sd w1 fun r9 w2 =>
  Bm (r9 == (-1 : Int)) (
    Sts [.int .i64 (0 : Int), .int .i64 (0 : Int), .int .i64 (0 : Int), .int .i64 (0 : Int), .int .i64 (0 : Int), .int .i64 (0 : Int), .int .i64 (0 : Int), .bool false] ⟨b4, 0, none⟩ 0 w2 fun w3 =>
    LdI .i64 ⟨b4, 0, none⟩ w3 fun r_0 =>
    LdI .i64 ⟨b4, 1, none⟩ w3 fun r_1 =>
    LdI .i64 ⟨b4, 2, none⟩ w3 fun r_2 =>
    LdI .i64 ⟨b4, 3, none⟩ w3 fun r_3 =>
    LdI .i64 ⟨b4, 4, none⟩ w3 fun r_4 =>
    LdI .i64 ⟨b4, 5, none⟩ w3 fun r_5 =>
    LdI .i64 ⟨b4, 6, none⟩ w3 fun r_6 =>
    LdB ⟨b4, 7, none⟩ w3 fun r_7 =>
    R r_0 r_1 r_2 r_3 r_4 r_5 r_6 r_7 (21 : Int) w3) (
    Pn t fun a =>
    (0 ≤ r9 ∧ r9 < ((6 : Nat) : Int)) ∧
    LdI .i64 ((Addr.add a (r9.toNat * 15)).add 1) w2 fun x19_0 =>
    LdI .i64 (((Addr.add a (r9.toNat * 15)).add 1).add 1) w2 fun x19_1 =>
    LdI .i64 (((Addr.add a (r9.toNat * 15)).add 1).add 2) w2 fun x19_2 =>
    LdI .i64 (((Addr.add a (r9.toNat * 15)).add 1).add 3) w2 fun x19_3 =>
    LdI .i64 (((Addr.add a (r9.toNat * 15)).add 1).add 4) w2 fun x19_4 =>
    LdI .i64 (((Addr.add a (r9.toNat * 15)).add 1).add 5) w2 fun x19_5 =>
    LdI .i64 (((Addr.add a (r9.toNat * 15)).add 1).add 6) w2 fun x19_6 =>
    LdB (((Addr.add a (r9.toNat * 15)).add 1).add 7) w2 fun x19_7 =>
    Sts [.int .i64 x19_0, .int .i64 x19_1, .int .i64 x19_2, .int .i64 x19_3, .int .i64 x19_4, .int .i64 x19_5, .int .i64 x19_6, .bool x19_7] ⟨b4, 0, none⟩ 0 w2 fun w4 =>
    LdI .i64 ⟨b4, 0, none⟩ w4 fun r_0_1 =>
    LdI .i64 ⟨b4, 1, none⟩ w4 fun r_1_1 =>
    LdI .i64 ⟨b4, 2, none⟩ w4 fun r_2_1 =>
    LdI .i64 ⟨b4, 3, none⟩ w4 fun r_3_1 =>
    LdI .i64 ⟨b4, 4, none⟩ w4 fun r_4_1 =>
    LdI .i64 ⟨b4, 5, none⟩ w4 fun r_5_1 =>
    LdI .i64 ⟨b4, 6, none⟩ w4 fun r_6_1 =>
    LdB ⟨b4, 7, none⟩ w4 fun r_7_1 =>
    R r_0_1 r_1_1 r_2_1 r_3_1 r_4_1 r_5_1 r_6_1 r_7_1 (0 : Int) w4)) = kstep Try.prog 20 Try.f35.results.toList (Try.f35.body.getD .skip) (sock_Table_Get.RV R) (kvc Try.prog 20 Try.f35.results.toList (Try.f35.body.getD .skip) (sock_Table_Get.RV R) [] 2000) [(0, [])] [(0, .pointer t), (1, .int .i64 sd)] w := by kernel_rfl
theorem sock_Table_Get.B0_sound {R : Int → Int → Int → Int → Int → Int → Int → Bool → Int → World → Prop}  (t : Option Addr) (sd : Int) (w : World) (h : sock_Table_Get.B0 t sd w   R) :
    KW Try.prog 35 20 (sock_Table_Get.RV R) ([(0, [])].map (toItem (Try.f35.body.getD .skip))) [(0, .pointer t), (1, .int .i64 sd)] w := by
  exact block_spec Try.func35 Try.mixed stops_nil (Eq.mp (sock_Table_Get.B0_eq t sd w   R ) h)
theorem sock_Table_Get.sound (t : Option Addr) (sd : Int) (w : World) (R : Int → Int → Int → Int → Int → Int → Int → Bool → Int → World → Prop) (h : sock_Table_Get.B0 t sd w R) : sock_Table_Get.Call t sd w R := by
  have hc := calls_of_block (args := #[.pointer t, .int .i64 sd]) Try.func35 (body := (Try.f35.body.getD .skip)) (by kernel_rfl) (by kernel_rfl) (args_slot _) (sock_Table_Get.B0_sound t sd w h)
  exact hc.mono fun e w' he => by
    obtain ⟨v, rfl, hv⟩ := he
    exact sock_Table_Get.RV_elim hv
def socklaw_SameEntry.B1 (a b : Nat) (t30 : Bool) (w : World)   (R : Bool → World → Prop) : Prop :=
  Bm t30 (
    R false w) (
    LdI .i64 ⟨a, 4, none⟩ w fun x32 =>
    LdI .i64 ⟨b, 4, none⟩ w fun x34 =>
    Bm (x32 == x34) (
      LdI .i64 ⟨a, 5, none⟩ w fun x38 =>
      LdI .i64 ⟨b, 5, none⟩ w fun x40 =>
      Bm (x38 == x40) (
        LdI .i64 ⟨a, 6, none⟩ w fun x45 =>
        LdI .i64 ⟨b, 6, none⟩ w fun x47 =>
        Bm (x45 == x47) (
          LdB ⟨a, 7, none⟩ w fun x52 =>
          LdB ⟨b, 7, none⟩ w fun x54 =>
          R (x52 == x54) w) (
          R false w)) (
        R false w)) (
      R false w))
theorem socklaw_SameEntry.B1_eq (a b : Nat) (t30 : Bool) (w : World)   (R : Bool → World → Prop)  :
    (
  Bm t30 (
    R false w) (
    LdI .i64 ⟨a, 4, none⟩ w fun x32 =>
    LdI .i64 ⟨b, 4, none⟩ w fun x34 =>
    Bm (x32 == x34) (
      LdI .i64 ⟨a, 5, none⟩ w fun x38 =>
      LdI .i64 ⟨b, 5, none⟩ w fun x40 =>
      Bm (x38 == x40) (
        LdI .i64 ⟨a, 6, none⟩ w fun x45 =>
        LdI .i64 ⟨b, 6, none⟩ w fun x47 =>
        Bm (x45 == x47) (
          LdB ⟨a, 7, none⟩ w fun x52 =>
          LdB ⟨b, 7, none⟩ w fun x54 =>
          R (x52 == x54) w) (
          R false w)) (
        R false w)) (
      R false w))) = kstep Try.prog 57 Try.f36.results.toList (Try.f36.body.getD .skip) (socklaw_SameEntry.RV R) (kvc Try.prog 57 Try.f36.results.toList (Try.f36.body.getD .skip) (socklaw_SameEntry.RV R) [] 2000) [(0, [1, 0, 1]), (0, [1, 1])] [(2, .pointer (some ⟨a, 0, none⟩)), (3, .pointer (some ⟨b, 0, none⟩)), (30, .bool t30)] w := by kernel_rfl
theorem socklaw_SameEntry.B1_sound {R : Bool → World → Prop}  (a b : Nat) (t30 : Bool) (w : World) (h : socklaw_SameEntry.B1 a b t30 w   R) :
    KW Try.prog 36 57 (socklaw_SameEntry.RV R) ([(0, [1, 0, 1]), (0, [1, 1])].map (toItem (Try.f36.body.getD .skip))) [(2, .pointer (some ⟨a, 0, none⟩)), (3, .pointer (some ⟨b, 0, none⟩)), (30, .bool t30)] w := by
  exact block_spec Try.func36 Try.mixed stops_nil (Eq.mp (socklaw_SameEntry.B1_eq a b t30 w   R ) h)
def socklaw_SameEntry.B0 (a_0 a_1 a_2 a_3 a_4 a_5 a_6 : Int) (a_7 : Bool) (b_0 b_1 b_2 b_3 b_4 b_5 b_6 : Int) (b_7 : Bool) (w : World)   (R : Bool → World → Prop) : Prop :=
  New (.cells #[.int .i64 a_0, .int .i64 a_1, .int .i64 a_2, .int .i64 a_3, .int .i64 a_4, .int .i64 a_5, .int .i64 a_6, .bool a_7] 40) w fun a_ w1 =>
  New (.cells #[.int .i64 b_0, .int .i64 b_1, .int .i64 b_2, .int .i64 b_3, .int .i64 b_4, .int .i64 b_5, .int .i64 b_6, .bool b_7] 40) w1 fun b_ w2 =>
  LdI .i64 ⟨a_, 0, none⟩ w2 fun x6 =>
  LdI .i64 ⟨b_, 0, none⟩ w2 fun x8 =>
  Bm (x6 != x8) (
    socklaw_SameEntry.B1 a_ b_ true w2  R) (
    LdI .i64 ⟨a_, 1, none⟩ w2 fun x12 =>
    LdI .i64 ⟨b_, 1, none⟩ w2 fun x14 =>
    Bm (x12 != x14) (
      socklaw_SameEntry.B1 a_ b_ true w2  R) (
      LdI .i64 ⟨a_, 2, none⟩ w2 fun x19 =>
      LdI .i64 ⟨b_, 2, none⟩ w2 fun x21 =>
      Bm (x19 != x21) (
        socklaw_SameEntry.B1 a_ b_ true w2  R) (
        LdI .i64 ⟨a_, 3, none⟩ w2 fun x26 =>
        LdI .i64 ⟨b_, 3, none⟩ w2 fun x28 =>
        socklaw_SameEntry.B1 a_ b_ (x26 != x28) w2  R)))
theorem socklaw_SameEntry.B0_eq (a_0 a_1 a_2 a_3 a_4 a_5 a_6 : Int) (a_7 : Bool) (b_0 b_1 b_2 b_3 b_4 b_5 b_6 : Int) (b_7 : Bool) (w : World)   (R : Bool → World → Prop) (sB1 : Nat → Nat → Bool → World → Prop) :
    (
  New (.cells #[.int .i64 a_0, .int .i64 a_1, .int .i64 a_2, .int .i64 a_3, .int .i64 a_4, .int .i64 a_5, .int .i64 a_6, .bool a_7] 40) w fun a_ w1 =>
  New (.cells #[.int .i64 b_0, .int .i64 b_1, .int .i64 b_2, .int .i64 b_3, .int .i64 b_4, .int .i64 b_5, .int .i64 b_6, .bool b_7] 40) w1 fun b_ w2 =>
  LdI .i64 ⟨a_, 0, none⟩ w2 fun x6 =>
  LdI .i64 ⟨b_, 0, none⟩ w2 fun x8 =>
  Bm (x6 != x8) (
    sB1 a_ b_ true w2) (
    LdI .i64 ⟨a_, 1, none⟩ w2 fun x12 =>
    LdI .i64 ⟨b_, 1, none⟩ w2 fun x14 =>
    Bm (x12 != x14) (
      sB1 a_ b_ true w2) (
      LdI .i64 ⟨a_, 2, none⟩ w2 fun x19 =>
      LdI .i64 ⟨b_, 2, none⟩ w2 fun x21 =>
      Bm (x19 != x21) (
        sB1 a_ b_ true w2) (
        LdI .i64 ⟨a_, 3, none⟩ w2 fun x26 =>
        LdI .i64 ⟨b_, 3, none⟩ w2 fun x28 =>
        sB1 a_ b_ (x26 != x28) w2)))) = kstep Try.prog 57 Try.f36.results.toList (Try.f36.body.getD .skip) (socklaw_SameEntry.RV R) (kvc Try.prog 57 Try.f36.results.toList (Try.f36.body.getD .skip) (socklaw_SameEntry.RV R) [([(0, [1, 0, 1]), (0, [1, 1])], fun σ w => dK (slotOf σ 2) fun a_ => dK (slotOf σ 3) fun b_ => dB (slotOf σ 30) fun t30_ => sB1 a_ b_ t30_ w)] 2000) [(0, [])] [(0, .agg #[.int .i64 a_0, .int .i64 a_1, .int .i64 a_2, .int .i64 a_3, .int .i64 a_4, .int .i64 a_5, .int .i64 a_6, .bool a_7]), (1, .agg #[.int .i64 b_0, .int .i64 b_1, .int .i64 b_2, .int .i64 b_3, .int .i64 b_4, .int .i64 b_5, .int .i64 b_6, .bool b_7])] w := by kernel_rfl
theorem socklaw_SameEntry.B0_sound {R : Bool → World → Prop}  (a_0 a_1 a_2 a_3 a_4 a_5 a_6 : Int) (a_7 : Bool) (b_0 b_1 b_2 b_3 b_4 b_5 b_6 : Int) (b_7 : Bool) (w : World) (h : socklaw_SameEntry.B0 a_0 a_1 a_2 a_3 a_4 a_5 a_6 a_7 b_0 b_1 b_2 b_3 b_4 b_5 b_6 b_7 w   R) :
    KW Try.prog 36 57 (socklaw_SameEntry.RV R) ([(0, [])].map (toItem (Try.f36.body.getD .skip))) [(0, .agg #[.int .i64 a_0, .int .i64 a_1, .int .i64 a_2, .int .i64 a_3, .int .i64 a_4, .int .i64 a_5, .int .i64 a_6, .bool a_7]), (1, .agg #[.int .i64 b_0, .int .i64 b_1, .int .i64 b_2, .int .i64 b_3, .int .i64 b_4, .int .i64 b_5, .int .i64 b_6, .bool b_7])] w := by
  exact block_spec Try.func36 Try.mixed (stops_cons (fun σ w h => by
      obtain ⟨a_, e0, h⟩ := dK_elim h
      obtain ⟨b_, e1, h⟩ := dK_elim h
      obtain ⟨t30_, e2, h⟩ := dB_elim h
      exact (socklaw_SameEntry.B1_sound  a_ b_ t30_ w h).weaken (Sub.cons (Sub.cons (Sub.cons (Sub.nil _) e2) e1) e0)) stops_nil) (Eq.mp (socklaw_SameEntry.B0_eq a_0 a_1 a_2 a_3 a_4 a_5 a_6 a_7 b_0 b_1 b_2 b_3 b_4 b_5 b_6 b_7 w   R (fun a_ b_ t30_ w => socklaw_SameEntry.B1 a_ b_ t30_ w  R)) h)
theorem socklaw_SameEntry.sound (a_0 a_1 a_2 a_3 a_4 a_5 a_6 : Int) (a_7 : Bool) (b_0 b_1 b_2 b_3 b_4 b_5 b_6 : Int) (b_7 : Bool) (w : World) (R : Bool → World → Prop) (h : socklaw_SameEntry.B0 a_0 a_1 a_2 a_3 a_4 a_5 a_6 a_7 b_0 b_1 b_2 b_3 b_4 b_5 b_6 b_7 w R) : socklaw_SameEntry.Call a_0 a_1 a_2 a_3 a_4 a_5 a_6 a_7 b_0 b_1 b_2 b_3 b_4 b_5 b_6 b_7 w R := by
  have hc := calls_of_block (args := #[.agg #[.int .i64 a_0, .int .i64 a_1, .int .i64 a_2, .int .i64 a_3, .int .i64 a_4, .int .i64 a_5, .int .i64 a_6, .bool a_7], .agg #[.int .i64 b_0, .int .i64 b_1, .int .i64 b_2, .int .i64 b_3, .int .i64 b_4, .int .i64 b_5, .int .i64 b_6, .bool b_7]]) Try.func36 (body := (Try.f36.body.getD .skip)) (by kernel_rfl) (by kernel_rfl) (args_slot _) (socklaw_SameEntry.B0_sound a_0 a_1 a_2 a_3 a_4 a_5 a_6 a_7 b_0 b_1 b_2 b_3 b_4 b_5 b_6 b_7 w h)
  exact hc.mono fun e w' he => by
    obtain ⟨v, rfl, hv⟩ := he
    exact socklaw_SameEntry.RV_elim hv
def sock_Table_rangesFine.L3b (t : Option Addr) (p : Int) (w : World)  (N3 : Option Addr → Int → World → Prop) (R : Bool → World → Prop) : Prop :=
  Bm (decide (p < (8 : Int))) (
    Pn t fun a =>
    (0 ≤ p ∧ p < ((8 : Nat) : Int)) ∧
    LdI .i64 (Addr.add (a.add 95) (p.toNat * 1)) w fun x67 =>
    sock_index.Call x67 w fun r68 w1 =>
    Bm (!r68) (
      R false w1) (
      N3 t (IntKind.i64.wrap (p + (1 : Int))) w1)) (
    R true w)
theorem sock_Table_rangesFine.L3b_eq (t : Option Addr) (p : Int) (w : World)  (N3 : Option Addr → Int → World → Prop) (R : Bool → World → Prop)  :
    (
  Bm (decide (p < (8 : Int))) (
    Pn t fun a =>
    (0 ≤ p ∧ p < ((8 : Nat) : Int)) ∧
    LdI .i64 (Addr.add (a.add 95) (p.toNat * 1)) w fun x67 =>
    sock_index.Call x67 w fun r68 w1 =>
    Bm (!r68) (
      R false w1) (
      N3 t (IntKind.i64.wrap (p + (1 : Int))) w1)) (
    R true w)) = kstep Try.prog 70 Try.f37.results.toList (Try.f37.body.getD .skip) (sock_Table_rangesFine.RV R) (kvc Try.prog 70 Try.f37.results.toList (Try.f37.body.getD .skip) (sock_Table_rangesFine.RV R) [([(0, [1, 1, 1, 1, 0, 1, 0, 0]), (2, [1, 1, 1, 1, 0, 1, 0, 0]), (1, [4]), (0, [1, 1, 1, 1, 1])], fun σ w => dP (slotOf σ 0) fun t_ => dI .i64 (slotOf σ 5) fun p_ => N3 t_ p_ w)] 2000) [(0, [1, 1, 1, 1, 0, 1, 0, 0]), (2, [1, 1, 1, 1, 0, 1, 0, 0]), (1, [4]), (0, [1, 1, 1, 1, 1])] [(0, .pointer t), (5, .int .i64 p)] w := by kernel_rfl
theorem sock_Table_rangesFine.L3b_sound {R : Bool → World → Prop} {N3 : Option Addr → Int → World → Prop} (hN3 : ∀ t p w, N3 t p w → KW Try.prog 37 70 (sock_Table_rangesFine.RV R) ([(0, [1, 1, 1, 1, 0, 1, 0, 0]), (2, [1, 1, 1, 1, 0, 1, 0, 0]), (1, [4]), (0, [1, 1, 1, 1, 1])].map (toItem (Try.f37.body.getD .skip))) [(0, .pointer t), (5, .int .i64 p)] w) (t : Option Addr) (p : Int) (w : World) (h : sock_Table_rangesFine.L3b t p w  N3 R) :
    KW Try.prog 37 70 (sock_Table_rangesFine.RV R) ([(0, [1, 1, 1, 1, 0, 1, 0, 0]), (2, [1, 1, 1, 1, 0, 1, 0, 0]), (1, [4]), (0, [1, 1, 1, 1, 1])].map (toItem (Try.f37.body.getD .skip))) [(0, .pointer t), (5, .int .i64 p)] w := by
  exact block_spec Try.func37 Try.mixed (stops_cons (fun σ w h => by
      obtain ⟨t_, e0, h⟩ := dP_elim h
      obtain ⟨p_, e1, h⟩ := dI_elim h
      exact (hN3 t_ p_ w h).weaken (Sub.cons (Sub.cons (Sub.nil _) e1) e0)) stops_nil) (Eq.mp (sock_Table_rangesFine.L3b_eq t p w  N3 R ) h)
def sock_Table_rangesFine.L3 (t : Option Addr) (p : Int) (w : World)  (R : Bool → World → Prop) : Prop :=
  ∃ (I : Nat → Option Addr → Int → World → Prop) (m : Nat), I m t p w ∧ ∀ m t p w, I m t p w → sock_Table_rangesFine.L3b t p w  (fun t' p' w' => ∃ m', m' < m ∧ I m' t' p' w') R
theorem sock_Table_rangesFine.L3_sound {R : Bool → World → Prop}  (t : Option Addr) (p : Int) (w : World) (h : sock_Table_rangesFine.L3 t p w  R) :
    KW Try.prog 37 70 (sock_Table_rangesFine.RV R) ([(0, [1, 1, 1, 1, 0, 1, 0, 0]), (2, [1, 1, 1, 1, 0, 1, 0, 0]), (1, [4]), (0, [1, 1, 1, 1, 1])].map (toItem (Try.f37.body.getD .skip))) [(0, .pointer t), (5, .int .i64 p)] w := by
  obtain ⟨I, m, hBase, hr⟩ := h
  refine KW.loop (fun m σ w => ∃ (t : Option Addr) (p : Int), σ = [(0, .pointer t), (5, .int .i64 p)] ∧ I m t p w) ?_ m _ w ⟨t, p, rfl, hBase⟩
  rintro m ih σ w ⟨t, p, rfl, hI⟩
  exact sock_Table_rangesFine.L3b_sound  (N3 := fun t' p' w' => ∃ m', m' < m ∧ I m' t' p' w') (fun t' p' w' hx => by obtain ⟨m', hlt, hI'⟩ := hx; exact ih m' hlt _ w' ⟨t', p', rfl, hI'⟩) t p w (hr m t p w hI)
def sock_Table_rangesFine.L2b (t : Option Addr) (b : Int) (w : World)  (N2 : Option Addr → Int → World → Prop) (R : Bool → World → Prop) : Prop :=
  Bm (decide (b < (4 : Int))) (
    Pn t fun a =>
    (0 ≤ b ∧ b < ((4 : Nat) : Int)) ∧
    LdI .i64 (Addr.add (a.add 91) (b.toNat * 1)) w fun x55 =>
    sock_index.Call x55 w fun r56 w1 =>
    Bm (!r56) (
      R false w1) (
      N2 t (IntKind.i64.wrap (b + (1 : Int))) w1)) (
    sock_Table_rangesFine.L3 t (0 : Int) w  R)
theorem sock_Table_rangesFine.L2b_eq (t : Option Addr) (b : Int) (w : World)  (N2 : Option Addr → Int → World → Prop) (R : Bool → World → Prop) (sL3 : Option Addr → Int → World → Prop) :
    (
  Bm (decide (b < (4 : Int))) (
    Pn t fun a =>
    (0 ≤ b ∧ b < ((4 : Nat) : Int)) ∧
    LdI .i64 (Addr.add (a.add 91) (b.toNat * 1)) w fun x55 =>
    sock_index.Call x55 w fun r56 w1 =>
    Bm (!r56) (
      R false w1) (
      N2 t (IntKind.i64.wrap (b + (1 : Int))) w1)) (
    sL3 t (0 : Int) w)) = kstep Try.prog 70 Try.f37.results.toList (Try.f37.body.getD .skip) (sock_Table_rangesFine.RV R) (kvc Try.prog 70 Try.f37.results.toList (Try.f37.body.getD .skip) (sock_Table_rangesFine.RV R) [([(0, [1, 1, 1, 0, 1, 0, 0]), (2, [1, 1, 1, 0, 1, 0, 0]), (1, [2]), (0, [1, 1, 1, 1])], fun σ w => dP (slotOf σ 0) fun t_ => dI .i64 (slotOf σ 4) fun b_ => N2 t_ b_ w),
    ([(0, [1, 1, 1, 1, 0, 1, 0, 0]), (2, [1, 1, 1, 1, 0, 1, 0, 0]), (1, [4]), (0, [1, 1, 1, 1, 1])], fun σ w => dP (slotOf σ 0) fun t_ => dI .i64 (slotOf σ 5) fun p_ => sL3 t_ p_ w)] 2000) [(0, [1, 1, 1, 0, 1, 0, 0]), (2, [1, 1, 1, 0, 1, 0, 0]), (1, [2]), (0, [1, 1, 1, 1])] [(0, .pointer t), (4, .int .i64 b)] w := by kernel_rfl
theorem sock_Table_rangesFine.L2b_sound {R : Bool → World → Prop} {N2 : Option Addr → Int → World → Prop} (hN2 : ∀ t b w, N2 t b w → KW Try.prog 37 70 (sock_Table_rangesFine.RV R) ([(0, [1, 1, 1, 0, 1, 0, 0]), (2, [1, 1, 1, 0, 1, 0, 0]), (1, [2]), (0, [1, 1, 1, 1])].map (toItem (Try.f37.body.getD .skip))) [(0, .pointer t), (4, .int .i64 b)] w) (t : Option Addr) (b : Int) (w : World) (h : sock_Table_rangesFine.L2b t b w  N2 R) :
    KW Try.prog 37 70 (sock_Table_rangesFine.RV R) ([(0, [1, 1, 1, 0, 1, 0, 0]), (2, [1, 1, 1, 0, 1, 0, 0]), (1, [2]), (0, [1, 1, 1, 1])].map (toItem (Try.f37.body.getD .skip))) [(0, .pointer t), (4, .int .i64 b)] w := by
  exact block_spec Try.func37 Try.mixed (stops_cons (fun σ w h => by
      obtain ⟨t_, e0, h⟩ := dP_elim h
      obtain ⟨b_, e1, h⟩ := dI_elim h
      exact (hN2 t_ b_ w h).weaken (Sub.cons (Sub.cons (Sub.nil _) e1) e0)) (stops_cons (fun σ w h => by
      obtain ⟨t_, e0, h⟩ := dP_elim h
      obtain ⟨p_, e1, h⟩ := dI_elim h
      exact (sock_Table_rangesFine.L3_sound  t_ p_ w h).weaken (Sub.cons (Sub.cons (Sub.nil _) e1) e0)) stops_nil)) (Eq.mp (sock_Table_rangesFine.L2b_eq t b w  N2 R (fun t_ p_ w => sock_Table_rangesFine.L3 t_ p_ w  R)) h)
def sock_Table_rangesFine.L2 (t : Option Addr) (b : Int) (w : World)  (R : Bool → World → Prop) : Prop :=
  ∃ (I : Nat → Option Addr → Int → World → Prop) (m : Nat), I m t b w ∧ ∀ m t b w, I m t b w → sock_Table_rangesFine.L2b t b w  (fun t' b' w' => ∃ m', m' < m ∧ I m' t' b' w') R
theorem sock_Table_rangesFine.L2_sound {R : Bool → World → Prop}  (t : Option Addr) (b : Int) (w : World) (h : sock_Table_rangesFine.L2 t b w  R) :
    KW Try.prog 37 70 (sock_Table_rangesFine.RV R) ([(0, [1, 1, 1, 0, 1, 0, 0]), (2, [1, 1, 1, 0, 1, 0, 0]), (1, [2]), (0, [1, 1, 1, 1])].map (toItem (Try.f37.body.getD .skip))) [(0, .pointer t), (4, .int .i64 b)] w := by
  obtain ⟨I, m, hBase, hr⟩ := h
  refine KW.loop (fun m σ w => ∃ (t : Option Addr) (b : Int), σ = [(0, .pointer t), (4, .int .i64 b)] ∧ I m t b w) ?_ m _ w ⟨t, b, rfl, hBase⟩
  rintro m ih σ w ⟨t, b, rfl, hI⟩
  exact sock_Table_rangesFine.L2b_sound  (N2 := fun t' b' w' => ∃ m', m' < m ∧ I m' t' b' w') (fun t' b' w' hx => by obtain ⟨m', hlt, hI'⟩ := hx; exact ih m' hlt _ w' ⟨t', b', rfl, hI'⟩) t b w (hr m t b w hI)
def sock_Table_rangesFine.L1b (t : Option Addr) (i : Int) (w : World)  (N1 : Option Addr → Int → World → Prop) (R : Bool → World → Prop) : Prop :=
  Bm (decide (i < (6 : Int))) (
    Pn t fun a =>
    (0 ≤ i ∧ i < ((6 : Nat) : Int)) ∧
    LdI .i64 ((Addr.add a (i.toNat * 15)).add 9) w fun x43 =>
    sock_index.Call x43 w fun r44 w1 =>
    Bm (!r44) (
      R false w1) (
      N1 t (IntKind.i64.wrap (i + (1 : Int))) w1)) (
    sock_Table_rangesFine.L2 t (0 : Int) w  R)
theorem sock_Table_rangesFine.L1b_eq (t : Option Addr) (i : Int) (w : World)  (N1 : Option Addr → Int → World → Prop) (R : Bool → World → Prop) (sL2 : Option Addr → Int → World → Prop) :
    (
  Bm (decide (i < (6 : Int))) (
    Pn t fun a =>
    (0 ≤ i ∧ i < ((6 : Nat) : Int)) ∧
    LdI .i64 ((Addr.add a (i.toNat * 15)).add 9) w fun x43 =>
    sock_index.Call x43 w fun r44 w1 =>
    Bm (!r44) (
      R false w1) (
      N1 t (IntKind.i64.wrap (i + (1 : Int))) w1)) (
    sL2 t (0 : Int) w)) = kstep Try.prog 70 Try.f37.results.toList (Try.f37.body.getD .skip) (sock_Table_rangesFine.RV R) (kvc Try.prog 70 Try.f37.results.toList (Try.f37.body.getD .skip) (sock_Table_rangesFine.RV R) [([(0, [1, 1, 0, 1, 0, 0]), (2, [1, 1, 0, 1, 0, 0]), (1, [0]), (0, [1, 1, 1])], fun σ w => dP (slotOf σ 0) fun t_ => dI .i64 (slotOf σ 3) fun i_ => N1 t_ i_ w),
    ([(0, [1, 1, 1, 0, 1, 0, 0]), (2, [1, 1, 1, 0, 1, 0, 0]), (1, [2]), (0, [1, 1, 1, 1])], fun σ w => dP (slotOf σ 0) fun t_ => dI .i64 (slotOf σ 4) fun b_ => sL2 t_ b_ w)] 2000) [(0, [1, 1, 0, 1, 0, 0]), (2, [1, 1, 0, 1, 0, 0]), (1, [0]), (0, [1, 1, 1])] [(0, .pointer t), (3, .int .i64 i)] w := by kernel_rfl
theorem sock_Table_rangesFine.L1b_sound {R : Bool → World → Prop} {N1 : Option Addr → Int → World → Prop} (hN1 : ∀ t i w, N1 t i w → KW Try.prog 37 70 (sock_Table_rangesFine.RV R) ([(0, [1, 1, 0, 1, 0, 0]), (2, [1, 1, 0, 1, 0, 0]), (1, [0]), (0, [1, 1, 1])].map (toItem (Try.f37.body.getD .skip))) [(0, .pointer t), (3, .int .i64 i)] w) (t : Option Addr) (i : Int) (w : World) (h : sock_Table_rangesFine.L1b t i w  N1 R) :
    KW Try.prog 37 70 (sock_Table_rangesFine.RV R) ([(0, [1, 1, 0, 1, 0, 0]), (2, [1, 1, 0, 1, 0, 0]), (1, [0]), (0, [1, 1, 1])].map (toItem (Try.f37.body.getD .skip))) [(0, .pointer t), (3, .int .i64 i)] w := by
  exact block_spec Try.func37 Try.mixed (stops_cons (fun σ w h => by
      obtain ⟨t_, e0, h⟩ := dP_elim h
      obtain ⟨i_, e1, h⟩ := dI_elim h
      exact (hN1 t_ i_ w h).weaken (Sub.cons (Sub.cons (Sub.nil _) e1) e0)) (stops_cons (fun σ w h => by
      obtain ⟨t_, e0, h⟩ := dP_elim h
      obtain ⟨b_, e1, h⟩ := dI_elim h
      exact (sock_Table_rangesFine.L2_sound  t_ b_ w h).weaken (Sub.cons (Sub.cons (Sub.nil _) e1) e0)) stops_nil)) (Eq.mp (sock_Table_rangesFine.L1b_eq t i w  N1 R (fun t_ b_ w => sock_Table_rangesFine.L2 t_ b_ w  R)) h)
def sock_Table_rangesFine.L1 (t : Option Addr) (i : Int) (w : World)  (R : Bool → World → Prop) : Prop :=
  ∃ (I : Nat → Option Addr → Int → World → Prop) (m : Nat), I m t i w ∧ ∀ m t i w, I m t i w → sock_Table_rangesFine.L1b t i w  (fun t' i' w' => ∃ m', m' < m ∧ I m' t' i' w') R
theorem sock_Table_rangesFine.L1_sound {R : Bool → World → Prop}  (t : Option Addr) (i : Int) (w : World) (h : sock_Table_rangesFine.L1 t i w  R) :
    KW Try.prog 37 70 (sock_Table_rangesFine.RV R) ([(0, [1, 1, 0, 1, 0, 0]), (2, [1, 1, 0, 1, 0, 0]), (1, [0]), (0, [1, 1, 1])].map (toItem (Try.f37.body.getD .skip))) [(0, .pointer t), (3, .int .i64 i)] w := by
  obtain ⟨I, m, hBase, hr⟩ := h
  refine KW.loop (fun m σ w => ∃ (t : Option Addr) (i : Int), σ = [(0, .pointer t), (3, .int .i64 i)] ∧ I m t i w) ?_ m _ w ⟨t, i, rfl, hBase⟩
  rintro m ih σ w ⟨t, i, rfl, hI⟩
  exact sock_Table_rangesFine.L1b_sound  (N1 := fun t' i' w' => ∃ m', m' < m ∧ I m' t' i' w') (fun t' i' w' hx => by obtain ⟨m', hlt, hI'⟩ := hx; exact ih m' hlt _ w' ⟨t', i', rfl, hI'⟩) t i w (hr m t i w hI)
def sock_Table_rangesFine.B1 (t : Option Addr) (t32 : Bool) (w : World)   (R : Bool → World → Prop) : Prop :=
  Bm t32 (
    R false w) (
    sock_Table_rangesFine.L1 t (0 : Int) w  R)
theorem sock_Table_rangesFine.B1_eq (t : Option Addr) (t32 : Bool) (w : World)   (R : Bool → World → Prop) (sL1 : Option Addr → Int → World → Prop) :
    (
  Bm t32 (
    R false w) (
    sL1 t (0 : Int) w)) = kstep Try.prog 70 Try.f37.results.toList (Try.f37.body.getD .skip) (sock_Table_rangesFine.RV R) (kvc Try.prog 70 Try.f37.results.toList (Try.f37.body.getD .skip) (sock_Table_rangesFine.RV R) [([(0, [1, 1, 0, 1, 0, 0]), (2, [1, 1, 0, 1, 0, 0]), (1, [0]), (0, [1, 1, 1])], fun σ w => dP (slotOf σ 0) fun t_ => dI .i64 (slotOf σ 3) fun i_ => sL1 t_ i_ w)] 2000) [(0, [1, 0, 1]), (0, [1, 1])] [(0, .pointer t), (32, .bool t32)] w := by kernel_rfl
theorem sock_Table_rangesFine.B1_sound {R : Bool → World → Prop}  (t : Option Addr) (t32 : Bool) (w : World) (h : sock_Table_rangesFine.B1 t t32 w   R) :
    KW Try.prog 37 70 (sock_Table_rangesFine.RV R) ([(0, [1, 0, 1]), (0, [1, 1])].map (toItem (Try.f37.body.getD .skip))) [(0, .pointer t), (32, .bool t32)] w := by
  exact block_spec Try.func37 Try.mixed (stops_cons (fun σ w h => by
      obtain ⟨t_, e0, h⟩ := dP_elim h
      obtain ⟨i_, e1, h⟩ := dI_elim h
      exact (sock_Table_rangesFine.L1_sound  t_ i_ w h).weaken (Sub.cons (Sub.cons (Sub.nil _) e1) e0)) stops_nil) (Eq.mp (sock_Table_rangesFine.B1_eq t t32 w   R (fun t_ i_ w => sock_Table_rangesFine.L1 t_ i_ w  R)) h)
def sock_Table_rangesFine.B0 (t : Option Addr) (w : World)   (R : Bool → World → Prop) : Prop :=
  Pn t fun a =>
  LdI .i64 (a.add 90) w fun x9 =>
  sock_index.Call x9 w fun r10 w1 =>
  Bm (!r10) (
    sock_Table_rangesFine.B1 t true w1  R) (
    Pn t fun a_1 =>
    LdI .i64 (a_1.add 106) w1 fun x16 =>
    Bm (decide (x16 < (8 : Int))) (
      sock_Table_rangesFine.B1 t true w1  R) (
      Pn t fun a_2 =>
      LdI .i64 (a_2.add 106) w1 fun x23 =>
      Bm (decide (x23 > (15 : Int))) (
        sock_Table_rangesFine.B1 t true w1  R) (
        Pn t fun a_3 =>
        LdI .i64 (a_3.add 105) w1 fun x30 =>
        sock_Table_rangesFine.B1 t (decide (x30 < (1 : Int))) w1  R)))
theorem sock_Table_rangesFine.B0_eq (t : Option Addr) (w : World)   (R : Bool → World → Prop) (sB1 : Option Addr → Bool → World → Prop) :
    (
  Pn t fun a =>
  LdI .i64 (a.add 90) w fun x9 =>
  sock_index.Call x9 w fun r10 w1 =>
  Bm (!r10) (
    sB1 t true w1) (
    Pn t fun a_1 =>
    LdI .i64 (a_1.add 106) w1 fun x16 =>
    Bm (decide (x16 < (8 : Int))) (
      sB1 t true w1) (
      Pn t fun a_2 =>
      LdI .i64 (a_2.add 106) w1 fun x23 =>
      Bm (decide (x23 > (15 : Int))) (
        sB1 t true w1) (
        Pn t fun a_3 =>
        LdI .i64 (a_3.add 105) w1 fun x30 =>
        sB1 t (decide (x30 < (1 : Int))) w1)))) = kstep Try.prog 70 Try.f37.results.toList (Try.f37.body.getD .skip) (sock_Table_rangesFine.RV R) (kvc Try.prog 70 Try.f37.results.toList (Try.f37.body.getD .skip) (sock_Table_rangesFine.RV R) [([(0, [1, 0, 1]), (0, [1, 1])], fun σ w => dP (slotOf σ 0) fun t_ => dB (slotOf σ 32) fun t32_ => sB1 t_ t32_ w)] 2000) [(0, [])] [(0, .pointer t)] w := by kernel_rfl
theorem sock_Table_rangesFine.B0_sound {R : Bool → World → Prop}  (t : Option Addr) (w : World) (h : sock_Table_rangesFine.B0 t w   R) :
    KW Try.prog 37 70 (sock_Table_rangesFine.RV R) ([(0, [])].map (toItem (Try.f37.body.getD .skip))) [(0, .pointer t)] w := by
  exact block_spec Try.func37 Try.mixed (stops_cons (fun σ w h => by
      obtain ⟨t_, e0, h⟩ := dP_elim h
      obtain ⟨t32_, e1, h⟩ := dB_elim h
      exact (sock_Table_rangesFine.B1_sound  t_ t32_ w h).weaken (Sub.cons (Sub.cons (Sub.nil _) e1) e0)) stops_nil) (Eq.mp (sock_Table_rangesFine.B0_eq t w   R (fun t_ t32_ w => sock_Table_rangesFine.B1 t_ t32_ w  R)) h)
theorem sock_Table_rangesFine.sound (t : Option Addr) (w : World) (R : Bool → World → Prop) (h : sock_Table_rangesFine.B0 t w R) : sock_Table_rangesFine.Call t w R := by
  have hc := calls_of_block (args := #[.pointer t]) Try.func37 (body := (Try.f37.body.getD .skip)) (by kernel_rfl) (by kernel_rfl) (args_slot _) (sock_Table_rangesFine.B0_sound t w h)
  exact hc.mono fun e w' he => by
    obtain ⟨v, rfl, hv⟩ := he
    exact sock_Table_rangesFine.RV_elim hv
end Go.Proofs.Qxb6500427a
