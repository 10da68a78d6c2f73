import Derived.Test.Qxb6500426aSig
set_option maxRecDepth 100000
set_option linter.unusedVariables false
open Go.Vc
namespace Go.Proofs.Qxb6500426a
def seglaw_World_Keeps.B3 (w0 : Option Addr) (win : Int) (ah_b : Option Addr) (ah_l ah_c : Nat) (held d : Int) (t131 : Bool) (w : World) (N1 : Option Addr → Int → Option Addr → Nat → Nat → Int → Int → World → Prop)  (R : Bool → World → Prop) : Prop :=
  Bm t131 (
    R false w) (
    N1 w0 win ah_b ah_l ah_c (IntKind.i64.wrap (held + (1 : Int))) (IntKind.i64.wrap (d + (1 : Int))) w)
theorem seglaw_World_Keeps.B3_eq (w0 : Option Addr) (win : Int) (ah_b : Option Addr) (ah_l ah_c : Nat) (held d : Int) (t131 : Bool) (w : World) (N1 : Option Addr → Int → Option Addr → Nat → Nat → Int → Int → World → Prop)  (R : Bool → World → Prop)  :
    (
  Bm t131 (
    R false w) (
    N1 w0 win ah_b ah_l ah_c (IntKind.i64.wrap (held + (1 : Int))) (IntKind.i64.wrap (d + (1 : Int))) w)) = kstep Try.prog 141 Try.f19.results.toList (Try.f19.body.getD .skip) (seglaw_World_Keeps.RV R) (kvc Try.prog 141 Try.f19.results.toList (Try.f19.body.getD .skip) (seglaw_World_Keeps.RV R) [([(0, [1, 1, 1, 1, 1, 1, 1, 1, 1, 1, 1, 1, 1, 1, 1, 1, 1, 0, 1, 0, 0]), (2, [1, 1, 1, 1, 1, 1, 1, 1, 1, 1, 1, 1, 1, 1, 1, 1, 1, 0, 1, 0, 0]), (1, [0]), (0, [1, 1, 1, 1, 1, 1, 1, 1, 1, 1, 1, 1, 1, 1, 1, 1, 1, 1])], fun σ w => dP (slotOf σ 0) fun w0_ => dI .i64 (slotOf σ 9) fun win_ => dL (slotOf σ 11) fun ah_b_ ah_l_ ah_c_ => dI .i64 (slotOf σ 12) fun held_ => dI .i64 (slotOf σ 13) fun d_ => N1 w0_ win_ ah_b_ ah_l_ ah_c_ held_ d_ w)] 2000) [(0, [1, 1, 1, 1, 1, 1, 1, 1, 1, 1, 1, 1, 1, 1, 1, 1, 1, 0, 1, 0, 0, 1, 0, 0, 1, 0, 0, 1]), (0, [1, 1, 1, 1, 1, 1, 1, 1, 1, 1, 1, 1, 1, 1, 1, 1, 1, 0, 1, 0, 0, 1, 0, 0, 1, 0, 1]), (1, [1]), (0, [1, 1, 1, 1, 1, 1, 1, 1, 1, 1, 1, 1, 1, 1, 1, 1, 1, 0, 1, 0, 0, 1, 1]), (2, [1, 1, 1, 1, 1, 1, 1, 1, 1, 1, 1, 1, 1, 1, 1, 1, 1, 0, 1, 0, 0]), (1, [0]), (0, [1, 1, 1, 1, 1, 1, 1, 1, 1, 1, 1, 1, 1, 1, 1, 1, 1, 1])] [(0, .pointer w0), (9, .int .i64 win), (11, .slice ah_b ah_l ah_c), (12, .int .i64 held), (13, .int .i64 d), (131, .bool t131)] w := by kernel_rfl
theorem seglaw_World_Keeps.B3_sound {R : Bool → World → Prop} {N1 : Option Addr → Int → Option Addr → Nat → Nat → Int → Int → World → Prop} (hN1 : ∀ w0 win ah_b ah_l ah_c held d w, N1 w0 win ah_b ah_l ah_c held d w → KW Try.prog 19 141 (seglaw_World_Keeps.RV R) ([(0, [1, 1, 1, 1, 1, 1, 1, 1, 1, 1, 1, 1, 1, 1, 1, 1, 1, 0, 1, 0, 0]), (2, [1, 1, 1, 1, 1, 1, 1, 1, 1, 1, 1, 1, 1, 1, 1, 1, 1, 0, 1, 0, 0]), (1, [0]), (0, [1, 1, 1, 1, 1, 1, 1, 1, 1, 1, 1, 1, 1, 1, 1, 1, 1, 1])].map (toItem (Try.f19.body.getD .skip))) [(0, .pointer w0), (9, .int .i64 win), (11, .slice ah_b ah_l ah_c), (12, .int .i64 held), (13, .int .i64 d)] w) (w0 : Option Addr) (win : Int) (ah_b : Option Addr) (ah_l ah_c : Nat) (held d : Int) (t131 : Bool) (w : World) (h : seglaw_World_Keeps.B3 w0 win ah_b ah_l ah_c held d t131 w N1  R) :
    KW Try.prog 19 141 (seglaw_World_Keeps.RV R) ([(0, [1, 1, 1, 1, 1, 1, 1, 1, 1, 1, 1, 1, 1, 1, 1, 1, 1, 0, 1, 0, 0, 1, 0, 0, 1, 0, 0, 1]), (0, [1, 1, 1, 1, 1, 1, 1, 1, 1, 1, 1, 1, 1, 1, 1, 1, 1, 0, 1, 0, 0, 1, 0, 0, 1, 0, 1]), (1, [1]), (0, [1, 1, 1, 1, 1, 1, 1, 1, 1, 1, 1, 1, 1, 1, 1, 1, 1, 0, 1, 0, 0, 1, 1]), (2, [1, 1, 1, 1, 1, 1, 1, 1, 1, 1, 1, 1, 1, 1, 1, 1, 1, 0, 1, 0, 0]), (1, [0]), (0, [1, 1, 1, 1, 1, 1, 1, 1, 1, 1, 1, 1, 1, 1, 1, 1, 1, 1])].map (toItem (Try.f19.body.getD .skip))) [(0, .pointer w0), (9, .int .i64 win), (11, .slice ah_b ah_l ah_c), (12, .int .i64 held), (13, .int .i64 d), (131, .bool t131)] w := by
  exact block_spec Try.func19 Try.mixed (stops_cons (fun σ w h => by
      obtain ⟨w0_, e0, h⟩ := dP_elim h
      obtain ⟨win_, e1, h⟩ := dI_elim h
      obtain ⟨ah_b_, ah_l_, ah_c_, e2, h⟩ := dL_elim h
      obtain ⟨held_, e3, h⟩ := dI_elim h
      obtain ⟨d_, e4, h⟩ := dI_elim h
      exact (hN1 w0_ win_ ah_b_ ah_l_ ah_c_ held_ d_ w h).weaken (Sub.cons (Sub.cons (Sub.cons (Sub.cons (Sub.cons (Sub.nil _) e4) e3) e2) e1) e0)) stops_nil) (Eq.mp (seglaw_World_Keeps.B3_eq w0 win ah_b ah_l ah_c held d t131 w N1  R ) h)
def seglaw_World_Keeps.L1b (w0 : Option Addr) (win : Int) (ah_b : Option Addr) (ah_l ah_c : Nat) (held d : Int) (w : World)  (N1 : Option Addr → Int → Option Addr → Nat → Nat → Int → Int → World → Prop) (R : Bool → World → Prop) : Prop :=
  Bm (decide (d < ((ah_l : Nat) : Int))) (
    Pn ah_b fun a =>
    (0 ≤ d ∧ d < ((ah_l : Nat) : Int)) ∧
    LdI .i64 (Addr.add a (d.toNat * 1)) w fun x109 =>
    Bm (x109 != (-1 : Int)) (
      Bm (d == (0 : Int)) (
        seglaw_World_Keeps.B3 w0 win ah_b ah_l ah_c held d true w N1 R) (
        Bm (decide (d ≥ win)) (
          seglaw_World_Keeps.B3 w0 win ah_b ah_l ah_c held d true w N1 R) (
          Pn ah_b fun a_1 =>
          (0 ≤ d ∧ d < ((ah_l : Nat) : Int)) ∧
          LdI .i64 (Addr.add a_1 (d.toNat * 1)) w fun x122 =>
          Bm (decide (x122 < (0 : Int))) (
            seglaw_World_Keeps.B3 w0 win ah_b ah_l ah_c held d true w N1 R) (
            Pn ah_b fun a_2 =>
            (0 ≤ d ∧ d < ((ah_l : Nat) : Int)) ∧
            LdI .i64 (Addr.add a_2 (d.toNat * 1)) w fun x129 =>
            seglaw_World_Keeps.B3 w0 win ah_b ah_l ah_c held d (decide (x129 > (255 : Int))) w N1 R)))) (
      N1 w0 win ah_b ah_l ah_c held (IntKind.i64.wrap (d + (1 : Int))) w)) (
    Pn w0 fun a_3 =>
    LdP (a_3.add 3) w fun x138 =>
    segm_RecvBuf_Held.Call x138 w fun r139 w1 =>
    R (held == r139) w1)
theorem seglaw_World_Keeps.L1b_eq (w0 : Option Addr) (win : Int) (ah_b : Option Addr) (ah_l ah_c : Nat) (held d : Int) (w : World)  (N1 : Option Addr → Int → Option Addr → Nat → Nat → Int → Int → World → Prop) (R : Bool → World → Prop) (sB3 : Option Addr → Int → Option Addr → Nat → Nat → Int → Int → Bool → World → Prop) :
    (
  Bm (decide (d < ((ah_l : Nat) : Int))) (
    Pn ah_b fun a =>
    (0 ≤ d ∧ d < ((ah_l : Nat) : Int)) ∧
    LdI .i64 (Addr.add a (d.toNat * 1)) w fun x109 =>
    Bm (x109 != (-1 : Int)) (
      Bm (d == (0 : Int)) (
        sB3 w0 win ah_b ah_l ah_c held d true w) (
        Bm (decide (d ≥ win)) (
          sB3 w0 win ah_b ah_l ah_c held d true w) (
          Pn ah_b fun a_1 =>
          (0 ≤ d ∧ d < ((ah_l : Nat) : Int)) ∧
          LdI .i64 (Addr.add a_1 (d.toNat * 1)) w fun x122 =>
          Bm (decide (x122 < (0 : Int))) (
            sB3 w0 win ah_b ah_l ah_c held d true w) (
            Pn ah_b fun a_2 =>
            (0 ≤ d ∧ d < ((ah_l : Nat) : Int)) ∧
            LdI .i64 (Addr.add a_2 (d.toNat * 1)) w fun x129 =>
            sB3 w0 win ah_b ah_l ah_c held d (decide (x129 > (255 : Int))) w)))) (
      N1 w0 win ah_b ah_l ah_c held (IntKind.i64.wrap (d + (1 : Int))) w)) (
    Pn w0 fun a_3 =>
    LdP (a_3.add 3) w fun x138 =>
    segm_RecvBuf_Held.Call x138 w fun r139 w1 =>
    R (held == r139) w1)) = kstep Try.prog 141 Try.f19.results.toList (Try.f19.body.getD .skip) (seglaw_World_Keeps.RV R) (kvc Try.prog 141 Try.f19.results.toList (Try.f19.body.getD .skip) (seglaw_World_Keeps.RV R) [([(0, [1, 1, 1, 1, 1, 1, 1, 1, 1, 1, 1, 1, 1, 1, 1, 1, 1, 0, 1, 0, 0, 1, 0, 0, 1, 0, 0, 1]), (0, [1, 1, 1, 1, 1, 1, 1, 1, 1, 1, 1, 1, 1, 1, 1, 1, 1, 0, 1, 0, 0, 1, 0, 0, 1, 0, 1]), (1, [1]), (0, [1, 1, 1, 1, 1, 1, 1, 1, 1, 1, 1, 1, 1, 1, 1, 1, 1, 0, 1, 0, 0, 1, 1]), (2, [1, 1, 1, 1, 1, 1, 1, 1, 1, 1, 1, 1, 1, 1, 1, 1, 1, 0, 1, 0, 0]), (1, [0]), (0, [1, 1, 1, 1, 1, 1, 1, 1, 1, 1, 1, 1, 1, 1, 1, 1, 1, 1])], fun σ w => dP (slotOf σ 0) fun w0_ => dI .i64 (slotOf σ 9) fun win_ => dL (slotOf σ 11) fun ah_b_ ah_l_ ah_c_ => dI .i64 (slotOf σ 12) fun held_ => dI .i64 (slotOf σ 13) fun d_ => dB (slotOf σ 131) fun t131_ => sB3 w0_ win_ ah_b_ ah_l_ ah_c_ held_ d_ t131_ w),
    ([(0, [1, 1, 1, 1, 1, 1, 1, 1, 1, 1, 1, 1, 1, 1, 1, 1, 1, 0, 1, 0, 0]), (2, [1, 1, 1, 1, 1, 1, 1, 1, 1, 1, 1, 1, 1, 1, 1, 1, 1, 0, 1, 0, 0]), (1, [0]), (0, [1, 1, 1, 1, 1, 1, 1, 1, 1, 1, 1, 1, 1, 1, 1, 1, 1, 1])], fun σ w => dP (slotOf σ 0) fun w0_ => dI .i64 (slotOf σ 9) fun win_ => dL (slotOf σ 11) fun ah_b_ ah_l_ ah_c_ => dI .i64 (slotOf σ 12) fun held_ => dI .i64 (slotOf σ 13) fun d_ => N1 w0_ win_ ah_b_ ah_l_ ah_c_ held_ d_ w)] 2000) [(0, [1, 1, 1, 1, 1, 1, 1, 1, 1, 1, 1, 1, 1, 1, 1, 1, 1, 0, 1, 0, 0]), (2, [1, 1, 1, 1, 1, 1, 1, 1, 1, 1, 1, 1, 1, 1, 1, 1, 1, 0, 1, 0, 0]), (1, [0]), (0, [1, 1, 1, 1, 1, 1, 1, 1, 1, 1, 1, 1, 1, 1, 1, 1, 1, 1])] [(0, .pointer w0), (9, .int .i64 win), (11, .slice ah_b ah_l ah_c), (12, .int .i64 held), (13, .int .i64 d)] w := by kernel_rfl
theorem seglaw_World_Keeps.L1b_sound {R : Bool → World → Prop} {N1 : Option Addr → Int → Option Addr → Nat → Nat → Int → Int → World → Prop} (hN1 : ∀ w0 win ah_b ah_l ah_c held d w, N1 w0 win ah_b ah_l ah_c held d w → KW Try.prog 19 141 (seglaw_World_Keeps.RV R) ([(0, [1, 1, 1, 1, 1, 1, 1, 1, 1, 1, 1, 1, 1, 1, 1, 1, 1, 0, 1, 0, 0]), (2, [1, 1, 1, 1, 1, 1, 1, 1, 1, 1, 1, 1, 1, 1, 1, 1, 1, 0, 1, 0, 0]), (1, [0]), (0, [1, 1, 1, 1, 1, 1, 1, 1, 1, 1, 1, 1, 1, 1, 1, 1, 1, 1])].map (toItem (Try.f19.body.getD .skip))) [(0, .pointer w0), (9, .int .i64 win), (11, .slice ah_b ah_l ah_c), (12, .int .i64 held), (13, .int .i64 d)] w) (w0 : Option Addr) (win : Int) (ah_b : Option Addr) (ah_l ah_c : Nat) (held d : Int) (w : World) (h : seglaw_World_Keeps.L1b w0 win ah_b ah_l ah_c held d w  N1 R) :
    KW Try.prog 19 141 (seglaw_World_Keeps.RV R) ([(0, [1, 1, 1, 1, 1, 1, 1, 1, 1, 1, 1, 1, 1, 1, 1, 1, 1, 0, 1, 0, 0]), (2, [1, 1, 1, 1, 1, 1, 1, 1, 1, 1, 1, 1, 1, 1, 1, 1, 1, 0, 1, 0, 0]), (1, [0]), (0, [1, 1, 1, 1, 1, 1, 1, 1, 1, 1, 1, 1, 1, 1, 1, 1, 1, 1])].map (toItem (Try.f19.body.getD .skip))) [(0, .pointer w0), (9, .int .i64 win), (11, .slice ah_b ah_l ah_c), (12, .int .i64 held), (13, .int .i64 d)] w := by
  exact block_spec Try.func19 Try.mixed (stops_cons (fun σ w h => by
      obtain ⟨w0_, e0, h⟩ := dP_elim h
      obtain ⟨win_, e1, h⟩ := dI_elim h
      obtain ⟨ah_b_, ah_l_, ah_c_, e2, h⟩ := dL_elim h
      obtain ⟨held_, e3, h⟩ := dI_elim h
      obtain ⟨d_, e4, h⟩ := dI_elim h
      obtain ⟨t131_, e5, h⟩ := dB_elim h
      exact (seglaw_World_Keeps.B3_sound hN1 w0_ win_ ah_b_ ah_l_ ah_c_ held_ d_ t131_ w h).weaken (Sub.cons (Sub.cons (Sub.cons (Sub.cons (Sub.cons (Sub.cons (Sub.nil _) e5) e4) e3) e2) e1) e0)) (stops_cons (fun σ w h => by
      obtain ⟨w0_, e0, h⟩ := dP_elim h
      obtain ⟨win_, e1, h⟩ := dI_elim h
      obtain ⟨ah_b_, ah_l_, ah_c_, e2, h⟩ := dL_elim h
      obtain ⟨held_, e3, h⟩ := dI_elim h
      obtain ⟨d_, e4, h⟩ := dI_elim h
      exact (hN1 w0_ win_ ah_b_ ah_l_ ah_c_ held_ d_ w h).weaken (Sub.cons (Sub.cons (Sub.cons (Sub.cons (Sub.cons (Sub.nil _) e4) e3) e2) e1) e0)) stops_nil)) (Eq.mp (seglaw_World_Keeps.L1b_eq w0 win ah_b ah_l ah_c held d w  N1 R (fun w0_ win_ ah_b_ ah_l_ ah_c_ held_ d_ t131_ w => seglaw_World_Keeps.B3 w0_ win_ ah_b_ ah_l_ ah_c_ held_ d_ t131_ w N1 R)) h)
def seglaw_World_Keeps.L1 (w0 : Option Addr) (win : Int) (ah_b : Option Addr) (ah_l ah_c : Nat) (held d : Int) (w : World)  (R : Bool → World → Prop) : Prop :=
  ∃ (I : Nat → Option Addr → Int → Option Addr → Nat → Nat → Int → Int → World → Prop) (m : Nat), I m w0 win ah_b ah_l ah_c held d w ∧ ∀ m w0 win ah_b ah_l ah_c held d w, I m w0 win ah_b ah_l ah_c held d w → seglaw_World_Keeps.L1b w0 win ah_b ah_l ah_c held d w  (fun w0' win' ah_b' ah_l' ah_c' held' d' w' => ∃ m', m' < m ∧ I m' w0' win' ah_b' ah_l' ah_c' held' d' w') R
theorem seglaw_World_Keeps.L1_sound {R : Bool → World → Prop}  (w0 : Option Addr) (win : Int) (ah_b : Option Addr) (ah_l ah_c : Nat) (held d : Int) (w : World) (h : seglaw_World_Keeps.L1 w0 win ah_b ah_l ah_c held d w  R) :
    KW Try.prog 19 141 (seglaw_World_Keeps.RV R) ([(0, [1, 1, 1, 1, 1, 1, 1, 1, 1, 1, 1, 1, 1, 1, 1, 1, 1, 0, 1, 0, 0]), (2, [1, 1, 1, 1, 1, 1, 1, 1, 1, 1, 1, 1, 1, 1, 1, 1, 1, 0, 1, 0, 0]), (1, [0]), (0, [1, 1, 1, 1, 1, 1, 1, 1, 1, 1, 1, 1, 1, 1, 1, 1, 1, 1])].map (toItem (Try.f19.body.getD .skip))) [(0, .pointer w0), (9, .int .i64 win), (11, .slice ah_b ah_l ah_c), (12, .int .i64 held), (13, .int .i64 d)] w := by
  obtain ⟨I, m, hBase, hr⟩ := h
  refine KW.loop (fun m σ w => ∃ (w0 : Option Addr) (win : Int) (ah_b : Option Addr) (ah_l ah_c : Nat) (held d : Int), σ = [(0, .pointer w0), (9, .int .i64 win), (11, .slice ah_b ah_l ah_c), (12, .int .i64 held), (13, .int .i64 d)] ∧ I m w0 win ah_b ah_l ah_c held d w) ?_ m _ w ⟨w0, win, ah_b, ah_l, ah_c, held, d, rfl, hBase⟩
  rintro m ih σ w ⟨w0, win, ah_b, ah_l, ah_c, held, d, rfl, hI⟩
  exact seglaw_World_Keeps.L1b_sound  (N1 := fun w0' win' ah_b' ah_l' ah_c' held' d' w' => ∃ m', m' < m ∧ I m' w0' win' ah_b' ah_l' ah_c' held' d' w') (fun w0' win' ah_b' ah_l' ah_c' held' d' w' hx => by obtain ⟨m', hlt, hI'⟩ := hx; exact ih m' hlt _ w' ⟨w0', win', ah_b', ah_l', ah_c', held', d', rfl, hI'⟩) w0 win ah_b ah_l ah_c held d w (hr m w0 win ah_b ah_l ah_c held d w hI)
def seglaw_World_Keeps.B2 (w0 : Option Addr) (av win : Int) (t82 : Bool) (w : World)   (R : Bool → World → Prop) : Prop :=
  Bm t82 (
    R false w) (
    Pn w0 fun a =>
    LdP (a.add 3) w fun x86 =>
    segm_RecvBuf_Bytes.Call x86 w fun r87_b r87_l r87_c w1 =>
    Bm (((r87_l : Nat) : Int) != av) (
      R false w1) (
      Pn w0 fun a_1 =>
      LdP (a_1.add 3) w1 fun x95 =>
      segm_RecvBuf_Ahead.Call x95 w1 fun r96_b r96_l r96_c w2 =>
      Bm (((r96_l : Nat) : Int) != (16 : Int)) (
        R false w2) (
        seglaw_World_Keeps.L1 w0 win r96_b r96_l r96_c (0 : Int) (0 : Int) w2  R)))
theorem seglaw_World_Keeps.B2_eq (w0 : Option Addr) (av win : Int) (t82 : Bool) (w : World)   (R : Bool → World → Prop) (sL1 : Option Addr → Int → Option Addr → Nat → Nat → Int → Int → World → Prop) :
    (
  Bm t82 (
    R false w) (
    Pn w0 fun a =>
    LdP (a.add 3) w fun x86 =>
    segm_RecvBuf_Bytes.Call x86 w fun r87_b r87_l r87_c w1 =>
    Bm (((r87_l : Nat) : Int) != av) (
      R false w1) (
      Pn w0 fun a_1 =>
      LdP (a_1.add 3) w1 fun x95 =>
      segm_RecvBuf_Ahead.Call x95 w1 fun r96_b r96_l r96_c w2 =>
      Bm (((r96_l : Nat) : Int) != (16 : Int)) (
        R false w2) (
        sL1 w0 win r96_b r96_l r96_c (0 : Int) (0 : Int) w2)))) = kstep Try.prog 141 Try.f19.results.toList (Try.f19.body.getD .skip) (seglaw_World_Keeps.RV R) (kvc Try.prog 141 Try.f19.results.toList (Try.f19.body.getD .skip) (seglaw_World_Keeps.RV R) [([(0, [1, 1, 1, 1, 1, 1, 1, 1, 1, 1, 1, 1, 1, 1, 1, 1, 1, 0, 1, 0, 0]), (2, [1, 1, 1, 1, 1, 1, 1, 1, 1, 1, 1, 1, 1, 1, 1, 1, 1, 0, 1, 0, 0]), (1, [0]), (0, [1, 1, 1, 1, 1, 1, 1, 1, 1, 1, 1, 1, 1, 1, 1, 1, 1, 1])], fun σ w => dP (slotOf σ 0) fun w0_ => dI .i64 (slotOf σ 9) fun win_ => dL (slotOf σ 11) fun ah_b_ ah_l_ ah_c_ => dI .i64 (slotOf σ 12) fun held_ => dI .i64 (slotOf σ 13) fun d_ => sL1 w0_ win_ ah_b_ ah_l_ ah_c_ held_ d_ w)] 2000) [(0, [1, 1, 1, 1, 1, 1, 1, 1, 1, 1, 1, 0, 1]), (0, [1, 1, 1, 1, 1, 1, 1, 1, 1, 1, 1, 1])] [(0, .pointer w0), (8, .int .i64 av), (9, .int .i64 win), (82, .bool t82)] w := by kernel_rfl
theorem seglaw_World_Keeps.B2_sound {R : Bool → World → Prop}  (w0 : Option Addr) (av win : Int) (t82 : Bool) (w : World) (h : seglaw_World_Keeps.B2 w0 av win t82 w   R) :
    KW Try.prog 19 141 (seglaw_World_Keeps.RV R) ([(0, [1, 1, 1, 1, 1, 1, 1, 1, 1, 1, 1, 0, 1]), (0, [1, 1, 1, 1, 1, 1, 1, 1, 1, 1, 1, 1])].map (toItem (Try.f19.body.getD .skip))) [(0, .pointer w0), (8, .int .i64 av), (9, .int .i64 win), (82, .bool t82)] w := by
  exact block_spec Try.func19 Try.mixed (stops_cons (fun σ w h => by
      obtain ⟨w0_, e0, h⟩ := dP_elim h
      obtain ⟨win_, e1, h⟩ := dI_elim h
      obtain ⟨ah_b_, ah_l_, ah_c_, e2, h⟩ := dL_elim h
      obtain ⟨held_, e3, h⟩ := dI_elim h
      obtain ⟨d_, e4, h⟩ := dI_elim h
      exact (seglaw_World_Keeps.L1_sound  w0_ win_ ah_b_ ah_l_ ah_c_ held_ d_ w h).weaken (Sub.cons (Sub.cons (Sub.cons (Sub.cons (Sub.cons (Sub.nil _) e4) e3) e2) e1) e0)) stops_nil) (Eq.mp (seglaw_World_Keeps.B2_eq w0 av win t82 w   R (fun w0_ win_ ah_b_ ah_l_ ah_c_ held_ d_ w => seglaw_World_Keeps.L1 w0_ win_ ah_b_ ah_l_ ah_c_ held_ d_ w  R)) h)
def seglaw_World_Keeps.B1 (w0 : Option Addr) (una nxt n u : Int) (t44 : Bool) (w : World)   (R : Bool → World → Prop) : Prop :=
  Bm t44 (
    R false w) (
    api_SeqAdd.Call una (IntKind.i64.wrap (n - u)) w fun r50 w1 =>
    Bm (nxt != r50) (
      R false w1) (
      Pn w0 fun a =>
      LdP (a.add 1) w1 fun x55 =>
      segm_SendBuf_Bytes.Call x55 w1 fun r56_b r56_l r56_c w2 =>
      Bm (((r56_l : Nat) : Int) != n) (
        R false w2) (
        Pn w0 fun a_1 =>
        LdP (a_1.add 3) w2 fun x64 =>
        segm_RecvBuf_Avail.Call x64 w2 fun r65 w3 =>
        Pn w0 fun a_2 =>
        LdP (a_2.add 3) w3 fun x69 =>
        segm_RecvBuf_Window.Call x69 w3 fun r70 w4 =>
        Bm (decide (r65 < (0 : Int))) (
          seglaw_World_Keeps.B2 w0 r65 r70 true w4  R) (
          Bm (decide (r70 < (0 : Int))) (
            seglaw_World_Keeps.B2 w0 r65 r70 true w4  R) (
            seglaw_World_Keeps.B2 w0 r65 r70 (r70 != (IntKind.i64.wrap ((16 : Int) - r65))) w4  R)))))
theorem seglaw_World_Keeps.B1_eq (w0 : Option Addr) (una nxt n u : Int) (t44 : Bool) (w : World)   (R : Bool → World → Prop) (sB2 : Option Addr → Int → Int → Bool → World → Prop) :
    (
  Bm t44 (
    R false w) (
    api_SeqAdd.Call una (IntKind.i64.wrap (n - u)) w fun r50 w1 =>
    Bm (nxt != r50) (
      R false w1) (
      Pn w0 fun a =>
      LdP (a.add 1) w1 fun x55 =>
      segm_SendBuf_Bytes.Call x55 w1 fun r56_b r56_l r56_c w2 =>
      Bm (((r56_l : Nat) : Int) != n) (
        R false w2) (
        Pn w0 fun a_1 =>
        LdP (a_1.add 3) w2 fun x64 =>
        segm_RecvBuf_Avail.Call x64 w2 fun r65 w3 =>
        Pn w0 fun a_2 =>
        LdP (a_2.add 3) w3 fun x69 =>
        segm_RecvBuf_Window.Call x69 w3 fun r70 w4 =>
        Bm (decide (r65 < (0 : Int))) (
          sB2 w0 r65 r70 true w4) (
          Bm (decide (r70 < (0 : Int))) (
            sB2 w0 r65 r70 true w4) (
            sB2 w0 r65 r70 (r70 != (IntKind.i64.wrap ((16 : Int) - r65))) w4)))))) = kstep Try.prog 141 Try.f19.results.toList (Try.f19.body.getD .skip) (seglaw_World_Keeps.RV R) (kvc Try.prog 141 Try.f19.results.toList (Try.f19.body.getD .skip) (seglaw_World_Keeps.RV R) [([(0, [1, 1, 1, 1, 1, 1, 1, 1, 1, 1, 1, 0, 1]), (0, [1, 1, 1, 1, 1, 1, 1, 1, 1, 1, 1, 1])], fun σ w => dP (slotOf σ 0) fun w0_ => dI .i64 (slotOf σ 8) fun av_ => dI .i64 (slotOf σ 9) fun win_ => dB (slotOf σ 82) fun t82_ => sB2 w0_ av_ win_ t82_ w)] 2000) [(0, [1, 1, 1, 1, 1, 0, 1]), (0, [1, 1, 1, 1, 1, 1])] [(0, .pointer w0), (3, .int .i64 una), (4, .int .i64 nxt), (5, .int .i64 n), (6, .int .i64 u), (44, .bool t44)] w := by kernel_rfl
theorem seglaw_World_Keeps.B1_sound {R : Bool → World → Prop}  (w0 : Option Addr) (una nxt n u : Int) (t44 : Bool) (w : World) (h : seglaw_World_Keeps.B1 w0 una nxt n u t44 w   R) :
    KW Try.prog 19 141 (seglaw_World_Keeps.RV R) ([(0, [1, 1, 1, 1, 1, 0, 1]), (0, [1, 1, 1, 1, 1, 1])].map (toItem (Try.f19.body.getD .skip))) [(0, .pointer w0), (3, .int .i64 una), (4, .int .i64 nxt), (5, .int .i64 n), (6, .int .i64 u), (44, .bool t44)] w := by
  exact block_spec Try.func19 Try.mixed (stops_cons (fun σ w h => by
      obtain ⟨w0_, e0, h⟩ := dP_elim h
      obtain ⟨av_, e1, h⟩ := dI_elim h
      obtain ⟨win_, e2, h⟩ := dI_elim h
      obtain ⟨t82_, e3, h⟩ := dB_elim h
      exact (seglaw_World_Keeps.B2_sound  w0_ av_ win_ t82_ w h).weaken (Sub.cons (Sub.cons (Sub.cons (Sub.cons (Sub.nil _) e3) e2) e1) e0)) stops_nil) (Eq.mp (seglaw_World_Keeps.B1_eq w0 una nxt n u t44 w   R (fun w0_ av_ win_ t82_ w => seglaw_World_Keeps.B2 w0_ av_ win_ t82_ w  R)) h)
def seglaw_World_Keeps.B0 (w0 : Option Addr) (w : World)   (R : Bool → World → Prop) : Prop :=
  Pn w0 fun a =>
  LdP (a.add 1) w fun x17 =>
  segm_SendBuf_Una.Call x17 w fun r18 w1 =>
  Pn w0 fun a_1 =>
  LdP (a_1.add 1) w1 fun x22 =>
  segm_SendBuf_Nxt.Call x22 w1 fun r23 w2 =>
  Pn w0 fun a_2 =>
  LdP (a_2.add 1) w2 fun x27 =>
  segm_SendBuf_Len.Call x27 w2 fun r28 w3 =>
  Pn w0 fun a_3 =>
  LdP (a_3.add 1) w3 fun x32 =>
  segm_SendBuf_Unsent.Call x32 w3 fun r33 w4 =>
  Bm (decide (r33 < (0 : Int))) (
    seglaw_World_Keeps.B1 w0 r18 r23 r28 r33 true w4  R) (
    Bm (decide (r33 > r28)) (
      seglaw_World_Keeps.B1 w0 r18 r23 r28 r33 true w4  R) (
      seglaw_World_Keeps.B1 w0 r18 r23 r28 r33 (decide (r28 > (16 : Int))) w4  R))
theorem seglaw_World_Keeps.B0_eq (w0 : Option Addr) (w : World)   (R : Bool → World → Prop) (sB1 : Option Addr → Int → Int → Int → Int → Bool → World → Prop) :
    (
  Pn w0 fun a =>
  LdP (a.add 1) w fun x17 =>
  segm_SendBuf_Una.Call x17 w fun r18 w1 =>
  Pn w0 fun a_1 =>
  LdP (a_1.add 1) w1 fun x22 =>
  segm_SendBuf_Nxt.Call x22 w1 fun r23 w2 =>
  Pn w0 fun a_2 =>
  LdP (a_2.add 1) w2 fun x27 =>
  segm_SendBuf_Len.Call x27 w2 fun r28 w3 =>
  Pn w0 fun a_3 =>
  LdP (a_3.add 1) w3 fun x32 =>
  segm_SendBuf_Unsent.Call x32 w3 fun r33 w4 =>
  Bm (decide (r33 < (0 : Int))) (
    sB1 w0 r18 r23 r28 r33 true w4) (
    Bm (decide (r33 > r28)) (
      sB1 w0 r18 r23 r28 r33 true w4) (
      sB1 w0 r18 r23 r28 r33 (decide (r28 > (16 : Int))) w4))) = kstep Try.prog 141 Try.f19.results.toList (Try.f19.body.getD .skip) (seglaw_World_Keeps.RV R) (kvc Try.prog 141 Try.f19.results.toList (Try.f19.body.getD .skip) (seglaw_World_Keeps.RV R) [([(0, [1, 1, 1, 1, 1, 0, 1]), (0, [1, 1, 1, 1, 1, 1])], fun σ w => dP (slotOf σ 0) fun w0_ => dI .i64 (slotOf σ 3) fun una_ => dI .i64 (slotOf σ 4) fun nxt_ => dI .i64 (slotOf σ 5) fun n_ => dI .i64 (slotOf σ 6) fun u_ => dB (slotOf σ 44) fun t44_ => sB1 w0_ una_ nxt_ n_ u_ t44_ w)] 2000) [(0, [])] [(0, .pointer w0)] w := by kernel_rfl
theorem seglaw_World_Keeps.B0_sound {R : Bool → World → Prop}  (w0 : Option Addr) (w : World) (h : seglaw_World_Keeps.B0 w0 w   R) :
    KW Try.prog 19 141 (seglaw_World_Keeps.RV R) ([(0, [])].map (toItem (Try.f19.body.getD .skip))) [(0, .pointer w0)] w := by
  exact block_spec Try.func19 Try.mixed (stops_cons (fun σ w h => by
      obtain ⟨w0_, e0, h⟩ := dP_elim h
      obtain ⟨una_, e1, h⟩ := dI_elim h
      obtain ⟨nxt_, e2, h⟩ := dI_elim h
      obtain ⟨n_, e3, h⟩ := dI_elim h
      obtain ⟨u_, e4, h⟩ := dI_elim h
      obtain ⟨t44_, e5, h⟩ := dB_elim h
      exact (seglaw_World_Keeps.B1_sound  w0_ una_ nxt_ n_ u_ t44_ w h).weaken (Sub.cons (Sub.cons (Sub.cons (Sub.cons (Sub.cons (Sub.cons (Sub.nil _) e5) e4) e3) e2) e1) e0)) stops_nil) (Eq.mp (seglaw_World_Keeps.B0_eq w0 w   R (fun w0_ una_ nxt_ n_ u_ t44_ w => seglaw_World_Keeps.B1 w0_ una_ nxt_ n_ u_ t44_ w  R)) h)
theorem seglaw_World_Keeps.sound (w0 : Option Addr) (w : World) (R : Bool → World → Prop) (h : seglaw_World_Keeps.B0 w0 w R) : seglaw_World_Keeps.Call w0 w R := by
  have hc := calls_of_block (args := #[.pointer w0]) Try.func19 (body := (Try.f19.body.getD .skip)) (by kernel_rfl) (by kernel_rfl) (args_slot _) (seglaw_World_Keeps.B0_sound w0 w h)
  exact hc.mono fun e w' he => by
    obtain ⟨v, rfl, hv⟩ := he
    exact seglaw_World_Keeps.RV_elim hv
def seglaw_Stamp.B1 (j : Int) (w : World)   (R : Int → World → Prop) : Prop :=
  (256 : Int) ≠ 0 ∧
  R (IntKind.u8.wrap (BitVec.ofInt IntKind.u8.bits (IntKind.u8.wrap (j.tmod (256 : Int))) ^^^ BitVec.ofInt IntKind.u8.bits (165 : Int)).toNat) w
theorem seglaw_Stamp.B1_eq (j : Int) (w : World)   (R : Int → World → Prop)  :
    (
  (256 : Int) ≠ 0 ∧
  R (IntKind.u8.wrap (BitVec.ofInt IntKind.u8.bits (IntKind.u8.wrap (j.tmod (256 : Int))) ^^^ BitVec.ofInt IntKind.u8.bits (165 : Int)).toNat) w) = kstep Try.prog 23 Try.f20.results.toList (Try.f20.body.getD .skip) (seglaw_Stamp.RV R) (kvc Try.prog 23 Try.f20.results.toList (Try.f20.body.getD .skip) (seglaw_Stamp.RV R) [] 2000) [(0, [1, 1])] [(0, .int .i64 j)] w := by kernel_rfl
theorem seglaw_Stamp.B1_sound {R : Int → World → Prop}  (j : Int) (w : World) (h : seglaw_Stamp.B1 j w   R) :
    KW Try.prog 20 23 (seglaw_Stamp.RV R) ([(0, [1, 1])].map (toItem (Try.f20.body.getD .skip))) [(0, .int .i64 j)] w := by
  exact block_spec Try.func20 Try.mixed stops_nil (Eq.mp (seglaw_Stamp.B1_eq j w   R ) h)
def seglaw_Stamp.B0 (j i : Int) (w : World)   (R : Int → World → Prop) : Prop :=
  (4 : Int) ≠ 0 ∧
  Bm ((i.tmod (4 : Int)) == (1 : Int)) (
    (256 : Int) ≠ 0 ∧
    seglaw_Stamp.B1 (IntKind.i64.wrap (j.tdiv (256 : Int))) w  R) (
    Bm ((i.tmod (4 : Int)) == (2 : Int)) (
      (65536 : Int) ≠ 0 ∧
      seglaw_Stamp.B1 (IntKind.i64.wrap (j.tdiv (65536 : Int))) w  R) (
      Bm ((i.tmod (4 : Int)) == (3 : Int)) (
        (16777216 : Int) ≠ 0 ∧
        seglaw_Stamp.B1 (IntKind.i64.wrap (j.tdiv (16777216 : Int))) w  R) (
        seglaw_Stamp.B1 j w  R)))
theorem seglaw_Stamp.B0_eq (j i : Int) (w : World)   (R : Int → World → Prop) (sB1 : Int → World → Prop) :
    (
  (4 : Int) ≠ 0 ∧
  Bm ((i.tmod (4 : Int)) == (1 : Int)) (
    (256 : Int) ≠ 0 ∧
    sB1 (IntKind.i64.wrap (j.tdiv (256 : Int))) w) (
    Bm ((i.tmod (4 : Int)) == (2 : Int)) (
      (65536 : Int) ≠ 0 ∧
      sB1 (IntKind.i64.wrap (j.tdiv (65536 : Int))) w) (
      Bm ((i.tmod (4 : Int)) == (3 : Int)) (
        (16777216 : Int) ≠ 0 ∧
        sB1 (IntKind.i64.wrap (j.tdiv (16777216 : Int))) w) (
        sB1 j w)))) = kstep Try.prog 23 Try.f20.results.toList (Try.f20.body.getD .skip) (seglaw_Stamp.RV R) (kvc Try.prog 23 Try.f20.results.toList (Try.f20.body.getD .skip) (seglaw_Stamp.RV R) [([(0, [1, 1])], fun σ w => dI .i64 (slotOf σ 0) fun j_ => sB1 j_ w)] 2000) [(0, [])] [(0, .int .i64 j), (1, .int .i64 i)] w := by kernel_rfl
theorem seglaw_Stamp.B0_sound {R : Int → World → Prop}  (j i : Int) (w : World) (h : seglaw_Stamp.B0 j i w   R) :
    KW Try.prog 20 23 (seglaw_Stamp.RV R) ([(0, [])].map (toItem (Try.f20.body.getD .skip))) [(0, .int .i64 j), (1, .int .i64 i)] w := by
  exact block_spec Try.func20 Try.mixed (stops_cons (fun σ w h => by
      obtain ⟨j_, e0, h⟩ := dI_elim h
      exact (seglaw_Stamp.B1_sound  j_ w h).weaken (Sub.cons (Sub.nil _) e0)) stops_nil) (Eq.mp (seglaw_Stamp.B0_eq j i w   R (fun j_ w => seglaw_Stamp.B1 j_ w  R)) h)
theorem seglaw_Stamp.sound (j i : Int) (w : World) (R : Int → World → Prop) (h : seglaw_Stamp.B0 j i w R) : seglaw_Stamp.Call j i w R := by
  have hc := calls_of_block (args := #[.int .i64 j, .int .i64 i]) Try.func20 (body := (Try.f20.body.getD .skip)) (by kernel_rfl) (by kernel_rfl) (args_slot _) (seglaw_Stamp.B0_sound j i w h)
  exact hc.mono fun e w' he => by
    obtain ⟨v, rfl, hv⟩ := he
    exact seglaw_Stamp.RV_elim hv
def seg_SendBuf_Una.B0 (b : Option Addr) (w : World)   (R : Int → World → Prop) : Prop :=
  Pn b fun a =>
  LdI .u8 (a.add 19) w fun x6 =>
  R (IntKind.i64.wrap x6) w
theorem seg_SendBuf_Una.B0_eq (b : Option Addr) (w : World)   (R : Int → World → Prop)  :
    (
  Pn b fun a =>
  LdI .u8 (a.add 19) w fun x6 =>
  R (IntKind.i64.wrap x6) w) = kstep Try.prog 8 Try.f21.results.toList (Try.f21.body.getD .skip) (seg_SendBuf_Una.RV R) (kvc Try.prog 8 Try.f21.results.toList (Try.f21.body.getD .skip) (seg_SendBuf_Una.RV R) [] 2000) [(0, [])] [(0, .pointer b)] w := by kernel_rfl
theorem seg_SendBuf_Una.B0_sound {R : Int → World → Prop}  (b : Option Addr) (w : World) (h : seg_SendBuf_Una.B0 b w   R) :
    KW Try.prog 21 8 (seg_SendBuf_Una.RV R) ([(0, [])].map (toItem (Try.f21.body.getD .skip))) [(0, .pointer b)] w := by
  exact block_spec Try.func21 Try.mixed stops_nil (Eq.mp (seg_SendBuf_Una.B0_eq b w   R ) h)
theorem seg_SendBuf_Una.sound (b : Option Addr) (w : World) (R : Int → World → Prop) (h : seg_SendBuf_Una.B0 b w R) : seg_SendBuf_Una.Call b w R := by
  have hc := calls_of_block (args := #[.pointer b]) Try.func21 (body := (Try.f21.body.getD .skip)) (by kernel_rfl) (by kernel_rfl) (args_slot _) (seg_SendBuf_Una.B0_sound b w h)
  exact hc.mono fun e w' he => by
    obtain ⟨v, rfl, hv⟩ := he
    exact seg_SendBuf_Una.RV_elim hv
def segm_SendBuf_Una.B0 (b : Option Addr) (w : World)   (R : Int → World → Prop) : Prop :=
  Pn b fun a =>
  LdI .i64 a w fun x6 =>
  R x6 w
theorem segm_SendBuf_Una.B0_eq (b : Option Addr) (w : World)   (R : Int → World → Prop)  :
    (
  Pn b fun a =>
  LdI .i64 a w fun x6 =>
  R x6 w) = kstep Try.prog 7 Try.f22.results.toList (Try.f22.body.getD .skip) (segm_SendBuf_Una.RV R) (kvc Try.prog 7 Try.f22.results.toList (Try.f22.body.getD .skip) (segm_SendBuf_Una.RV R) [] 2000) [(0, [])] [(0, .pointer b)] w := by kernel_rfl
theorem segm_SendBuf_Una.B0_sound {R : Int → World → Prop}  (b : Option Addr) (w : World) (h : segm_SendBuf_Una.B0 b w   R) :
    KW Try.prog 22 7 (segm_SendBuf_Una.RV R) ([(0, [])].map (toItem (Try.f22.body.getD .skip))) [(0, .pointer b)] w := by
  exact block_spec Try.func22 Try.mixed stops_nil (Eq.mp (segm_SendBuf_Una.B0_eq b w   R ) h)
theorem segm_SendBuf_Una.sound (b : Option Addr) (w : World) (R : Int → World → Prop) (h : segm_SendBuf_Una.B0 b w R) : segm_SendBuf_Una.Call b w R := by
  have hc := calls_of_block (args := #[.pointer b]) Try.func22 (body := (Try.f22.body.getD .skip)) (by kernel_rfl) (by kernel_rfl) (args_slot _) (segm_SendBuf_Una.B0_sound b w h)
  exact hc.mono fun e w' he => by
    obtain ⟨v, rfl, hv⟩ := he
    exact segm_SendBuf_Una.RV_elim hv
def seg_SendBuf_Nxt.B0 (b : Option Addr) (w : World)   (R : Int → World → Prop) : Prop :=
  Pn b fun a =>
  LdI .u8 (a.add 19) w.drew fun x6 =>
  Pn b fun a_1 =>
  LdI .i64 (a_1.add 18) w.drew fun x10 =>
  R (IntKind.i64.wrap (IntKind.u8.wrap (x6 + (IntKind.u8.wrap x10)))) w.drew
theorem seg_SendBuf_Nxt.B0_eq (b : Option Addr) (w : World)   (R : Int → World → Prop)  :
    (
  Pn b fun a =>
  LdI .u8 (a.add 19) w.drew fun x6 =>
  Pn b fun a_1 =>
  LdI .i64 (a_1.add 18) w.drew fun x10 =>
  R (IntKind.i64.wrap (IntKind.u8.wrap (x6 + (IntKind.u8.wrap x10)))) w.drew) = kstep Try.prog 14 Try.f23.results.toList (Try.f23.body.getD .skip) (seg_SendBuf_Nxt.RV R) (kvc Try.prog 14 Try.f23.results.toList (Try.f23.body.getD .skip) (seg_SendBuf_Nxt.RV R) [] 2000) [(0, [])] [(0, .pointer b)] w := by kernel_rfl
theorem seg_SendBuf_Nxt.B0_sound {R : Int → World → Prop}  (b : Option Addr) (w : World) (h : seg_SendBuf_Nxt.B0 b w   R) :
    KW Try.prog 23 14 (seg_SendBuf_Nxt.RV R) ([(0, [])].map (toItem (Try.f23.body.getD .skip))) [(0, .pointer b)] w := by
  exact block_spec Try.func23 Try.mixed stops_nil (Eq.mp (seg_SendBuf_Nxt.B0_eq b w   R ) h)
theorem seg_SendBuf_Nxt.sound (b : Option Addr) (w : World) (R : Int → World → Prop) (h : seg_SendBuf_Nxt.B0 b w R) : seg_SendBuf_Nxt.Call b w R := by
  have hc := calls_of_block (args := #[.pointer b]) Try.func23 (body := (Try.f23.body.getD .skip)) (by kernel_rfl) (by kernel_rfl) (args_slot _) (seg_SendBuf_Nxt.B0_sound b w h)
  exact hc.mono fun e w' he => by
    obtain ⟨v, rfl, hv⟩ := he
    exact seg_SendBuf_Nxt.RV_elim hv
def segm_SendBuf_Nxt.B0 (b : Option Addr) (w : World)   (R : Int → World → Prop) : Prop :=
  Pn b fun a =>
  LdI .i64 a w.drew fun x6 =>
  Pn b fun a_1 =>
  LdI .i64 (a_1.add 2) w.drew fun x10 =>
  api_SeqAdd.Call x6 x10 w.drew fun r11 w1 =>
  R r11 w1
theorem segm_SendBuf_Nxt.B0_eq (b : Option Addr) (w : World)   (R : Int → World → Prop)  :
    (
  Pn b fun a =>
  LdI .i64 a w.drew fun x6 =>
  Pn b fun a_1 =>
  LdI .i64 (a_1.add 2) w.drew fun x10 =>
  api_SeqAdd.Call x6 x10 w.drew fun r11 w1 =>
  R r11 w1) = kstep Try.prog 12 Try.f24.results.toList (Try.f24.body.getD .skip) (segm_SendBuf_Nxt.RV R) (kvc Try.prog 12 Try.f24.results.toList (Try.f24.body.getD .skip) (segm_SendBuf_Nxt.RV R) [] 2000) [(0, [])] [(0, .pointer b)] w := by kernel_rfl
theorem segm_SendBuf_Nxt.B0_sound {R : Int → World → Prop}  (b : Option Addr) (w : World) (h : segm_SendBuf_Nxt.B0 b w   R) :
    KW Try.prog 24 12 (segm_SendBuf_Nxt.RV R) ([(0, [])].map (toItem (Try.f24.body.getD .skip))) [(0, .pointer b)] w := by
  exact block_spec Try.func24 Try.mixed stops_nil (Eq.mp (segm_SendBuf_Nxt.B0_eq b w   R ) h)
theorem segm_SendBuf_Nxt.sound (b : Option Addr) (w : World) (R : Int → World → Prop) (h : segm_SendBuf_Nxt.B0 b w R) : segm_SendBuf_Nxt.Call b w R := by
  have hc := calls_of_block (args := #[.pointer b]) Try.func24 (body := (Try.f24.body.getD .skip)) (by kernel_rfl) (by kernel_rfl) (args_slot _) (segm_SendBuf_Nxt.B0_sound b w h)
  exact hc.mono fun e w' he => by
    obtain ⟨v, rfl, hv⟩ := he
    exact segm_SendBuf_Nxt.RV_elim hv
def seg_SendBuf_Len.B0 (b : Option Addr) (w : World)   (R : Int → World → Prop) : Prop :=
  Pn b fun a =>
  LdI .i64 (a.add 17) w fun x6 =>
  R x6 w
theorem seg_SendBuf_Len.B0_eq (b : Option Addr) (w : World)   (R : Int → World → Prop)  :
    (
  Pn b fun a =>
  LdI .i64 (a.add 17) w fun x6 =>
  R x6 w) = kstep Try.prog 7 Try.f25.results.toList (Try.f25.body.getD .skip) (seg_SendBuf_Len.RV R) (kvc Try.prog 7 Try.f25.results.toList (Try.f25.body.getD .skip) (seg_SendBuf_Len.RV R) [] 2000) [(0, [])] [(0, .pointer b)] w := by kernel_rfl
theorem seg_SendBuf_Len.B0_sound {R : Int → World → Prop}  (b : Option Addr) (w : World) (h : seg_SendBuf_Len.B0 b w   R) :
    KW Try.prog 25 7 (seg_SendBuf_Len.RV R) ([(0, [])].map (toItem (Try.f25.body.getD .skip))) [(0, .pointer b)] w := by
  exact block_spec Try.func25 Try.mixed stops_nil (Eq.mp (seg_SendBuf_Len.B0_eq b w   R ) h)
theorem seg_SendBuf_Len.sound (b : Option Addr) (w : World) (R : Int → World → Prop) (h : seg_SendBuf_Len.B0 b w R) : seg_SendBuf_Len.Call b w R := by
  have hc := calls_of_block (args := #[.pointer b]) Try.func25 (body := (Try.f25.body.getD .skip)) (by kernel_rfl) (by kernel_rfl) (args_slot _) (seg_SendBuf_Len.B0_sound b w h)
  exact hc.mono fun e w' he => by
    obtain ⟨v, rfl, hv⟩ := he
    exact seg_SendBuf_Len.RV_elim hv
def segm_SendBuf_Len.B0 (b : Option Addr) (w : World)   (R : Int → World → Prop) : Prop :=
  Pn b fun a =>
  LdL (a.add 1) w fun x6_b x6_l x6_c =>
  R ((x6_l : Nat) : Int) w
theorem segm_SendBuf_Len.B0_eq (b : Option Addr) (w : World)   (R : Int → World → Prop)  :
    (
  Pn b fun a =>
  LdL (a.add 1) w fun x6_b x6_l x6_c =>
  R ((x6_l : Nat) : Int) w) = kstep Try.prog 8 Try.f26.results.toList (Try.f26.body.getD .skip) (segm_SendBuf_Len.RV R) (kvc Try.prog 8 Try.f26.results.toList (Try.f26.body.getD .skip) (segm_SendBuf_Len.RV R) [] 2000) [(0, [])] [(0, .pointer b)] w := by kernel_rfl
theorem segm_SendBuf_Len.B0_sound {R : Int → World → Prop}  (b : Option Addr) (w : World) (h : segm_SendBuf_Len.B0 b w   R) :
    KW Try.prog 26 8 (segm_SendBuf_Len.RV R) ([(0, [])].map (toItem (Try.f26.body.getD .skip))) [(0, .pointer b)] w := by
  exact block_spec Try.func26 Try.mixed stops_nil (Eq.mp (segm_SendBuf_Len.B0_eq b w   R ) h)
theorem segm_SendBuf_Len.sound (b : Option Addr) (w : World) (R : Int → World → Prop) (h : segm_SendBuf_Len.B0 b w R) : segm_SendBuf_Len.Call b w R := by
  have hc := calls_of_block (args := #[.pointer b]) Try.func26 (body := (Try.f26.body.getD .skip)) (by kernel_rfl) (by kernel_rfl) (args_slot _) (segm_SendBuf_Len.B0_sound b w h)
  exact hc.mono fun e w' he => by
    obtain ⟨v, rfl, hv⟩ := he
    exact segm_SendBuf_Len.RV_elim hv
def seg_SendBuf_Unsent.B0 (b : Option Addr) (w : World)   (R : Int → World → Prop) : Prop :=
  Pn b fun a =>
  LdI .i64 (a.add 17) w.drew fun x6 =>
  Pn b fun a_1 =>
  LdI .i64 (a_1.add 18) w.drew fun x10 =>
  R (IntKind.i64.wrap (x6 - x10)) w.drew
theorem seg_SendBuf_Unsent.B0_eq (b : Option Addr) (w : World)   (R : Int → World → Prop)  :
    (
  Pn b fun a =>
  LdI .i64 (a.add 17) w.drew fun x6 =>
  Pn b fun a_1 =>
  LdI .i64 (a_1.add 18) w.drew fun x10 =>
  R (IntKind.i64.wrap (x6 - x10)) w.drew) = kstep Try.prog 12 Try.f27.results.toList (Try.f27.body.getD .skip) (seg_SendBuf_Unsent.RV R) (kvc Try.prog 12 Try.f27.results.toList (Try.f27.body.getD .skip) (seg_SendBuf_Unsent.RV R) [] 2000) [(0, [])] [(0, .pointer b)] w := by kernel_rfl
theorem seg_SendBuf_Unsent.B0_sound {R : Int → World → Prop}  (b : Option Addr) (w : World) (h : seg_SendBuf_Unsent.B0 b w   R) :
    KW Try.prog 27 12 (seg_SendBuf_Unsent.RV R) ([(0, [])].map (toItem (Try.f27.body.getD .skip))) [(0, .pointer b)] w := by
  exact block_spec Try.func27 Try.mixed stops_nil (Eq.mp (seg_SendBuf_Unsent.B0_eq b w   R ) h)
theorem seg_SendBuf_Unsent.sound (b : Option Addr) (w : World) (R : Int → World → Prop) (h : seg_SendBuf_Unsent.B0 b w R) : seg_SendBuf_Unsent.Call b w R := by
  have hc := calls_of_block (args := #[.pointer b]) Try.func27 (body := (Try.f27.body.getD .skip)) (by kernel_rfl) (by kernel_rfl) (args_slot _) (seg_SendBuf_Unsent.B0_sound b w h)
  exact hc.mono fun e w' he => by
    obtain ⟨v, rfl, hv⟩ := he
    exact seg_SendBuf_Unsent.RV_elim hv
def segm_SendBuf_Unsent.B0 (b : Option Addr) (w : World)   (R : Int → World → Prop) : Prop :=
  Pn b fun a =>
  LdL (a.add 1) w.drew fun x6_b x6_l x6_c =>
  Pn b fun a_1 =>
  LdI .i64 (a_1.add 2) w.drew fun x11 =>
  R (IntKind.i64.wrap (((x6_l : Nat) : Int) - x11)) w.drew
theorem segm_SendBuf_Unsent.B0_eq (b : Option Addr) (w : World)   (R : Int → World → Prop)  :
    (
  Pn b fun a =>
  LdL (a.add 1) w.drew fun x6_b x6_l x6_c =>
  Pn b fun a_1 =>
  LdI .i64 (a_1.add 2) w.drew fun x11 =>
  R (IntKind.i64.wrap (((x6_l : Nat) : Int) - x11)) w.drew) = kstep Try.prog 13 Try.f28.results.toList (Try.f28.body.getD .skip) (segm_SendBuf_Unsent.RV R) (kvc Try.prog 13 Try.f28.results.toList (Try.f28.body.getD .skip) (segm_SendBuf_Unsent.RV R) [] 2000) [(0, [])] [(0, .pointer b)] w := by kernel_rfl
theorem segm_SendBuf_Unsent.B0_sound {R : Int → World → Prop}  (b : Option Addr) (w : World) (h : segm_SendBuf_Unsent.B0 b w   R) :
    KW Try.prog 28 13 (segm_SendBuf_Unsent.RV R) ([(0, [])].map (toItem (Try.f28.body.getD .skip))) [(0, .pointer b)] w := by
  exact block_spec Try.func28 Try.mixed stops_nil (Eq.mp (segm_SendBuf_Unsent.B0_eq b w   R ) h)
theorem segm_SendBuf_Unsent.sound (b : Option Addr) (w : World) (R : Int → World → Prop) (h : segm_SendBuf_Unsent.B0 b w R) : segm_SendBuf_Unsent.Call b w R := by
  have hc := calls_of_block (args := #[.pointer b]) Try.func28 (body := (Try.f28.body.getD .skip)) (by kernel_rfl) (by kernel_rfl) (args_slot _) (segm_SendBuf_Unsent.B0_sound b w h)
  exact hc.mono fun e w' he => by
    obtain ⟨v, rfl, hv⟩ := he
    exact segm_SendBuf_Unsent.RV_elim hv
def seg_SendBuf_Bytes.B0 (b : Option Addr) (w : World)   (R : Option Addr → Nat → Nat → World → Prop) : Prop :=
  Pn b fun a =>
  LdI .i64 (a.add 17) w fun x7 =>
  seg_SendBuf_span.Call b (0 : Int) x7 w fun r8_b r8_l r8_c w1 =>
  R r8_b r8_l r8_c w1
theorem seg_SendBuf_Bytes.B0_eq (b : Option Addr) (w : World)   (R : Option Addr → Nat → Nat → World → Prop)  :
    (
  Pn b fun a =>
  LdI .i64 (a.add 17) w fun x7 =>
  seg_SendBuf_span.Call b (0 : Int) x7 w fun r8_b r8_l r8_c w1 =>
  R r8_b r8_l r8_c w1) = kstep Try.prog 9 Try.f29.results.toList (Try.f29.body.getD .skip) (seg_SendBuf_Bytes.RV R) (kvc Try.prog 9 Try.f29.results.toList (Try.f29.body.getD .skip) (seg_SendBuf_Bytes.RV R) [] 2000) [(0, [])] [(0, .pointer b)] w := by kernel_rfl
theorem seg_SendBuf_Bytes.B0_sound {R : Option Addr → Nat → Nat → World → Prop}  (b : Option Addr) (w : World) (h : seg_SendBuf_Bytes.B0 b w   R) :
    KW Try.prog 29 9 (seg_SendBuf_Bytes.RV R) ([(0, [])].map (toItem (Try.f29.body.getD .skip))) [(0, .pointer b)] w := by
  exact block_spec Try.func29 Try.mixed stops_nil (Eq.mp (seg_SendBuf_Bytes.B0_eq b w   R ) h)
theorem seg_SendBuf_Bytes.sound (b : Option Addr) (w : World) (R : Option Addr → Nat → Nat → World → Prop) (h : seg_SendBuf_Bytes.B0 b w R) : seg_SendBuf_Bytes.Call b w R := by
  have hc := calls_of_block (args := #[.pointer b]) Try.func29 (body := (Try.f29.body.getD .skip)) (by kernel_rfl) (by kernel_rfl) (args_slot _) (seg_SendBuf_Bytes.B0_sound b w h)
  exact hc.mono fun e w' he => by
    obtain ⟨v, rfl, hv⟩ := he
    exact seg_SendBuf_Bytes.RV_elim hv
def segm_SendBuf_Bytes.B0 (b : Option Addr) (w : World)   (R : Option Addr → Nat → Nat → World → Prop) : Prop :=
  Pn b fun a =>
  LdL (a.add 1) w fun x6_b x6_l x6_c =>
  api_CopyBytes.Call x6_b x6_l x6_c w fun r7_b r7_l r7_c w1 =>
  R r7_b r7_l r7_c w1
theorem segm_SendBuf_Bytes.B0_eq (b : Option Addr) (w : World)   (R : Option Addr → Nat → Nat → World → Prop)  :
    (
  Pn b fun a =>
  LdL (a.add 1) w fun x6_b x6_l x6_c =>
  api_CopyBytes.Call x6_b x6_l x6_c w fun r7_b r7_l r7_c w1 =>
  R r7_b r7_l r7_c w1) = kstep Try.prog 8 Try.f30.results.toList (Try.f30.body.getD .skip) (segm_SendBuf_Bytes.RV R) (kvc Try.prog 8 Try.f30.results.toList (Try.f30.body.getD .skip) (segm_SendBuf_Bytes.RV R) [] 2000) [(0, [])] [(0, .pointer b)] w := by kernel_rfl
theorem segm_SendBuf_Bytes.B0_sound {R : Option Addr → Nat → Nat → World → Prop}  (b : Option Addr) (w : World) (h : segm_SendBuf_Bytes.B0 b w   R) :
    KW Try.prog 30 8 (segm_SendBuf_Bytes.RV R) ([(0, [])].map (toItem (Try.f30.body.getD .skip))) [(0, .pointer b)] w := by
  exact block_spec Try.func30 Try.mixed stops_nil (Eq.mp (segm_SendBuf_Bytes.B0_eq b w   R ) h)
theorem segm_SendBuf_Bytes.sound (b : Option Addr) (w : World) (R : Option Addr → Nat → Nat → World → Prop) (h : segm_SendBuf_Bytes.B0 b w R) : segm_SendBuf_Bytes.Call b w R := by
  have hc := calls_of_block (args := #[.pointer b]) Try.func30 (body := (Try.f30.body.getD .skip)) (by kernel_rfl) (by kernel_rfl) (args_slot _) (segm_SendBuf_Bytes.B0_sound b w h)
  exact hc.mono fun e w' he => by
    obtain ⟨v, rfl, hv⟩ := he
    exact segm_SendBuf_Bytes.RV_elim hv
def api_SameBytes.L1b (a_b : Option Addr) (a_l a_c : Nat) (b_b : Option Addr) (b_l b_c : Nat) (i : Int) (w : World)  (N1 : Option Addr → Nat → Nat → Option Addr → Nat → Nat → Int → World → Prop) (R : Bool → World → Prop) : Prop :=
  Bm (decide (i < ((a_l : Nat) : Int))) (
    Pn a_b fun a =>
    (0 ≤ i ∧ i < ((a_l : Nat) : Int)) ∧
    LdI .u8 (Addr.add a (i.toNat * 1)) w.drew fun x20 =>
    Pn b_b fun a_1 =>
    (0 ≤ i ∧ i < ((b_l : Nat) : Int)) ∧
    LdI .u8 (Addr.add a_1 (i.toNat * 1)) w.drew fun x24 =>
    Bm (x20 != x24) (
      R false w.drew) (
      N1 a_b a_l a_c b_b b_l b_c (IntKind.i64.wrap (i + (1 : Int))) w.drew)) (
    R true w)
theorem api_SameBytes.L1b_eq (a_b : Option Addr) (a_l a_c : Nat) (b_b : Option Addr) (b_l b_c : Nat) (i : Int) (w : World)  (N1 : Option Addr → Nat → Nat → Option Addr → Nat → Nat → Int → World → Prop) (R : Bool → World → Prop)  :
    (
  Bm (decide (i < ((a_l : Nat) : Int))) (
    Pn a_b fun a =>
    (0 ≤ i ∧ i < ((a_l : Nat) : Int)) ∧
    LdI .u8 (Addr.add a (i.toNat * 1)) w.drew fun x20 =>
    Pn b_b fun a_1 =>
    (0 ≤ i ∧ i < ((b_l : Nat) : Int)) ∧
    LdI .u8 (Addr.add a_1 (i.toNat * 1)) w.drew fun x24 =>
    Bm (x20 != x24) (
      R false w.drew) (
      N1 a_b a_l a_c b_b b_l b_c (IntKind.i64.wrap (i + (1 : Int))) w.drew)) (
    R true w)) = kstep Try.prog 26 Try.f31.results.toList (Try.f31.body.getD .skip) (api_SameBytes.RV R) (kvc Try.prog 26 Try.f31.results.toList (Try.f31.body.getD .skip) (api_SameBytes.RV R) [([(0, [1, 1, 0, 1, 0, 0]), (2, [1, 1, 0, 1, 0, 0]), (1, [0]), (0, [1, 1, 1])], fun σ w => dL (slotOf σ 0) fun a_b_ a_l_ a_c_ => dL (slotOf σ 1) fun b_b_ b_l_ b_c_ => dI .i64 (slotOf σ 5) fun i_ => N1 a_b_ a_l_ a_c_ b_b_ b_l_ b_c_ i_ w)] 2000) [(0, [1, 1, 0, 1, 0, 0]), (2, [1, 1, 0, 1, 0, 0]), (1, [0]), (0, [1, 1, 1])] [(0, .slice a_b a_l a_c), (1, .slice b_b b_l b_c), (5, .int .i64 i)] w := by kernel_rfl
theorem api_SameBytes.L1b_sound {R : Bool → World → Prop} {N1 : Option Addr → Nat → Nat → Option Addr → Nat → Nat → Int → World → Prop} (hN1 : ∀ a_b a_l a_c b_b b_l b_c i w, N1 a_b a_l a_c b_b b_l b_c i w → KW Try.prog 31 26 (api_SameBytes.RV R) ([(0, [1, 1, 0, 1, 0, 0]), (2, [1, 1, 0, 1, 0, 0]), (1, [0]), (0, [1, 1, 1])].map (toItem (Try.f31.body.getD .skip))) [(0, .slice a_b a_l a_c), (1, .slice b_b b_l b_c), (5, .int .i64 i)] w) (a_b : Option Addr) (a_l a_c : Nat) (b_b : Option Addr) (b_l b_c : Nat) (i : Int) (w : World) (h : api_SameBytes.L1b a_b a_l a_c b_b b_l b_c i w  N1 R) :
    KW Try.prog 31 26 (api_SameBytes.RV R) ([(0, [1, 1, 0, 1, 0, 0]), (2, [1, 1, 0, 1, 0, 0]), (1, [0]), (0, [1, 1, 1])].map (toItem (Try.f31.body.getD .skip))) [(0, .slice a_b a_l a_c), (1, .slice b_b b_l b_c), (5, .int .i64 i)] w := by
  exact block_spec Try.func31 Try.mixed (stops_cons (fun σ w h => by
      obtain ⟨a_b_, a_l_, a_c_, e0, h⟩ := dL_elim h
      obtain ⟨b_b_, b_l_, b_c_, e1, h⟩ := dL_elim h
      obtain ⟨i_, e2, h⟩ := dI_elim h
      exact (hN1 a_b_ a_l_ a_c_ b_b_ b_l_ b_c_ i_ w h).weaken (Sub.cons (Sub.cons (Sub.cons (Sub.nil _) e2) e1) e0)) stops_nil) (Eq.mp (api_SameBytes.L1b_eq a_b a_l a_c b_b b_l b_c i w  N1 R ) h)
def api_SameBytes.L1 (a_b : Option Addr) (a_l a_c : Nat) (b_b : Option Addr) (b_l b_c : Nat) (i : Int) (w : World)  (R : Bool → World → Prop) : Prop :=
  ∃ (I : Nat → Option Addr → Nat → Nat → Option Addr → Nat → Nat → Int → World → Prop) (m : Nat), I m a_b a_l a_c b_b b_l b_c i w ∧ ∀ m a_b a_l a_c b_b b_l b_c i w, I m a_b a_l a_c b_b b_l b_c i w → api_SameBytes.L1b a_b a_l a_c b_b b_l b_c i w  (fun a_b' a_l' a_c' b_b' b_l' b_c' i' w' => ∃ m', m' < m ∧ I m' a_b' a_l' a_c' b_b' b_l' b_c' i' w') R
theorem api_SameBytes.L1_sound {R : Bool → World → Prop}  (a_b : Option Addr) (a_l a_c : Nat) (b_b : Option Addr) (b_l b_c : Nat) (i : Int) (w : World) (h : api_SameBytes.L1 a_b a_l a_c b_b b_l b_c i w  R) :
    KW Try.prog 31 26 (api_SameBytes.RV R) ([(0, [1, 1, 0, 1, 0, 0]), (2, [1, 1, 0, 1, 0, 0]), (1, [0]), (0, [1, 1, 1])].map (toItem (Try.f31.body.getD .skip))) [(0, .slice a_b a_l a_c), (1, .slice b_b b_l b_c), (5, .int .i64 i)] w := by
  obtain ⟨I, m, hBase, hr⟩ := h
  refine KW.loop (fun m σ w => ∃ (a_b : Option Addr) (a_l a_c : Nat) (b_b : Option Addr) (b_l b_c : Nat) (i : Int), σ = [(0, .slice a_b a_l a_c), (1, .slice b_b b_l b_c), (5, .int .i64 i)] ∧ I m a_b a_l a_c b_b b_l b_c i w) ?_ m _ w ⟨a_b, a_l, a_c, b_b, b_l, b_c, i, rfl, hBase⟩
  rintro m ih σ w ⟨a_b, a_l, a_c, b_b, b_l, b_c, i, rfl, hI⟩
  exact api_SameBytes.L1b_sound  (N1 := fun a_b' a_l' a_c' b_b' b_l' b_c' i' w' => ∃ m', m' < m ∧ I m' a_b' a_l' a_c' b_b' b_l' b_c' i' w') (fun a_b' a_l' a_c' b_b' b_l' b_c' i' w' hx => by obtain ⟨m', hlt, hI'⟩ := hx; exact ih m' hlt _ w' ⟨a_b', a_l', a_c', b_b', b_l', b_c', i', rfl, hI'⟩) a_b a_l a_c b_b b_l b_c i w (hr m a_b a_l a_c b_b b_l b_c i w hI)
def api_SameBytes.B0 (a_b : Option Addr) (a_l a_c : Nat) (b_b : Option Addr) (b_l b_c : Nat) (w : World)   (R : Bool → World → Prop) : Prop :=
  Bm (((a_l : Nat) : Int) != ((b_l : Nat) : Int)) (
    R false w) (
    api_SameBytes.L1 a_b a_l a_c b_b b_l b_c (0 : Int) w  R)
theorem api_SameBytes.B0_eq (a_b : Option Addr) (a_l a_c : Nat) (b_b : Option Addr) (b_l b_c : Nat) (w : World)   (R : Bool → World → Prop) (sL1 : Option Addr → Nat → Nat → Option Addr → Nat → Nat → Int → World → Prop) :
    (
  Bm (((a_l : Nat) : Int) != ((b_l : Nat) : Int)) (
    R false w) (
    sL1 a_b a_l a_c b_b b_l b_c (0 : Int) w)) = kstep Try.prog 26 Try.f31.results.toList (Try.f31.body.getD .skip) (api_SameBytes.RV R) (kvc Try.prog 26 Try.f31.results.toList (Try.f31.body.getD .skip) (api_SameBytes.RV R) [([(0, [1, 1, 0, 1, 0, 0]), (2, [1, 1, 0, 1, 0, 0]), (1, [0]), (0, [1, 1, 1])], fun σ w => dL (slotOf σ 0) fun a_b_ a_l_ a_c_ => dL (slotOf σ 1) fun b_b_ b_l_ b_c_ => dI .i64 (slotOf σ 5) fun i_ => sL1 a_b_ a_l_ a_c_ b_b_ b_l_ b_c_ i_ w)] 2000) [(0, [])] [(0, .slice a_b a_l a_c), (1, .slice b_b b_l b_c)] w := by kernel_rfl
theorem api_SameBytes.B0_sound {R : Bool → World → Prop}  (a_b : Option Addr) (a_l a_c : Nat) (b_b : Option Addr) (b_l b_c : Nat) (w : World) (h : api_SameBytes.B0 a_b a_l a_c b_b b_l b_c w   R) :
    KW Try.prog 31 26 (api_SameBytes.RV R) ([(0, [])].map (toItem (Try.f31.body.getD .skip))) [(0, .slice a_b a_l a_c), (1, .slice b_b b_l b_c)] w := by
  exact block_spec Try.func31 Try.mixed (stops_cons (fun σ w h => by
      obtain ⟨a_b_, a_l_, a_c_, e0, h⟩ := dL_elim h
      obtain ⟨b_b_, b_l_, b_c_, e1, h⟩ := dL_elim h
      obtain ⟨i_, e2, h⟩ := dI_elim h
      exact (api_SameBytes.L1_sound  a_b_ a_l_ a_c_ b_b_ b_l_ b_c_ i_ w h).weaken (Sub.cons (Sub.cons (Sub.cons (Sub.nil _) e2) e1) e0)) stops_nil) (Eq.mp (api_SameBytes.B0_eq a_b a_l a_c b_b b_l b_c w   R (fun a_b_ a_l_ a_c_ b_b_ b_l_ b_c_ i_ w => api_SameBytes.L1 a_b_ a_l_ a_c_ b_b_ b_l_ b_c_ i_ w  R)) h)
theorem api_SameBytes.sound (a_b : Option Addr) (a_l a_c : Nat) (b_b : Option Addr) (b_l b_c : Nat) (w : World) (R : Bool → World → Prop) (h : api_SameBytes.B0 a_b a_l a_c b_b b_l b_c w R) : api_SameBytes.Call a_b a_l a_c b_b b_l b_c w R := by
  have hc := calls_of_block (args := #[.slice a_b a_l a_c, .slice b_b b_l b_c]) Try.func31 (body := (Try.f31.body.getD .skip)) (by kernel_rfl) (by kernel_rfl) (args_slot _) (api_SameBytes.B0_sound a_b a_l a_c b_b b_l b_c w h)
  exact hc.mono fun e w' he => by
    obtain ⟨v, rfl, hv⟩ := he
    exact api_SameBytes.RV_elim hv
def seglaw_World_Own.L1b (w0 b_b : Option Addr) (b_l b_c : Nat) (j i : Int) (w : World)  (N1 : Option Addr → Option Addr → Nat → Nat → Int → Int → World → Prop) (R : World → Prop) : Prop :=
  Bm (decide (i < ((b_l : Nat) : Int))) (
    seglaw_Stamp.Call j i w fun r28 w1 =>
    Pn b_b fun a =>
    (0 ≤ i ∧ i < ((b_l : Nat) : Int)) ∧
    Sts [.int .u8 r28] (Addr.add a (i.toNat * 1)) 0 w1 fun w2 =>
    N1 w0 b_b b_l b_c j (IntKind.i64.wrap (i + (1 : Int))) w2) (
    Pn w0 fun a_1 =>
    LdL (a_1.add 22) w fun x34_b x34_l x34_c =>
    New (.cells #[.slice b_b b_l b_c] 37) w fun b36 w3 =>
    Append 37 (.slice none 0 0) 1 24 x34_b x34_l x34_c (some ⟨b36, 0, none⟩) 1 w3 fun b37 c37 w4 =>
    Pn w0 fun a_2 =>
    Sts [.slice b37 (x34_l + 1) c37] (a_2.add 22) 0 w4 fun w5 =>
    R  w5)
theorem seglaw_World_Own.L1b_eq (w0 b_b : Option Addr) (b_l b_c : Nat) (j i : Int) (w : World)  (N1 : Option Addr → Option Addr → Nat → Nat → Int → Int → World → Prop) (R : World → Prop)  :
    (
  Bm (decide (i < ((b_l : Nat) : Int))) (
    seglaw_Stamp.Call j i w fun r28 w1 =>
    Pn b_b fun a =>
    (0 ≤ i ∧ i < ((b_l : Nat) : Int)) ∧
    Sts [.int .u8 r28] (Addr.add a (i.toNat * 1)) 0 w1 fun w2 =>
    N1 w0 b_b b_l b_c j (IntKind.i64.wrap (i + (1 : Int))) w2) (
    Pn w0 fun a_1 =>
    LdL (a_1.add 22) w fun x34_b x34_l x34_c =>
    New (.cells #[.slice b_b b_l b_c] 37) w fun b36 w3 =>
    Append 37 (.slice none 0 0) 1 24 x34_b x34_l x34_c (some ⟨b36, 0, none⟩) 1 w3 fun b37 c37 w4 =>
    Pn w0 fun a_2 =>
    Sts [.slice b37 (x34_l + 1) c37] (a_2.add 22) 0 w4 fun w5 =>
    R  w5)) = kstep Try.prog 40 Try.f32.results.toList (Try.f32.body.getD .skip) (seglaw_World_Own.RV R) (kvc Try.prog 40 Try.f32.results.toList (Try.f32.body.getD .skip) (seglaw_World_Own.RV R) [([(0, [1, 1, 1, 0, 1, 0, 0]), (2, [1, 1, 1, 0, 1, 0, 0]), (1, [0]), (0, [1, 1, 1, 1])], fun σ w => dP (slotOf σ 0) fun w0_ => dL (slotOf σ 1) fun b_b_ b_l_ b_c_ => dI .i64 (slotOf σ 4) fun j_ => dI .i64 (slotOf σ 5) fun i_ => N1 w0_ b_b_ b_l_ b_c_ j_ i_ w)] 2000) [(0, [1, 1, 1, 0, 1, 0, 0]), (2, [1, 1, 1, 0, 1, 0, 0]), (1, [0]), (0, [1, 1, 1, 1])] [(0, .pointer w0), (1, .slice b_b b_l b_c), (4, .int .i64 j), (5, .int .i64 i)] w := by kernel_rfl
theorem seglaw_World_Own.L1b_sound {R : World → Prop} {N1 : Option Addr → Option Addr → Nat → Nat → Int → Int → World → Prop} (hN1 : ∀ w0 b_b b_l b_c j i w, N1 w0 b_b b_l b_c j i w → KW Try.prog 32 40 (seglaw_World_Own.RV R) ([(0, [1, 1, 1, 0, 1, 0, 0]), (2, [1, 1, 1, 0, 1, 0, 0]), (1, [0]), (0, [1, 1, 1, 1])].map (toItem (Try.f32.body.getD .skip))) [(0, .pointer w0), (1, .slice b_b b_l b_c), (4, .int .i64 j), (5, .int .i64 i)] w) (w0 b_b : Option Addr) (b_l b_c : Nat) (j i : Int) (w : World) (h : seglaw_World_Own.L1b w0 b_b b_l b_c j i w  N1 R) :
    KW Try.prog 32 40 (seglaw_World_Own.RV R) ([(0, [1, 1, 1, 0, 1, 0, 0]), (2, [1, 1, 1, 0, 1, 0, 0]), (1, [0]), (0, [1, 1, 1, 1])].map (toItem (Try.f32.body.getD .skip))) [(0, .pointer w0), (1, .slice b_b b_l b_c), (4, .int .i64 j), (5, .int .i64 i)] w := by
  exact block_spec Try.func32 Try.mixed (stops_cons (fun σ w h => by
      obtain ⟨w0_, e0, h⟩ := dP_elim h
      obtain ⟨b_b_, b_l_, b_c_, e1, h⟩ := dL_elim h
      obtain ⟨j_, e2, h⟩ := dI_elim h
      obtain ⟨i_, e3, h⟩ := dI_elim h
      exact (hN1 w0_ b_b_ b_l_ b_c_ j_ i_ w h).weaken (Sub.cons (Sub.cons (Sub.cons (Sub.cons (Sub.nil _) e3) e2) e1) e0)) stops_nil) (Eq.mp (seglaw_World_Own.L1b_eq w0 b_b b_l b_c j i w  N1 R ) h)
def seglaw_World_Own.L1 (w0 b_b : Option Addr) (b_l b_c : Nat) (j i : Int) (w : World)  (R : World → Prop) : Prop :=
  ∃ (I : Nat → Option Addr → Option Addr → Nat → Nat → Int → Int → World → Prop) (m : Nat), I m w0 b_b b_l b_c j i w ∧ ∀ m w0 b_b b_l b_c j i w, I m w0 b_b b_l b_c j i w → seglaw_World_Own.L1b w0 b_b b_l b_c j i w  (fun w0' b_b' b_l' b_c' j' i' w' => ∃ m', m' < m ∧ I m' w0' b_b' b_l' b_c' j' i' w') R
theorem seglaw_World_Own.L1_sound {R : World → Prop}  (w0 b_b : Option Addr) (b_l b_c : Nat) (j i : Int) (w : World) (h : seglaw_World_Own.L1 w0 b_b b_l b_c j i w  R) :
    KW Try.prog 32 40 (seglaw_World_Own.RV R) ([(0, [1, 1, 1, 0, 1, 0, 0]), (2, [1, 1, 1, 0, 1, 0, 0]), (1, [0]), (0, [1, 1, 1, 1])].map (toItem (Try.f32.body.getD .skip))) [(0, .pointer w0), (1, .slice b_b b_l b_c), (4, .int .i64 j), (5, .int .i64 i)] w := by
  obtain ⟨I, m, hBase, hr⟩ := h
  refine KW.loop (fun m σ w => ∃ (w0 b_b : Option Addr) (b_l b_c : Nat) (j i : Int), σ = [(0, .pointer w0), (1, .slice b_b b_l b_c), (4, .int .i64 j), (5, .int .i64 i)] ∧ I m w0 b_b b_l b_c j i w) ?_ m _ w ⟨w0, b_b, b_l, b_c, j, i, rfl, hBase⟩
  rintro m ih σ w ⟨w0, b_b, b_l, b_c, j, i, rfl, hI⟩
  exact seglaw_World_Own.L1b_sound  (N1 := fun w0' b_b' b_l' b_c' j' i' w' => ∃ m', m' < m ∧ I m' w0' b_b' b_l' b_c' j' i' w') (fun w0' b_b' b_l' b_c' j' i' w' hx => by obtain ⟨m', hlt, hI'⟩ := hx; exact ih m' hlt _ w' ⟨w0', b_b', b_l', b_c', j', i', rfl, hI'⟩) w0 b_b b_l b_c j i w (hr m w0 b_b b_l b_c j i w hI)
def seglaw_World_Own.B0 (w0 b_b : Option Addr) (b_l b_c : Nat) (w : World)   (R : World → Prop) : Prop :=
  (0 ≤ ((b_c : Nat) : Int) ∧ ((b_c : Nat) : Int) ≤ ((b_c : Nat) : Int)) ∧
  Bm (((((b_c : Nat) : Int).toNat - ((0 : Nat) : Int).toNat : Nat) : Int) == (0 : Int)) (
    R  w) (
    Pn w0 fun a =>
    LdL (a.add 22) w fun x16_b x16_l x16_c =>
    seglaw_World_Own.L1 w0 (slBase b_b ((0 : Nat) : Int) ((b_c : Nat) : Int) 1) (((b_c : Nat) : Int).toNat - ((0 : Nat) : Int).toNat) (((b_c : Nat) : Int).toNat - ((0 : Nat) : Int).toNat) ((x16_l : Nat) : Int) (0 : Int) w  R)
theorem seglaw_World_Own.B0_eq (w0 b_b : Option Addr) (b_l b_c : Nat) (w : World)   (R : World → Prop) (sL1 : Option Addr → Option Addr → Nat → Nat → Int → Int → World → Prop) :
    (
  (0 ≤ ((b_c : Nat) : Int) ∧ ((b_c : Nat) : Int) ≤ ((b_c : Nat) : Int)) ∧
  Bm (((((b_c : Nat) : Int).toNat - ((0 : Nat) : Int).toNat : Nat) : Int) == (0 : Int)) (
    R  w) (
    Pn w0 fun a =>
    LdL (a.add 22) w fun x16_b x16_l x16_c =>
    sL1 w0 (slBase b_b ((0 : Nat) : Int) ((b_c : Nat) : Int) 1) (((b_c : Nat) : Int).toNat - ((0 : Nat) : Int).toNat) (((b_c : Nat) : Int).toNat - ((0 : Nat) : Int).toNat) ((x16_l : Nat) : Int) (0 : Int) w)) = kstep Try.prog 40 Try.f32.results.toList (Try.f32.body.getD .skip) (seglaw_World_Own.RV R) (kvc Try.prog 40 Try.f32.results.toList (Try.f32.body.getD .skip) (seglaw_World_Own.RV R) [([(0, [1, 1, 1, 0, 1, 0, 0]), (2, [1, 1, 1, 0, 1, 0, 0]), (1, [0]), (0, [1, 1, 1, 1])], fun σ w => dP (slotOf σ 0) fun w0_ => dL (slotOf σ 1) fun b_b_ b_l_ b_c_ => dI .i64 (slotOf σ 4) fun j_ => dI .i64 (slotOf σ 5) fun i_ => sL1 w0_ b_b_ b_l_ b_c_ j_ i_ w)] 2000) [(0, [])] [(0, .pointer w0), (1, .slice b_b b_l b_c)] w := by kernel_rfl
theorem seglaw_World_Own.B0_sound {R : World → Prop}  (w0 b_b : Option Addr) (b_l b_c : Nat) (w : World) (h : seglaw_World_Own.B0 w0 b_b b_l b_c w   R) :
    KW Try.prog 32 40 (seglaw_World_Own.RV R) ([(0, [])].map (toItem (Try.f32.body.getD .skip))) [(0, .pointer w0), (1, .slice b_b b_l b_c)] w := by
  exact block_spec Try.func32 Try.mixed (stops_cons (fun σ w h => by
      obtain ⟨w0_, e0, h⟩ := dP_elim h
      obtain ⟨b_b_, b_l_, b_c_, e1, h⟩ := dL_elim h
      obtain ⟨j_, e2, h⟩ := dI_elim h
      obtain ⟨i_, e3, h⟩ := dI_elim h
      exact (seglaw_World_Own.L1_sound  w0_ b_b_ b_l_ b_c_ j_ i_ w h).weaken (Sub.cons (Sub.cons (Sub.cons (Sub.cons (Sub.nil _) e3) e2) e1) e0)) stops_nil) (Eq.mp (seglaw_World_Own.B0_eq w0 b_b b_l b_c w   R (fun w0_ b_b_ b_l_ b_c_ j_ i_ w => seglaw_World_Own.L1 w0_ b_b_ b_l_ b_c_ j_ i_ w  R)) h)
theorem seglaw_World_Own.sound (w0 b_b : Option Addr) (b_l b_c : Nat) (w : World) (R : World → Prop) (h : seglaw_World_Own.B0 w0 b_b b_l b_c w R) : seglaw_World_Own.Call w0 b_b b_l b_c w R := by
  have hc := calls_of_block (args := #[.pointer w0, .slice b_b b_l b_c]) Try.func32 (body := (Try.f32.body.getD .skip)) (by kernel_rfl) (by kernel_rfl) (args_slot _) (seglaw_World_Own.B0_sound w0 b_b b_l b_c w h)
  exact hc.mono fun e w' he => by
    obtain ⟨v, rfl, hv⟩ := he
    exact seglaw_World_Own.RV_elim hv
def seg_RecvBuf_Nxt.B0 (b : Option Addr) (w : World)   (R : Int → World → Prop) : Prop :=
  Pn b fun a =>
  LdI .u8 (a.add 16) w fun x6 =>
  R (IntKind.i64.wrap x6) w
theorem seg_RecvBuf_Nxt.B0_eq (b : Option Addr) (w : World)   (R : Int → World → Prop)  :
    (
  Pn b fun a =>
  LdI .u8 (a.add 16) w fun x6 =>
  R (IntKind.i64.wrap x6) w) = kstep Try.prog 8 Try.f33.results.toList (Try.f33.body.getD .skip) (seg_RecvBuf_Nxt.RV R) (kvc Try.prog 8 Try.f33.results.toList (Try.f33.body.getD .skip) (seg_RecvBuf_Nxt.RV R) [] 2000) [(0, [])] [(0, .pointer b)] w := by kernel_rfl
theorem seg_RecvBuf_Nxt.B0_sound {R : Int → World → Prop}  (b : Option Addr) (w : World) (h : seg_RecvBuf_Nxt.B0 b w   R) :
    KW Try.prog 33 8 (seg_RecvBuf_Nxt.RV R) ([(0, [])].map (toItem (Try.f33.body.getD .skip))) [(0, .pointer b)] w := by
  exact block_spec Try.func33 Try.mixed stops_nil (Eq.mp (seg_RecvBuf_Nxt.B0_eq b w   R ) h)
theorem seg_RecvBuf_Nxt.sound (b : Option Addr) (w : World) (R : Int → World → Prop) (h : seg_RecvBuf_Nxt.B0 b w R) : seg_RecvBuf_Nxt.Call b w R := by
  have hc := calls_of_block (args := #[.pointer b]) Try.func33 (body := (Try.f33.body.getD .skip)) (by kernel_rfl) (by kernel_rfl) (args_slot _) (seg_RecvBuf_Nxt.B0_sound b w h)
  exact hc.mono fun e w' he => by
    obtain ⟨v, rfl, hv⟩ := he
    exact seg_RecvBuf_Nxt.RV_elim hv
def segm_RecvBuf_Nxt.B0 (b : Option Addr) (w : World)   (R : Int → World → Prop) : Prop :=
  Pn b fun a =>
  LdI .i64 a w fun x6 =>
  R x6 w
theorem segm_RecvBuf_Nxt.B0_eq (b : Option Addr) (w : World)   (R : Int → World → Prop)  :
    (
  Pn b fun a =>
  LdI .i64 a w fun x6 =>
  R x6 w) = kstep Try.prog 7 Try.f34.results.toList (Try.f34.body.getD .skip) (segm_RecvBuf_Nxt.RV R) (kvc Try.prog 7 Try.f34.results.toList (Try.f34.body.getD .skip) (segm_RecvBuf_Nxt.RV R) [] 2000) [(0, [])] [(0, .pointer b)] w := by kernel_rfl
theorem segm_RecvBuf_Nxt.B0_sound {R : Int → World → Prop}  (b : Option Addr) (w : World) (h : segm_RecvBuf_Nxt.B0 b w   R) :
    KW Try.prog 34 7 (segm_RecvBuf_Nxt.RV R) ([(0, [])].map (toItem (Try.f34.body.getD .skip))) [(0, .pointer b)] w := by
  exact block_spec Try.func34 Try.mixed stops_nil (Eq.mp (segm_RecvBuf_Nxt.B0_eq b w   R ) h)
theorem segm_RecvBuf_Nxt.sound (b : Option Addr) (w : World) (R : Int → World → Prop) (h : segm_RecvBuf_Nxt.B0 b w R) : segm_RecvBuf_Nxt.Call b w R := by
  have hc := calls_of_block (args := #[.pointer b]) Try.func34 (body := (Try.f34.body.getD .skip)) (by kernel_rfl) (by kernel_rfl) (args_slot _) (segm_RecvBuf_Nxt.B0_sound b w h)
  exact hc.mono fun e w' he => by
    obtain ⟨v, rfl, hv⟩ := he
    exact segm_RecvBuf_Nxt.RV_elim hv
def seg_RecvBuf_Avail.B0 (b : Option Addr) (w : World)   (R : Int → World → Prop) : Prop :=
  Pn b fun a =>
  LdI .i64 (a.add 17) w fun x6 =>
  R x6 w
theorem seg_RecvBuf_Avail.B0_eq (b : Option Addr) (w : World)   (R : Int → World → Prop)  :
    (
  Pn b fun a =>
  LdI .i64 (a.add 17) w fun x6 =>
  R x6 w) = kstep Try.prog 7 Try.f35.results.toList (Try.f35.body.getD .skip) (seg_RecvBuf_Avail.RV R) (kvc Try.prog 7 Try.f35.results.toList (Try.f35.body.getD .skip) (seg_RecvBuf_Avail.RV R) [] 2000) [(0, [])] [(0, .pointer b)] w := by kernel_rfl
theorem seg_RecvBuf_Avail.B0_sound {R : Int → World → Prop}  (b : Option Addr) (w : World) (h : seg_RecvBuf_Avail.B0 b w   R) :
    KW Try.prog 35 7 (seg_RecvBuf_Avail.RV R) ([(0, [])].map (toItem (Try.f35.body.getD .skip))) [(0, .pointer b)] w := by
  exact block_spec Try.func35 Try.mixed stops_nil (Eq.mp (seg_RecvBuf_Avail.B0_eq b w   R ) h)
theorem seg_RecvBuf_Avail.sound (b : Option Addr) (w : World) (R : Int → World → Prop) (h : seg_RecvBuf_Avail.B0 b w R) : seg_RecvBuf_Avail.Call b w R := by
  have hc := calls_of_block (args := #[.pointer b]) Try.func35 (body := (Try.f35.body.getD .skip)) (by kernel_rfl) (by kernel_rfl) (args_slot _) (seg_RecvBuf_Avail.B0_sound b w h)
  exact hc.mono fun e w' he => by
    obtain ⟨v, rfl, hv⟩ := he
    exact seg_RecvBuf_Avail.RV_elim hv
end Go.Proofs.Qxb6500426a
