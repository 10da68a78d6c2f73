import Derived.Test.Qxb6500430aGreatSig
set_option maxRecDepth 100000
set_option linter.unusedVariables false
open Go.Vc
namespace Go.Proofs.Qxb6500430aGreat
def node_sumOf.L1b (s : ByteArray) (end0 sum i : Int) (w : World)  (N1 : ByteArray → Int → Int → Int → World → Prop) (R : Int → World → Prop) : Prop :=
  Bm (decide (i < end0)) (
    (0 ≤ i ∧ i < ((s.size : Nat) : Int)) ∧
    node_mix.Call sum (byteAt s i) w fun r16 w1 =>
    N1 s end0 r16 (IntKind.i64.wrap (i + (1 : Int))) w1) (
    R sum w)
theorem node_sumOf.L1b_eq (s : ByteArray) (end0 sum i : Int) (w : World)  (N1 : ByteArray → Int → Int → Int → World → Prop) (R : Int → World → Prop)  :
    (
  Bm (decide (i < end0)) (
    (0 ≤ i ∧ i < ((s.size : Nat) : Int)) ∧
    node_mix.Call sum (byteAt s i) w fun r16 w1 =>
    N1 s end0 r16 (IntKind.i64.wrap (i + (1 : Int))) w1) (
    R sum w)) = kstep Tryz.prog 18 Tryz.f148.results.toList (Tryz.f148.body.getD .skip) (node_sumOf.RV R) (kvc Tryz.prog 18 Tryz.f148.results.toList (Tryz.f148.body.getD .skip) (node_sumOf.RV R) [([(0, [1, 1, 0, 1, 0, 0]), (2, [1, 1, 0, 1, 0, 0]), (1, [0]), (0, [1, 1, 1])], fun σ w => dS (slotOf σ 0) fun s_ => dI .i64 (slotOf σ 1) fun end0_ => dI .i64 (slotOf σ 5) fun sum_ => dI .i64 (slotOf σ 6) fun i_ => N1 s_ end0_ sum_ i_ w)] 2000) [(0, [1, 1, 0, 1, 0, 0]), (2, [1, 1, 0, 1, 0, 0]), (1, [0]), (0, [1, 1, 1])] [(0, .string s), (1, .int .i64 end0), (5, .int .i64 sum), (6, .int .i64 i)] w := by kernel_rfl
theorem node_sumOf.L1b_sound {R : Int → World → Prop} {N1 : ByteArray → Int → Int → Int → World → Prop} (hN1 : ∀ s end0 sum i w, N1 s end0 sum i w → KW Tryz.prog 148 18 (node_sumOf.RV R) ([(0, [1, 1, 0, 1, 0, 0]), (2, [1, 1, 0, 1, 0, 0]), (1, [0]), (0, [1, 1, 1])].map (toItem (Tryz.f148.body.getD .skip))) [(0, .string s), (1, .int .i64 end0), (5, .int .i64 sum), (6, .int .i64 i)] w) (s : ByteArray) (end0 sum i : Int) (w : World) (h : node_sumOf.L1b s end0 sum i w  N1 R) :
    KW Tryz.prog 148 18 (node_sumOf.RV R) ([(0, [1, 1, 0, 1, 0, 0]), (2, [1, 1, 0, 1, 0, 0]), (1, [0]), (0, [1, 1, 1])].map (toItem (Tryz.f148.body.getD .skip))) [(0, .string s), (1, .int .i64 end0), (5, .int .i64 sum), (6, .int .i64 i)] w := by
  exact block_spec Tryz.func148 Tryz.mixed (stops_cons (fun σ w h => by
      obtain ⟨s_, e0, h⟩ := dS_elim h
      obtain ⟨end0_, e1, h⟩ := dI_elim h
      obtain ⟨sum_, e2, h⟩ := dI_elim h
      obtain ⟨i_, e3, h⟩ := dI_elim h
      exact (hN1 s_ end0_ sum_ i_ w h).weaken (Sub.cons (Sub.cons (Sub.cons (Sub.cons (Sub.nil _) e3) e2) e1) e0)) stops_nil) (Eq.mp (node_sumOf.L1b_eq s end0 sum i w  N1 R ) h)
def node_sumOf.L1 (s : ByteArray) (end0 sum i : Int) (w : World)  (R : Int → World → Prop) : Prop :=
  ∃ (I : Nat → ByteArray → Int → Int → Int → World → Prop) (m : Nat), I m s end0 sum i w ∧ ∀ m s end0 sum i w, I m s end0 sum i w → node_sumOf.L1b s end0 sum i w  (fun s' end0' sum' i' w' => ∃ m', m' < m ∧ I m' s' end0' sum' i' w') R
theorem node_sumOf.L1_sound {R : Int → World → Prop}  (s : ByteArray) (end0 sum i : Int) (w : World) (h : node_sumOf.L1 s end0 sum i w  R) :
    KW Tryz.prog 148 18 (node_sumOf.RV R) ([(0, [1, 1, 0, 1, 0, 0]), (2, [1, 1, 0, 1, 0, 0]), (1, [0]), (0, [1, 1, 1])].map (toItem (Tryz.f148.body.getD .skip))) [(0, .string s), (1, .int .i64 end0), (5, .int .i64 sum), (6, .int .i64 i)] w := by
  obtain ⟨I, m, hBase, hr⟩ := h
  refine KW.loop (fun m σ w => ∃ (s : ByteArray) (end0 sum i : Int), σ = [(0, .string s), (1, .int .i64 end0), (5, .int .i64 sum), (6, .int .i64 i)] ∧ I m s end0 sum i w) ?_ m _ w ⟨s, end0, sum, i, rfl, hBase⟩
  rintro m ih σ w ⟨s, end0, sum, i, rfl, hI⟩
  exact node_sumOf.L1b_sound  (N1 := fun s' end0' sum' i' w' => ∃ m', m' < m ∧ I m' s' end0' sum' i' w') (fun s' end0' sum' i' w' hx => by obtain ⟨m', hlt, hI'⟩ := hx; exact ih m' hlt _ w' ⟨s', end0', sum', i', rfl, hI'⟩) s end0 sum i w (hr m s end0 sum i w hI)
def node_sumOf.B0 (s : ByteArray) (end0 : Int) (w : World)   (R : Int → World → Prop) : Prop :=
  node_sumOf.L1 s end0 (7439 : Int) (0 : Int) w  R
theorem node_sumOf.B0_eq (s : ByteArray) (end0 : Int) (w : World)   (R : Int → World → Prop) (sL1 : ByteArray → Int → Int → Int → World → Prop) :
    (
  sL1 s end0 (7439 : Int) (0 : Int) w) = kstep Tryz.prog 18 Tryz.f148.results.toList (Tryz.f148.body.getD .skip) (node_sumOf.RV R) (kvc Tryz.prog 18 Tryz.f148.results.toList (Tryz.f148.body.getD .skip) (node_sumOf.RV R) [([(0, [1, 1, 0, 1, 0, 0]), (2, [1, 1, 0, 1, 0, 0]), (1, [0]), (0, [1, 1, 1])], fun σ w => dS (slotOf σ 0) fun s_ => dI .i64 (slotOf σ 1) fun end0_ => dI .i64 (slotOf σ 5) fun sum_ => dI .i64 (slotOf σ 6) fun i_ => sL1 s_ end0_ sum_ i_ w)] 2000) [(0, [])] [(0, .string s), (1, .int .i64 end0)] w := by kernel_rfl
theorem node_sumOf.B0_sound {R : Int → World → Prop}  (s : ByteArray) (end0 : Int) (w : World) (h : node_sumOf.B0 s end0 w   R) :
    KW Tryz.prog 148 18 (node_sumOf.RV R) ([(0, [])].map (toItem (Tryz.f148.body.getD .skip))) [(0, .string s), (1, .int .i64 end0)] w := by
  exact block_spec Tryz.func148 Tryz.mixed (stops_cons (fun σ w h => by
      obtain ⟨s_, e0, h⟩ := dS_elim h
      obtain ⟨end0_, e1, h⟩ := dI_elim h
      obtain ⟨sum_, e2, h⟩ := dI_elim h
      obtain ⟨i_, e3, h⟩ := dI_elim h
      exact (node_sumOf.L1_sound  s_ end0_ sum_ i_ w h).weaken (Sub.cons (Sub.cons (Sub.cons (Sub.cons (Sub.nil _) e3) e2) e1) e0)) stops_nil) (Eq.mp (node_sumOf.B0_eq s end0 w   R (fun s_ end0_ sum_ i_ w => node_sumOf.L1 s_ end0_ sum_ i_ w  R)) h)
theorem node_sumOf.sound (s : ByteArray) (end0 : Int) (w : World) (R : Int → World → Prop) (h : node_sumOf.B0 s end0 w R) : node_sumOf.Call s end0 w R := by
  have hc := calls_of_block (args := #[.string s, .int .i64 end0]) Tryz.func148 (body := (Tryz.f148.body.getD .skip)) (by kernel_rfl) (by kernel_rfl) (args_slot _) (node_sumOf.B0_sound s end0 w h)
  exact hc.mono fun e w' he => by
    obtain ⟨v, rfl, hv⟩ := he
    exact node_sumOf.RV_elim hv
def node_dec_one.B1 (d : Option Addr) (t18 : Bool) (w : World)   (R : Int → World → Prop) : Prop :=
  Bm t18 (
    Pn d fun a =>
    Sts [.bool true] (a.add 3) 0 w fun w1 =>
    R (0 : Int) w1) (
    Pn d fun a_1 =>
    LdS a_1 w.drew fun x25 =>
    Pn d fun a_2 =>
    LdI .i64 (a_2.add 1) w.drew fun x29 =>
    (0 ≤ x29 ∧ x29 < ((x25.size : Nat) : Int)) ∧
    Pn d fun a_3 =>
    LdI .i64 (a_3.add 1) w.drew fun x35 =>
    Pn d fun a_4 =>
    Sts [.int .i64 (IntKind.i64.wrap (x35 + (1 : Int)))] (a_4.add 1) 0 w.drew fun w2 =>
    R (IntKind.i64.wrap (byteAt x25 x29)) w2)
theorem node_dec_one.B1_eq (d : Option Addr) (t18 : Bool) (w : World)   (R : Int → World → Prop)  :
    (
  Bm t18 (
    Pn d fun a =>
    Sts [.bool true] (a.add 3) 0 w fun w1 =>
    R (0 : Int) w1) (
    Pn d fun a_1 =>
    LdS a_1 w.drew fun x25 =>
    Pn d fun a_2 =>
    LdI .i64 (a_2.add 1) w.drew fun x29 =>
    (0 ≤ x29 ∧ x29 < ((x25.size : Nat) : Int)) ∧
    Pn d fun a_3 =>
    LdI .i64 (a_3.add 1) w.drew fun x35 =>
    Pn d fun a_4 =>
    Sts [.int .i64 (IntKind.i64.wrap (x35 + (1 : Int)))] (a_4.add 1) 0 w.drew fun w2 =>
    R (IntKind.i64.wrap (byteAt x25 x29)) w2)) = kstep Tryz.prog 40 Tryz.f149.results.toList (Tryz.f149.body.getD .skip) (node_dec_one.RV R) (kvc Tryz.prog 40 Tryz.f149.results.toList (Tryz.f149.body.getD .skip) (node_dec_one.RV R) [] 2000) [(0, [1, 0, 1]), (0, [1, 1])] [(0, .pointer d), (18, .bool t18)] w := by kernel_rfl
theorem node_dec_one.B1_sound {R : Int → World → Prop}  (d : Option Addr) (t18 : Bool) (w : World) (h : node_dec_one.B1 d t18 w   R) :
    KW Tryz.prog 149 40 (node_dec_one.RV R) ([(0, [1, 0, 1]), (0, [1, 1])].map (toItem (Tryz.f149.body.getD .skip))) [(0, .pointer d), (18, .bool t18)] w := by
  exact block_spec Tryz.func149 Tryz.mixed stops_nil (Eq.mp (node_dec_one.B1_eq d t18 w   R ) h)
def node_dec_one.B0 (d : Option Addr) (w : World)   (R : Int → World → Prop) : Prop :=
  Pn d fun a =>
  LdB (a.add 3) w.drew fun x7 =>
  Bm x7 (
    node_dec_one.B1 d true w.drew  R) (
    Pn d fun a_1 =>
    LdI .i64 (a_1.add 1) w.drew fun x12 =>
    Pn d fun a_2 =>
    LdI .i64 (a_2.add 2) w.drew fun x16 =>
    node_dec_one.B1 d (decide (x12 ≥ x16)) w.drew  R)
theorem node_dec_one.B0_eq (d : Option Addr) (w : World)   (R : Int → World → Prop) (sB1 : Option Addr → Bool → World → Prop) :
    (
  Pn d fun a =>
  LdB (a.add 3) w.drew fun x7 =>
  Bm x7 (
    sB1 d true w.drew) (
    Pn d fun a_1 =>
    LdI .i64 (a_1.add 1) w.drew fun x12 =>
    Pn d fun a_2 =>
    LdI .i64 (a_2.add 2) w.drew fun x16 =>
    sB1 d (decide (x12 ≥ x16)) w.drew)) = kstep Tryz.prog 40 Tryz.f149.results.toList (Tryz.f149.body.getD .skip) (node_dec_one.RV R) (kvc Tryz.prog 40 Tryz.f149.results.toList (Tryz.f149.body.getD .skip) (node_dec_one.RV R) [([(0, [1, 0, 1]), (0, [1, 1])], fun σ w => dP (slotOf σ 0) fun d_ => dB (slotOf σ 18) fun t18_ => sB1 d_ t18_ w)] 2000) [(0, [])] [(0, .pointer d)] w := by kernel_rfl
theorem node_dec_one.B0_sound {R : Int → World → Prop}  (d : Option Addr) (w : World) (h : node_dec_one.B0 d w   R) :
    KW Tryz.prog 149 40 (node_dec_one.RV R) ([(0, [])].map (toItem (Tryz.f149.body.getD .skip))) [(0, .pointer d)] w := by
  exact block_spec Tryz.func149 Tryz.mixed (stops_cons (fun σ w h => by
      obtain ⟨d_, e0, h⟩ := dP_elim h
      obtain ⟨t18_, e1, h⟩ := dB_elim h
      exact (node_dec_one.B1_sound  d_ t18_ w h).weaken (Sub.cons (Sub.cons (Sub.nil _) e1) e0)) stops_nil) (Eq.mp (node_dec_one.B0_eq d w   R (fun d_ t18_ w => node_dec_one.B1 d_ t18_ w  R)) h)
theorem node_dec_one.sound (d : Option Addr) (w : World) (R : Int → World → Prop) (h : node_dec_one.B0 d w R) : node_dec_one.Call d w R := by
  have hc := calls_of_block (args := #[.pointer d]) Tryz.func149 (body := (Tryz.f149.body.getD .skip)) (by kernel_rfl) (by kernel_rfl) (args_slot _) (node_dec_one.B0_sound d w h)
  exact hc.mono fun e w' he => by
    obtain ⟨v, rfl, hv⟩ := he
    exact node_dec_one.RV_elim hv
def node_dec_num.L1b (d : Option Addr) (v i : Int) (w : World)  (N1 : Option Addr → Int → Int → World → Prop) (R : Int → World → Prop) : Prop :=
  Bm (decide (i < (8 : Int))) (
    0 ≤ (8 : Int) ∧
    Pn d fun a =>
    LdS a w.drew fun x33 =>
    Pn d fun a_1 =>
    LdI .i64 (a_1.add 1) w.drew fun x37 =>
    (0 ≤ (IntKind.i64.wrap (x37 + i)) ∧ (IntKind.i64.wrap (x37 + i)) < ((x33.size : Nat) : Int)) ∧
    N1 d (IntKind.u64.wrap (BitVec.ofInt IntKind.u64.bits (IntKind.u64.wrap (v * 2 ^ (min (8 : Int).toNat IntKind.u64.bits))) ||| BitVec.ofInt IntKind.u64.bits (IntKind.u64.wrap (byteAt x33 (IntKind.i64.wrap (x37 + i))))).toNat) (IntKind.i64.wrap (i + (1 : Int))) w.drew) (
    Pn d fun a_2 =>
    LdI .i64 (a_2.add 1) w fun x46 =>
    Pn d fun a_3 =>
    Sts [.int .i64 (IntKind.i64.wrap (x46 + (8 : Int)))] (a_3.add 1) 0 w fun w1 =>
    Bm (decide (v > (72057594037927936 : Int))) (
      Pn d fun a_4 =>
      Sts [.bool true] (a_4.add 3) 0 w1 fun w2 =>
      R (0 : Int) w2) (
      R (IntKind.i64.wrap v) w1))
theorem node_dec_num.L1b_eq (d : Option Addr) (v i : Int) (w : World)  (N1 : Option Addr → Int → Int → World → Prop) (R : Int → World → Prop)  :
    (
  Bm (decide (i < (8 : Int))) (
    0 ≤ (8 : Int) ∧
    Pn d fun a =>
    LdS a w.drew fun x33 =>
    Pn d fun a_1 =>
    LdI .i64 (a_1.add 1) w.drew fun x37 =>
    (0 ≤ (IntKind.i64.wrap (x37 + i)) ∧ (IntKind.i64.wrap (x37 + i)) < ((x33.size : Nat) : Int)) ∧
    N1 d (IntKind.u64.wrap (BitVec.ofInt IntKind.u64.bits (IntKind.u64.wrap (v * 2 ^ (min (8 : Int).toNat IntKind.u64.bits))) ||| BitVec.ofInt IntKind.u64.bits (IntKind.u64.wrap (byteAt x33 (IntKind.i64.wrap (x37 + i))))).toNat) (IntKind.i64.wrap (i + (1 : Int))) w.drew) (
    Pn d fun a_2 =>
    LdI .i64 (a_2.add 1) w fun x46 =>
    Pn d fun a_3 =>
    Sts [.int .i64 (IntKind.i64.wrap (x46 + (8 : Int)))] (a_3.add 1) 0 w fun w1 =>
    Bm (decide (v > (72057594037927936 : Int))) (
      Pn d fun a_4 =>
      Sts [.bool true] (a_4.add 3) 0 w1 fun w2 =>
      R (0 : Int) w2) (
      R (IntKind.i64.wrap v) w1))) = kstep Tryz.prog 57 Tryz.f150.results.toList (Tryz.f150.body.getD .skip) (node_dec_num.RV R) (kvc Tryz.prog 57 Tryz.f150.results.toList (Tryz.f150.body.getD .skip) (node_dec_num.RV R) [([(0, [1, 1, 1, 0, 1, 0, 0]), (2, [1, 1, 1, 0, 1, 0, 0]), (1, [0]), (0, [1, 1, 1, 1])], fun σ w => dP (slotOf σ 0) fun d_ => dI .u64 (slotOf σ 3) fun v_ => dI .i64 (slotOf σ 4) fun i_ => N1 d_ v_ i_ w)] 2000) [(0, [1, 1, 1, 0, 1, 0, 0]), (2, [1, 1, 1, 0, 1, 0, 0]), (1, [0]), (0, [1, 1, 1, 1])] [(0, .pointer d), (3, .int .u64 v), (4, .int .i64 i)] w := by kernel_rfl
theorem node_dec_num.L1b_sound {R : Int → World → Prop} {N1 : Option Addr → Int → Int → World → Prop} (hN1 : ∀ d v i w, N1 d v i w → KW Tryz.prog 150 57 (node_dec_num.RV R) ([(0, [1, 1, 1, 0, 1, 0, 0]), (2, [1, 1, 1, 0, 1, 0, 0]), (1, [0]), (0, [1, 1, 1, 1])].map (toItem (Tryz.f150.body.getD .skip))) [(0, .pointer d), (3, .int .u64 v), (4, .int .i64 i)] w) (d : Option Addr) (v i : Int) (w : World) (h : node_dec_num.L1b d v i w  N1 R) :
    KW Tryz.prog 150 57 (node_dec_num.RV R) ([(0, [1, 1, 1, 0, 1, 0, 0]), (2, [1, 1, 1, 0, 1, 0, 0]), (1, [0]), (0, [1, 1, 1, 1])].map (toItem (Tryz.f150.body.getD .skip))) [(0, .pointer d), (3, .int .u64 v), (4, .int .i64 i)] w := by
  exact block_spec Tryz.func150 Tryz.mixed (stops_cons (fun σ w h => by
      obtain ⟨d_, e0, h⟩ := dP_elim h
      obtain ⟨v_, e1, h⟩ := dI_elim h
      obtain ⟨i_, e2, h⟩ := dI_elim h
      exact (hN1 d_ v_ i_ w h).weaken (Sub.cons (Sub.cons (Sub.cons (Sub.nil _) e2) e1) e0)) stops_nil) (Eq.mp (node_dec_num.L1b_eq d v i w  N1 R ) h)
def node_dec_num.L1 (d : Option Addr) (v i : Int) (w : World)  (R : Int → World → Prop) : Prop :=
  ∃ (I : Nat → Option Addr → Int → Int → World → Prop) (m : Nat), I m d v i w ∧ ∀ m d v i w, I m d v i w → node_dec_num.L1b d v i w  (fun d' v' i' w' => ∃ m', m' < m ∧ I m' d' v' i' w') R
theorem node_dec_num.L1_sound {R : Int → World → Prop}  (d : Option Addr) (v i : Int) (w : World) (h : node_dec_num.L1 d v i w  R) :
    KW Tryz.prog 150 57 (node_dec_num.RV R) ([(0, [1, 1, 1, 0, 1, 0, 0]), (2, [1, 1, 1, 0, 1, 0, 0]), (1, [0]), (0, [1, 1, 1, 1])].map (toItem (Tryz.f150.body.getD .skip))) [(0, .pointer d), (3, .int .u64 v), (4, .int .i64 i)] w := by
  obtain ⟨I, m, hBase, hr⟩ := h
  refine KW.loop (fun m σ w => ∃ (d : Option Addr) (v i : Int), σ = [(0, .pointer d), (3, .int .u64 v), (4, .int .i64 i)] ∧ I m d v i w) ?_ m _ w ⟨d, v, i, rfl, hBase⟩
  rintro m ih σ w ⟨d, v, i, rfl, hI⟩
  exact node_dec_num.L1b_sound  (N1 := fun d' v' i' w' => ∃ m', m' < m ∧ I m' d' v' i' w') (fun d' v' i' w' hx => by obtain ⟨m', hlt, hI'⟩ := hx; exact ih m' hlt _ w' ⟨d', v', i', rfl, hI'⟩) d v i w (hr m d v i w hI)
def node_dec_num.B1 (d : Option Addr) (t20 : Bool) (w : World)   (R : Int → World → Prop) : Prop :=
  Bm t20 (
    Pn d fun a =>
    Sts [.bool true] (a.add 3) 0 w fun w1 =>
    R (0 : Int) w1) (
    node_dec_num.L1 d (0 : Int) (0 : Int) w  R)
theorem node_dec_num.B1_eq (d : Option Addr) (t20 : Bool) (w : World)   (R : Int → World → Prop) (sL1 : Option Addr → Int → Int → World → Prop) :
    (
  Bm t20 (
    Pn d fun a =>
    Sts [.bool true] (a.add 3) 0 w fun w1 =>
    R (0 : Int) w1) (
    sL1 d (0 : Int) (0 : Int) w)) = kstep Tryz.prog 57 Tryz.f150.results.toList (Tryz.f150.body.getD .skip) (node_dec_num.RV R) (kvc Tryz.prog 57 Tryz.f150.results.toList (Tryz.f150.body.getD .skip) (node_dec_num.RV R) [([(0, [1, 1, 1, 0, 1, 0, 0]), (2, [1, 1, 1, 0, 1, 0, 0]), (1, [0]), (0, [1, 1, 1, 1])], fun σ w => dP (slotOf σ 0) fun d_ => dI .u64 (slotOf σ 3) fun v_ => dI .i64 (slotOf σ 4) fun i_ => sL1 d_ v_ i_ w)] 2000) [(0, [1, 0, 1]), (0, [1, 1])] [(0, .pointer d), (20, .bool t20)] w := by kernel_rfl
theorem node_dec_num.B1_sound {R : Int → World → Prop}  (d : Option Addr) (t20 : Bool) (w : World) (h : node_dec_num.B1 d t20 w   R) :
    KW Tryz.prog 150 57 (node_dec_num.RV R) ([(0, [1, 0, 1]), (0, [1, 1])].map (toItem (Tryz.f150.body.getD .skip))) [(0, .pointer d), (20, .bool t20)] w := by
  exact block_spec Tryz.func150 Tryz.mixed (stops_cons (fun σ w h => by
      obtain ⟨d_, e0, h⟩ := dP_elim h
      obtain ⟨v_, e1, h⟩ := dI_elim h
      obtain ⟨i_, e2, h⟩ := dI_elim h
      exact (node_dec_num.L1_sound  d_ v_ i_ w h).weaken (Sub.cons (Sub.cons (Sub.cons (Sub.nil _) e2) e1) e0)) stops_nil) (Eq.mp (node_dec_num.B1_eq d t20 w   R (fun d_ v_ i_ w => node_dec_num.L1 d_ v_ i_ w  R)) h)
def node_dec_num.B0 (d : Option Addr) (w : World)   (R : Int → World → Prop) : Prop :=
  Pn d fun a =>
  LdB (a.add 3) w.drew fun x8 =>
  Bm x8 (
    node_dec_num.B1 d true w.drew  R) (
    Pn d fun a_1 =>
    LdI .i64 (a_1.add 1) w.drew fun x13 =>
    Pn d fun a_2 =>
    LdI .i64 (a_2.add 2) w.drew fun x18 =>
    node_dec_num.B1 d (decide ((IntKind.i64.wrap (x13 + (8 : Int))) > x18)) w.drew  R)
theorem node_dec_num.B0_eq (d : Option Addr) (w : World)   (R : Int → World → Prop) (sB1 : Option Addr → Bool → World → Prop) :
    (
  Pn d fun a =>
  LdB (a.add 3) w.drew fun x8 =>
  Bm x8 (
    sB1 d true w.drew) (
    Pn d fun a_1 =>
    LdI .i64 (a_1.add 1) w.drew fun x13 =>
    Pn d fun a_2 =>
    LdI .i64 (a_2.add 2) w.drew fun x18 =>
    sB1 d (decide ((IntKind.i64.wrap (x13 + (8 : Int))) > x18)) w.drew)) = kstep Tryz.prog 57 Tryz.f150.results.toList (Tryz.f150.body.getD .skip) (node_dec_num.RV R) (kvc Tryz.prog 57 Tryz.f150.results.toList (Tryz.f150.body.getD .skip) (node_dec_num.RV R) [([(0, [1, 0, 1]), (0, [1, 1])], fun σ w => dP (slotOf σ 0) fun d_ => dB (slotOf σ 20) fun t20_ => sB1 d_ t20_ w)] 2000) [(0, [])] [(0, .pointer d)] w := by kernel_rfl
theorem node_dec_num.B0_sound {R : Int → World → Prop}  (d : Option Addr) (w : World) (h : node_dec_num.B0 d w   R) :
    KW Tryz.prog 150 57 (node_dec_num.RV R) ([(0, [])].map (toItem (Tryz.f150.body.getD .skip))) [(0, .pointer d)] w := by
  exact block_spec Tryz.func150 Tryz.mixed (stops_cons (fun σ w h => by
      obtain ⟨d_, e0, h⟩ := dP_elim h
      obtain ⟨t20_, e1, h⟩ := dB_elim h
      exact (node_dec_num.B1_sound  d_ t20_ w h).weaken (Sub.cons (Sub.cons (Sub.nil _) e1) e0)) stops_nil) (Eq.mp (node_dec_num.B0_eq d w   R (fun d_ t20_ w => node_dec_num.B1 d_ t20_ w  R)) h)
theorem node_dec_num.sound (d : Option Addr) (w : World) (R : Int → World → Prop) (h : node_dec_num.B0 d w R) : node_dec_num.Call d w R := by
  have hc := calls_of_block (args := #[.pointer d]) Tryz.func150 (body := (Tryz.f150.body.getD .skip)) (by kernel_rfl) (by kernel_rfl) (args_slot _) (node_dec_num.B0_sound d w h)
  exact hc.mono fun e w' he => by
    obtain ⟨v, rfl, hv⟩ := he
    exact node_dec_num.RV_elim hv
def node_dec_text.B1 (d : Option Addr) (l : Int) (t30 : Bool) (w : World)   (R : ByteArray → World → Prop) : Prop :=
  Bm t30 (
    Pn d fun a =>
    Sts [.bool true] (a.add 3) 0 w fun w1 =>
    R (ByteArray.mk #[]) w1) (
    Pn d fun a_1 =>
    LdS a_1 w.drew fun x37 =>
    Pn d fun a_2 =>
    LdI .i64 (a_2.add 1) w.drew fun x41 =>
    Pn d fun a_3 =>
    LdI .i64 (a_3.add 1) w.drew fun x45 =>
    (0 ≤ (IntKind.i64.wrap (x45 + l)) ∧ (IntKind.i64.wrap (x45 + l)) ≤ ((x37.size : Nat) : Int)) ∧
    (0 ≤ x41 ∧ x41 ≤ (IntKind.i64.wrap (x45 + l))) ∧
    Pn d fun a_4 =>
    LdI .i64 (a_4.add 1) w.drew fun x52 =>
    Pn d fun a_5 =>
    Sts [.int .i64 (IntKind.i64.wrap (x52 + l))] (a_5.add 1) 0 w.drew fun w2 =>
    R (x37.extract x41.toNat (IntKind.i64.wrap (x45 + l)).toNat) w2)
theorem node_dec_text.B1_eq (d : Option Addr) (l : Int) (t30 : Bool) (w : World)   (R : ByteArray → World → Prop)  :
    (
  Bm t30 (
    Pn d fun a =>
    Sts [.bool true] (a.add 3) 0 w fun w1 =>
    R (ByteArray.mk #[]) w1) (
    Pn d fun a_1 =>
    LdS a_1 w.drew fun x37 =>
    Pn d fun a_2 =>
    LdI .i64 (a_2.add 1) w.drew fun x41 =>
    Pn d fun a_3 =>
    LdI .i64 (a_3.add 1) w.drew fun x45 =>
    (0 ≤ (IntKind.i64.wrap (x45 + l)) ∧ (IntKind.i64.wrap (x45 + l)) ≤ ((x37.size : Nat) : Int)) ∧
    (0 ≤ x41 ∧ x41 ≤ (IntKind.i64.wrap (x45 + l))) ∧
    Pn d fun a_4 =>
    LdI .i64 (a_4.add 1) w.drew fun x52 =>
    Pn d fun a_5 =>
    Sts [.int .i64 (IntKind.i64.wrap (x52 + l))] (a_5.add 1) 0 w.drew fun w2 =>
    R (x37.extract x41.toNat (IntKind.i64.wrap (x45 + l)).toNat) w2)) = kstep Tryz.prog 58 Tryz.f151.results.toList (Tryz.f151.body.getD .skip) (node_dec_text.RV R) (kvc Tryz.prog 58 Tryz.f151.results.toList (Tryz.f151.body.getD .skip) (node_dec_text.RV R) [] 2000) [(0, [1, 1, 0, 1]), (0, [1, 1, 1])] [(0, .pointer d), (5, .int .i64 l), (30, .bool t30)] w := by kernel_rfl
theorem node_dec_text.B1_sound {R : ByteArray → World → Prop}  (d : Option Addr) (l : Int) (t30 : Bool) (w : World) (h : node_dec_text.B1 d l t30 w   R) :
    KW Tryz.prog 151 58 (node_dec_text.RV R) ([(0, [1, 1, 0, 1]), (0, [1, 1, 1])].map (toItem (Tryz.f151.body.getD .skip))) [(0, .pointer d), (5, .int .i64 l), (30, .bool t30)] w := by
  exact block_spec Tryz.func151 Tryz.mixed stops_nil (Eq.mp (node_dec_text.B1_eq d l t30 w   R ) h)
def node_dec_text.B0 (d : Option Addr) (most : Int) (w : World)   (R : ByteArray → World → Prop) : Prop :=
  node_dec_one.Call d w fun r8 w1 =>
  Pn d fun a =>
  LdB (a.add 3) w1.drew fun x12 =>
  Bm x12 (
    node_dec_text.B1 d r8 true w1.drew  R) (
    Bm (decide (r8 > most)) (
      node_dec_text.B1 d r8 true w1.drew  R) (
      Pn d fun a_1 =>
      LdI .i64 (a_1.add 1) w1.drew fun x22 =>
      Pn d fun a_2 =>
      LdI .i64 (a_2.add 2) w1.drew fun x28 =>
      node_dec_text.B1 d r8 (decide ((IntKind.i64.wrap (x22 + r8)) > x28)) w1.drew  R))
theorem node_dec_text.B0_eq (d : Option Addr) (most : Int) (w : World)   (R : ByteArray → World → Prop) (sB1 : Option Addr → Int → Bool → World → Prop) :
    (
  node_dec_one.Call d w fun r8 w1 =>
  Pn d fun a =>
  LdB (a.add 3) w1.drew fun x12 =>
  Bm x12 (
    sB1 d r8 true w1.drew) (
    Bm (decide (r8 > most)) (
      sB1 d r8 true w1.drew) (
      Pn d fun a_1 =>
      LdI .i64 (a_1.add 1) w1.drew fun x22 =>
      Pn d fun a_2 =>
      LdI .i64 (a_2.add 2) w1.drew fun x28 =>
      sB1 d r8 (decide ((IntKind.i64.wrap (x22 + r8)) > x28)) w1.drew))) = kstep Tryz.prog 58 Tryz.f151.results.toList (Tryz.f151.body.getD .skip) (node_dec_text.RV R) (kvc Tryz.prog 58 Tryz.f151.results.toList (Tryz.f151.body.getD .skip) (node_dec_text.RV R) [([(0, [1, 1, 0, 1]), (0, [1, 1, 1])], fun σ w => dP (slotOf σ 0) fun d_ => dI .i64 (slotOf σ 5) fun l_ => dB (slotOf σ 30) fun t30_ => sB1 d_ l_ t30_ w)] 2000) [(0, [])] [(0, .pointer d), (1, .int .i64 most)] w := by kernel_rfl
theorem node_dec_text.B0_sound {R : ByteArray → World → Prop}  (d : Option Addr) (most : Int) (w : World) (h : node_dec_text.B0 d most w   R) :
    KW Tryz.prog 151 58 (node_dec_text.RV R) ([(0, [])].map (toItem (Tryz.f151.body.getD .skip))) [(0, .pointer d), (1, .int .i64 most)] w := by
  exact block_spec Tryz.func151 Tryz.mixed (stops_cons (fun σ w h => by
      obtain ⟨d_, e0, h⟩ := dP_elim h
      obtain ⟨l_, e1, h⟩ := dI_elim h
      obtain ⟨t30_, e2, h⟩ := dB_elim h
      exact (node_dec_text.B1_sound  d_ l_ t30_ w h).weaken (Sub.cons (Sub.cons (Sub.cons (Sub.nil _) e2) e1) e0)) stops_nil) (Eq.mp (node_dec_text.B0_eq d most w   R (fun d_ l_ t30_ w => node_dec_text.B1 d_ l_ t30_ w  R)) h)
theorem node_dec_text.sound (d : Option Addr) (most : Int) (w : World) (R : ByteArray → World → Prop) (h : node_dec_text.B0 d most w R) : node_dec_text.Call d most w R := by
  have hc := calls_of_block (args := #[.pointer d, .int .i64 most]) Tryz.func151 (body := (Tryz.f151.body.getD .skip)) (by kernel_rfl) (by kernel_rfl) (args_slot _) (node_dec_text.B0_sound d most w h)
  exact hc.mono fun e w' he => by
    obtain ⟨v, rfl, hv⟩ := he
    exact node_dec_text.RV_elim hv
def api_MsgOK.B5 (m0 : Nat) (i : Int) (t110 : Bool) (w : World) (N1 : Nat → Int → World → Prop)  (R : Bool → World → Prop) : Prop :=
  Bm t110 (
    R false w) (
    N1 m0 (IntKind.i64.wrap (i + (1 : Int))) w)
theorem api_MsgOK.B5_eq (m0 : Nat) (i : Int) (t110 : Bool) (w : World) (N1 : Nat → Int → World → Prop)  (R : Bool → World → Prop)  :
    (
  Bm t110 (
    R false w) (
    N1 m0 (IntKind.i64.wrap (i + (1 : Int))) w)) = kstep Tryz.prog 111 Tryz.f152.results.toList (Tryz.f152.body.getD .skip) (api_MsgOK.RV R) (kvc Tryz.prog 111 Tryz.f152.results.toList (Tryz.f152.body.getD .skip) (api_MsgOK.RV R) [([(0, [1, 1, 1, 1, 1, 0, 1, 0, 0]), (2, [1, 1, 1, 1, 1, 0, 1, 0, 0]), (1, [0]), (0, [1, 1, 1, 1, 1, 1])], fun σ w => dK (slotOf σ 1) fun m0_ => dI .i64 (slotOf σ 3) fun i_ => N1 m0_ i_ w)] 2000) [(0, [1, 1, 1, 1, 1, 0, 1, 0, 0, 1, 0, 0, 1]), (1, [1]), (0, [1, 1, 1, 1, 1, 0, 1, 0, 0, 1, 1]), (2, [1, 1, 1, 1, 1, 0, 1, 0, 0]), (1, [0]), (0, [1, 1, 1, 1, 1, 1])] [(1, .pointer (some ⟨m0, 0, none⟩)), (3, .int .i64 i), (110, .bool t110)] w := by kernel_rfl
theorem api_MsgOK.B5_sound {R : Bool → World → Prop} {N1 : Nat → Int → World → Prop} (hN1 : ∀ m0 i w, N1 m0 i w → KW Tryz.prog 152 111 (api_MsgOK.RV R) ([(0, [1, 1, 1, 1, 1, 0, 1, 0, 0]), (2, [1, 1, 1, 1, 1, 0, 1, 0, 0]), (1, [0]), (0, [1, 1, 1, 1, 1, 1])].map (toItem (Tryz.f152.body.getD .skip))) [(1, .pointer (some ⟨m0, 0, none⟩)), (3, .int .i64 i)] w) (m0 : Nat) (i : Int) (t110 : Bool) (w : World) (h : api_MsgOK.B5 m0 i t110 w N1  R) :
    KW Tryz.prog 152 111 (api_MsgOK.RV R) ([(0, [1, 1, 1, 1, 1, 0, 1, 0, 0, 1, 0, 0, 1]), (1, [1]), (0, [1, 1, 1, 1, 1, 0, 1, 0, 0, 1, 1]), (2, [1, 1, 1, 1, 1, 0, 1, 0, 0]), (1, [0]), (0, [1, 1, 1, 1, 1, 1])].map (toItem (Tryz.f152.body.getD .skip))) [(1, .pointer (some ⟨m0, 0, none⟩)), (3, .int .i64 i), (110, .bool t110)] w := by
  exact block_spec Tryz.func152 Tryz.mixed (stops_cons (fun σ w h => by
      obtain ⟨m0_, e0, h⟩ := dK_elim h
      obtain ⟨i_, e1, h⟩ := dI_elim h
      exact (hN1 m0_ i_ w h).weaken (Sub.cons (Sub.cons (Sub.nil _) e1) e0)) stops_nil) (Eq.mp (api_MsgOK.B5_eq m0 i t110 w N1  R ) h)
def api_MsgOK.L1b (m0 : Nat) (i : Int) (w : World)  (N1 : Nat → Int → World → Prop) (R : Bool → World → Prop) : Prop :=
  LdL ⟨m0, 8, none⟩ w fun x80_b x80_l x80_c =>
  Bm (decide (i < ((x80_l : Nat) : Int))) (
    LdL ⟨m0, 8, none⟩ w fun x86_b x86_l x86_c =>
    Pn x86_b fun a =>
    (0 ≤ i ∧ i < ((x86_l : Nat) : Int)) ∧
    LdI .i64 (Addr.add a (i.toNat * 2)) w fun x90 =>
    Bm (decide (x90 < (0 : Int))) (
      api_MsgOK.B5 m0 i true w N1 R) (
      LdL ⟨m0, 8, none⟩ w fun x94_b x94_l x94_c =>
      Pn x94_b fun a_1 =>
      (0 ≤ i ∧ i < ((x94_l : Nat) : Int)) ∧
      LdI .i64 (Addr.add a_1 (i.toNat * 2)) w fun x98 =>
      Bm (decide (x98 > (72057594037927936 : Int))) (
        api_MsgOK.B5 m0 i true w N1 R) (
        LdL ⟨m0, 8, none⟩ w fun x103_b x103_l x103_c =>
        Pn x103_b fun a_2 =>
        (0 ≤ i ∧ i < ((x103_l : Nat) : Int)) ∧
        LdS ((Addr.add a_2 (i.toNat * 2)).add 1) w fun x107 =>
        api_MsgOK.B5 m0 i (decide (((x107.size : Nat) : Int) > (24 : Int))) w N1 R))) (
    R true w)
theorem api_MsgOK.L1b_eq (m0 : Nat) (i : Int) (w : World)  (N1 : Nat → Int → World → Prop) (R : Bool → World → Prop) (sB5 : Nat → Int → Bool → World → Prop) :
    (
  LdL ⟨m0, 8, none⟩ w fun x80_b x80_l x80_c =>
  Bm (decide (i < ((x80_l : Nat) : Int))) (
    LdL ⟨m0, 8, none⟩ w fun x86_b x86_l x86_c =>
    Pn x86_b fun a =>
    (0 ≤ i ∧ i < ((x86_l : Nat) : Int)) ∧
    LdI .i64 (Addr.add a (i.toNat * 2)) w fun x90 =>
    Bm (decide (x90 < (0 : Int))) (
      sB5 m0 i true w) (
      LdL ⟨m0, 8, none⟩ w fun x94_b x94_l x94_c =>
      Pn x94_b fun a_1 =>
      (0 ≤ i ∧ i < ((x94_l : Nat) : Int)) ∧
      LdI .i64 (Addr.add a_1 (i.toNat * 2)) w fun x98 =>
      Bm (decide (x98 > (72057594037927936 : Int))) (
        sB5 m0 i true w) (
        LdL ⟨m0, 8, none⟩ w fun x103_b x103_l x103_c =>
        Pn x103_b fun a_2 =>
        (0 ≤ i ∧ i < ((x103_l : Nat) : Int)) ∧
        LdS ((Addr.add a_2 (i.toNat * 2)).add 1) w fun x107 =>
        sB5 m0 i (decide (((x107.size : Nat) : Int) > (24 : Int))) w))) (
    R true w)) = kstep Tryz.prog 111 Tryz.f152.results.toList (Tryz.f152.body.getD .skip) (api_MsgOK.RV R) (kvc Tryz.prog 111 Tryz.f152.results.toList (Tryz.f152.body.getD .skip) (api_MsgOK.RV R) [([(0, [1, 1, 1, 1, 1, 0, 1, 0, 0, 1, 0, 0, 1]), (1, [1]), (0, [1, 1, 1, 1, 1, 0, 1, 0, 0, 1, 1]), (2, [1, 1, 1, 1, 1, 0, 1, 0, 0]), (1, [0]), (0, [1, 1, 1, 1, 1, 1])], fun σ w => dK (slotOf σ 1) fun m0_ => dI .i64 (slotOf σ 3) fun i_ => dB (slotOf σ 110) fun t110_ => sB5 m0_ i_ t110_ w)] 2000) [(0, [1, 1, 1, 1, 1, 0, 1, 0, 0]), (2, [1, 1, 1, 1, 1, 0, 1, 0, 0]), (1, [0]), (0, [1, 1, 1, 1, 1, 1])] [(1, .pointer (some ⟨m0, 0, none⟩)), (3, .int .i64 i)] w := by kernel_rfl
theorem api_MsgOK.L1b_sound {R : Bool → World → Prop} {N1 : Nat → Int → World → Prop} (hN1 : ∀ m0 i w, N1 m0 i w → KW Tryz.prog 152 111 (api_MsgOK.RV R) ([(0, [1, 1, 1, 1, 1, 0, 1, 0, 0]), (2, [1, 1, 1, 1, 1, 0, 1, 0, 0]), (1, [0]), (0, [1, 1, 1, 1, 1, 1])].map (toItem (Tryz.f152.body.getD .skip))) [(1, .pointer (some ⟨m0, 0, none⟩)), (3, .int .i64 i)] w) (m0 : Nat) (i : Int) (w : World) (h : api_MsgOK.L1b m0 i w  N1 R) :
    KW Tryz.prog 152 111 (api_MsgOK.RV R) ([(0, [1, 1, 1, 1, 1, 0, 1, 0, 0]), (2, [1, 1, 1, 1, 1, 0, 1, 0, 0]), (1, [0]), (0, [1, 1, 1, 1, 1, 1])].map (toItem (Tryz.f152.body.getD .skip))) [(1, .pointer (some ⟨m0, 0, none⟩)), (3, .int .i64 i)] w := by
  exact block_spec Tryz.func152 Tryz.mixed (stops_cons (fun σ w h => by
      obtain ⟨m0_, e0, h⟩ := dK_elim h
      obtain ⟨i_, e1, h⟩ := dI_elim h
      obtain ⟨t110_, e2, h⟩ := dB_elim h
      exact (api_MsgOK.B5_sound hN1 m0_ i_ t110_ w h).weaken (Sub.cons (Sub.cons (Sub.cons (Sub.nil _) e2) e1) e0)) stops_nil) (Eq.mp (api_MsgOK.L1b_eq m0 i w  N1 R (fun m0_ i_ t110_ w => api_MsgOK.B5 m0_ i_ t110_ w N1 R)) h)
def api_MsgOK.L1 (m0 : Nat) (i : Int) (w : World)  (R : Bool → World → Prop) : Prop :=
  ∃ (I : Nat → Nat → Int → World → Prop) (m : Nat), I m m0 i w ∧ ∀ m m0 i w, I m m0 i w → api_MsgOK.L1b m0 i w  (fun m0' i' w' => ∃ m', m' < m ∧ I m' m0' i' w') R
theorem api_MsgOK.L1_sound {R : Bool → World → Prop}  (m0 : Nat) (i : Int) (w : World) (h : api_MsgOK.L1 m0 i w  R) :
    KW Tryz.prog 152 111 (api_MsgOK.RV R) ([(0, [1, 1, 1, 1, 1, 0, 1, 0, 0]), (2, [1, 1, 1, 1, 1, 0, 1, 0, 0]), (1, [0]), (0, [1, 1, 1, 1, 1, 1])].map (toItem (Tryz.f152.body.getD .skip))) [(1, .pointer (some ⟨m0, 0, none⟩)), (3, .int .i64 i)] w := by
  obtain ⟨I, m, hBase, hr⟩ := h
  refine KW.loop (fun m σ w => ∃ (m0 : Nat) (i : Int), σ = [(1, .pointer (some ⟨m0, 0, none⟩)), (3, .int .i64 i)] ∧ I m m0 i w) ?_ m _ w ⟨m0, i, rfl, hBase⟩
  rintro m ih σ w ⟨m0, i, rfl, hI⟩
  exact api_MsgOK.L1b_sound  (N1 := fun m0' i' w' => ∃ m', m' < m ∧ I m' m0' i' w') (fun m0' i' w' hx => by obtain ⟨m', hlt, hI'⟩ := hx; exact ih m' hlt _ w' ⟨m0', i', rfl, hI'⟩) m0 i w (hr m m0 i w hI)
def api_MsgOK.B4 (m0 : Nat) (t77 : Bool) (w : World)   (R : Bool → World → Prop) : Prop :=
  Bm t77 (
    R false w) (
    api_MsgOK.L1 m0 (0 : Int) w  R)
theorem api_MsgOK.B4_eq (m0 : Nat) (t77 : Bool) (w : World)   (R : Bool → World → Prop) (sL1 : Nat → Int → World → Prop) :
    (
  Bm t77 (
    R false w) (
    sL1 m0 (0 : Int) w)) = kstep Tryz.prog 111 Tryz.f152.results.toList (Tryz.f152.body.getD .skip) (api_MsgOK.RV R) (kvc Tryz.prog 111 Tryz.f152.results.toList (Tryz.f152.body.getD .skip) (api_MsgOK.RV R) [([(0, [1, 1, 1, 1, 1, 0, 1, 0, 0]), (2, [1, 1, 1, 1, 1, 0, 1, 0, 0]), (1, [0]), (0, [1, 1, 1, 1, 1, 1])], fun σ w => dK (slotOf σ 1) fun m0_ => dI .i64 (slotOf σ 3) fun i_ => sL1 m0_ i_ w)] 2000) [(0, [1, 1, 1, 1, 0, 1]), (0, [1, 1, 1, 1, 1])] [(1, .pointer (some ⟨m0, 0, none⟩)), (77, .bool t77)] w := by kernel_rfl
theorem api_MsgOK.B4_sound {R : Bool → World → Prop}  (m0 : Nat) (t77 : Bool) (w : World) (h : api_MsgOK.B4 m0 t77 w   R) :
    KW Tryz.prog 152 111 (api_MsgOK.RV R) ([(0, [1, 1, 1, 1, 0, 1]), (0, [1, 1, 1, 1, 1])].map (toItem (Tryz.f152.body.getD .skip))) [(1, .pointer (some ⟨m0, 0, none⟩)), (77, .bool t77)] w := by
  exact block_spec Tryz.func152 Tryz.mixed (stops_cons (fun σ w h => by
      obtain ⟨m0_, e0, h⟩ := dK_elim h
      obtain ⟨i_, e1, h⟩ := dI_elim h
      exact (api_MsgOK.L1_sound  m0_ i_ w h).weaken (Sub.cons (Sub.cons (Sub.nil _) e1) e0)) stops_nil) (Eq.mp (api_MsgOK.B4_eq m0 t77 w   R (fun m0_ i_ w => api_MsgOK.L1 m0_ i_ w  R)) h)
def api_MsgOK.B3 (m0 : Nat) (t67 : Bool) (w : World)   (R : Bool → World → Prop) : Prop :=
  Bm t67 (
    R false w) (
    LdL ⟨m0, 8, none⟩ w fun x69_b x69_l x69_c =>
    Bm (decide (((x69_l : Nat) : Int) > (2 : Int))) (
      api_MsgOK.B4 m0 true w  R) (
      LdS ⟨m0, 9, none⟩ w fun x74 =>
      api_MsgOK.B4 m0 (decide (((x74.size : Nat) : Int) > (128 : Int))) w  R))
theorem api_MsgOK.B3_eq (m0 : Nat) (t67 : Bool) (w : World)   (R : Bool → World → Prop) (sB4 : Nat → Bool → World → Prop) :
    (
  Bm t67 (
    R false w) (
    LdL ⟨m0, 8, none⟩ w fun x69_b x69_l x69_c =>
    Bm (decide (((x69_l : Nat) : Int) > (2 : Int))) (
      sB4 m0 true w) (
      LdS ⟨m0, 9, none⟩ w fun x74 =>
      sB4 m0 (decide (((x74.size : Nat) : Int) > (128 : Int))) w))) = kstep Tryz.prog 111 Tryz.f152.results.toList (Tryz.f152.body.getD .skip) (api_MsgOK.RV R) (kvc Tryz.prog 111 Tryz.f152.results.toList (Tryz.f152.body.getD .skip) (api_MsgOK.RV R) [([(0, [1, 1, 1, 1, 0, 1]), (0, [1, 1, 1, 1, 1])], fun σ w => dK (slotOf σ 1) fun m0_ => dB (slotOf σ 77) fun t77_ => sB4 m0_ t77_ w)] 2000) [(0, [1, 1, 1, 0, 1]), (0, [1, 1, 1, 1])] [(1, .pointer (some ⟨m0, 0, none⟩)), (67, .bool t67)] w := by kernel_rfl
theorem api_MsgOK.B3_sound {R : Bool → World → Prop}  (m0 : Nat) (t67 : Bool) (w : World) (h : api_MsgOK.B3 m0 t67 w   R) :
    KW Tryz.prog 152 111 (api_MsgOK.RV R) ([(0, [1, 1, 1, 0, 1]), (0, [1, 1, 1, 1])].map (toItem (Tryz.f152.body.getD .skip))) [(1, .pointer (some ⟨m0, 0, none⟩)), (67, .bool t67)] w := by
  exact block_spec Tryz.func152 Tryz.mixed (stops_cons (fun σ w h => by
      obtain ⟨m0_, e0, h⟩ := dK_elim h
      obtain ⟨t77_, e1, h⟩ := dB_elim h
      exact (api_MsgOK.B4_sound  m0_ t77_ w h).weaken (Sub.cons (Sub.cons (Sub.nil _) e1) e0)) stops_nil) (Eq.mp (api_MsgOK.B3_eq m0 t67 w   R (fun m0_ t77_ w => api_MsgOK.B4 m0_ t77_ w  R)) h)
def api_MsgOK.B2 (m0 : Nat) (t49 : Bool) (w : World)   (R : Bool → World → Prop) : Prop :=
  Bm t49 (
    R false w) (
    LdI .i64 ⟨m0, 5, none⟩ w fun x51 =>
    Bm (decide (x51 < (0 : Int))) (
      api_MsgOK.B3 m0 true w  R) (
      LdI .i64 ⟨m0, 5, none⟩ w fun x55 =>
      Bm (decide (x55 > (72057594037927936 : Int))) (
        api_MsgOK.B3 m0 true w  R) (
        LdI .i64 ⟨m0, 6, none⟩ w fun x60 =>
        Bm (decide (x60 < (0 : Int))) (
          api_MsgOK.B3 m0 true w  R) (
          LdI .i64 ⟨m0, 6, none⟩ w fun x65 =>
          api_MsgOK.B3 m0 (decide (x65 > (72057594037927936 : Int))) w  R))))
theorem api_MsgOK.B2_eq (m0 : Nat) (t49 : Bool) (w : World)   (R : Bool → World → Prop) (sB3 : Nat → Bool → World → Prop) :
    (
  Bm t49 (
    R false w) (
    LdI .i64 ⟨m0, 5, none⟩ w fun x51 =>
    Bm (decide (x51 < (0 : Int))) (
      sB3 m0 true w) (
      LdI .i64 ⟨m0, 5, none⟩ w fun x55 =>
      Bm (decide (x55 > (72057594037927936 : Int))) (
        sB3 m0 true w) (
        LdI .i64 ⟨m0, 6, none⟩ w fun x60 =>
        Bm (decide (x60 < (0 : Int))) (
          sB3 m0 true w) (
          LdI .i64 ⟨m0, 6, none⟩ w fun x65 =>
          sB3 m0 (decide (x65 > (72057594037927936 : Int))) w))))) = kstep Tryz.prog 111 Tryz.f152.results.toList (Tryz.f152.body.getD .skip) (api_MsgOK.RV R) (kvc Tryz.prog 111 Tryz.f152.results.toList (Tryz.f152.body.getD .skip) (api_MsgOK.RV R) [([(0, [1, 1, 1, 0, 1]), (0, [1, 1, 1, 1])], fun σ w => dK (slotOf σ 1) fun m0_ => dB (slotOf σ 67) fun t67_ => sB3 m0_ t67_ w)] 2000) [(0, [1, 1, 0, 1]), (0, [1, 1, 1])] [(1, .pointer (some ⟨m0, 0, none⟩)), (49, .bool t49)] w := by kernel_rfl
theorem api_MsgOK.B2_sound {R : Bool → World → Prop}  (m0 : Nat) (t49 : Bool) (w : World) (h : api_MsgOK.B2 m0 t49 w   R) :
    KW Tryz.prog 152 111 (api_MsgOK.RV R) ([(0, [1, 1, 0, 1]), (0, [1, 1, 1])].map (toItem (Tryz.f152.body.getD .skip))) [(1, .pointer (some ⟨m0, 0, none⟩)), (49, .bool t49)] w := by
  exact block_spec Tryz.func152 Tryz.mixed (stops_cons (fun σ w h => by
      obtain ⟨m0_, e0, h⟩ := dK_elim h
      obtain ⟨t67_, e1, h⟩ := dB_elim h
      exact (api_MsgOK.B3_sound  m0_ t67_ w h).weaken (Sub.cons (Sub.cons (Sub.nil _) e1) e0)) stops_nil) (Eq.mp (api_MsgOK.B2_eq m0 t49 w   R (fun m0_ t67_ w => api_MsgOK.B3 m0_ t67_ w  R)) h)
def api_MsgOK.B1 (m0 : Nat) (t31 : Bool) (w : World)   (R : Bool → World → Prop) : Prop :=
  Bm t31 (
    R false w) (
    LdI .i64 ⟨m0, 3, none⟩ w fun x33 =>
    Bm (decide (x33 < (0 : Int))) (
      api_MsgOK.B2 m0 true w  R) (
      LdI .i64 ⟨m0, 3, none⟩ w fun x37 =>
      Bm (decide (x37 > (72057594037927936 : Int))) (
        api_MsgOK.B2 m0 true w  R) (
        LdI .i64 ⟨m0, 4, none⟩ w fun x42 =>
        Bm (decide (x42 < (0 : Int))) (
          api_MsgOK.B2 m0 true w  R) (
          LdI .i64 ⟨m0, 4, none⟩ w fun x47 =>
          api_MsgOK.B2 m0 (decide (x47 > (72057594037927936 : Int))) w  R))))
theorem api_MsgOK.B1_eq (m0 : Nat) (t31 : Bool) (w : World)   (R : Bool → World → Prop) (sB2 : Nat → Bool → World → Prop) :
    (
  Bm t31 (
    R false w) (
    LdI .i64 ⟨m0, 3, none⟩ w fun x33 =>
    Bm (decide (x33 < (0 : Int))) (
      sB2 m0 true w) (
      LdI .i64 ⟨m0, 3, none⟩ w fun x37 =>
      Bm (decide (x37 > (72057594037927936 : Int))) (
        sB2 m0 true w) (
        LdI .i64 ⟨m0, 4, none⟩ w fun x42 =>
        Bm (decide (x42 < (0 : Int))) (
          sB2 m0 true w) (
          LdI .i64 ⟨m0, 4, none⟩ w fun x47 =>
          sB2 m0 (decide (x47 > (72057594037927936 : Int))) w))))) = kstep Tryz.prog 111 Tryz.f152.results.toList (Tryz.f152.body.getD .skip) (api_MsgOK.RV R) (kvc Tryz.prog 111 Tryz.f152.results.toList (Tryz.f152.body.getD .skip) (api_MsgOK.RV R) [([(0, [1, 1, 0, 1]), (0, [1, 1, 1])], fun σ w => dK (slotOf σ 1) fun m0_ => dB (slotOf σ 49) fun t49_ => sB2 m0_ t49_ w)] 2000) [(0, [1, 0, 1]), (0, [1, 1])] [(1, .pointer (some ⟨m0, 0, none⟩)), (31, .bool t31)] w := by kernel_rfl
theorem api_MsgOK.B1_sound {R : Bool → World → Prop}  (m0 : Nat) (t31 : Bool) (w : World) (h : api_MsgOK.B1 m0 t31 w   R) :
    KW Tryz.prog 152 111 (api_MsgOK.RV R) ([(0, [1, 0, 1]), (0, [1, 1])].map (toItem (Tryz.f152.body.getD .skip))) [(1, .pointer (some ⟨m0, 0, none⟩)), (31, .bool t31)] w := by
  exact block_spec Tryz.func152 Tryz.mixed (stops_cons (fun σ w h => by
      obtain ⟨m0_, e0, h⟩ := dK_elim h
      obtain ⟨t49_, e1, h⟩ := dB_elim h
      exact (api_MsgOK.B2_sound  m0_ t49_ w h).weaken (Sub.cons (Sub.cons (Sub.nil _) e1) e0)) stops_nil) (Eq.mp (api_MsgOK.B1_eq m0 t31 w   R (fun m0_ t49_ w => api_MsgOK.B2 m0_ t49_ w  R)) h)
def api_MsgOK.B0 (m0_0 m0_1 m0_2 m0_3 m0_4 m0_5 m0_6 : Int) (m0_7 : Bool) (m0_8_b : Option Addr) (m0_8_l m0_8_c : Nat) (m0_9 : ByteArray) (w : World)   (R : Bool → World → Prop) : Prop :=
  New (.cells #[.int .i64 m0_0, .int .i64 m0_1, .int .i64 m0_2, .int .i64 m0_3, .int .i64 m0_4, .int .i64 m0_5, .int .i64 m0_6, .bool m0_7, .slice m0_8_b m0_8_l m0_8_c, .string m0_9] 101) w fun m0_ w1 =>
  LdI .i64 ⟨m0_, 0, none⟩ w1 fun x5 =>
  Bm (decide (x5 < (1 : Int))) (
    api_MsgOK.B1 m0_ true w1  R) (
    LdI .i64 ⟨m0_, 0, none⟩ w1 fun x9 =>
    Bm (decide (x9 > (5 : Int))) (
      api_MsgOK.B1 m0_ true w1  R) (
      LdI .i64 ⟨m0_, 1, none⟩ w1 fun x14 =>
      Bm (decide (x14 < (0 : Int))) (
        api_MsgOK.B1 m0_ true w1  R) (
        LdI .i64 ⟨m0_, 1, none⟩ w1 fun x19 =>
        Bm (decide (x19 ≥ (3 : Int))) (
          api_MsgOK.B1 m0_ true w1  R) (
          LdI .i64 ⟨m0_, 2, none⟩ w1 fun x24 =>
          Bm (decide (x24 < (0 : Int))) (
            api_MsgOK.B1 m0_ true w1  R) (
            LdI .i64 ⟨m0_, 2, none⟩ w1 fun x29 =>
            api_MsgOK.B1 m0_ (decide (x29 ≥ (3 : Int))) w1  R)))))
theorem api_MsgOK.B0_eq (m0_0 m0_1 m0_2 m0_3 m0_4 m0_5 m0_6 : Int) (m0_7 : Bool) (m0_8_b : Option Addr) (m0_8_l m0_8_c : Nat) (m0_9 : ByteArray) (w : World)   (R : Bool → World → Prop) (sB1 : Nat → Bool → World → Prop) :
    (
  New (.cells #[.int .i64 m0_0, .int .i64 m0_1, .int .i64 m0_2, .int .i64 m0_3, .int .i64 m0_4, .int .i64 m0_5, .int .i64 m0_6, .bool m0_7, .slice m0_8_b m0_8_l m0_8_c, .string m0_9] 101) w fun m0_ w1 =>
  LdI .i64 ⟨m0_, 0, none⟩ w1 fun x5 =>
  Bm (decide (x5 < (1 : Int))) (
    sB1 m0_ true w1) (
    LdI .i64 ⟨m0_, 0, none⟩ w1 fun x9 =>
    Bm (decide (x9 > (5 : Int))) (
      sB1 m0_ true w1) (
      LdI .i64 ⟨m0_, 1, none⟩ w1 fun x14 =>
      Bm (decide (x14 < (0 : Int))) (
        sB1 m0_ true w1) (
        LdI .i64 ⟨m0_, 1, none⟩ w1 fun x19 =>
        Bm (decide (x19 ≥ (3 : Int))) (
          sB1 m0_ true w1) (
          LdI .i64 ⟨m0_, 2, none⟩ w1 fun x24 =>
          Bm (decide (x24 < (0 : Int))) (
            sB1 m0_ true w1) (
            LdI .i64 ⟨m0_, 2, none⟩ w1 fun x29 =>
            sB1 m0_ (decide (x29 ≥ (3 : Int))) w1)))))) = kstep Tryz.prog 111 Tryz.f152.results.toList (Tryz.f152.body.getD .skip) (api_MsgOK.RV R) (kvc Tryz.prog 111 Tryz.f152.results.toList (Tryz.f152.body.getD .skip) (api_MsgOK.RV R) [([(0, [1, 0, 1]), (0, [1, 1])], fun σ w => dK (slotOf σ 1) fun m0_ => dB (slotOf σ 31) fun t31_ => sB1 m0_ t31_ w)] 2000) [(0, [])] [(0, .agg #[.int .i64 m0_0, .int .i64 m0_1, .int .i64 m0_2, .int .i64 m0_3, .int .i64 m0_4, .int .i64 m0_5, .int .i64 m0_6, .bool m0_7, .slice m0_8_b m0_8_l m0_8_c, .string m0_9])] w := by kernel_rfl
theorem api_MsgOK.B0_sound {R : Bool → World → Prop}  (m0_0 m0_1 m0_2 m0_3 m0_4 m0_5 m0_6 : Int) (m0_7 : Bool) (m0_8_b : Option Addr) (m0_8_l m0_8_c : Nat) (m0_9 : ByteArray) (w : World) (h : api_MsgOK.B0 m0_0 m0_1 m0_2 m0_3 m0_4 m0_5 m0_6 m0_7 m0_8_b m0_8_l m0_8_c m0_9 w   R) :
    KW Tryz.prog 152 111 (api_MsgOK.RV R) ([(0, [])].map (toItem (Tryz.f152.body.getD .skip))) [(0, .agg #[.int .i64 m0_0, .int .i64 m0_1, .int .i64 m0_2, .int .i64 m0_3, .int .i64 m0_4, .int .i64 m0_5, .int .i64 m0_6, .bool m0_7, .slice m0_8_b m0_8_l m0_8_c, .string m0_9])] w := by
  exact block_spec Tryz.func152 Tryz.mixed (stops_cons (fun σ w h => by
      obtain ⟨m0_, e0, h⟩ := dK_elim h
      obtain ⟨t31_, e1, h⟩ := dB_elim h
      exact (api_MsgOK.B1_sound  m0_ t31_ w h).weaken (Sub.cons (Sub.cons (Sub.nil _) e1) e0)) stops_nil) (Eq.mp (api_MsgOK.B0_eq m0_0 m0_1 m0_2 m0_3 m0_4 m0_5 m0_6 m0_7 m0_8_b m0_8_l m0_8_c m0_9 w   R (fun m0_ t31_ w => api_MsgOK.B1 m0_ t31_ w  R)) h)
theorem api_MsgOK.sound (m0_0 m0_1 m0_2 m0_3 m0_4 m0_5 m0_6 : Int) (m0_7 : Bool) (m0_8_b : Option Addr) (m0_8_l m0_8_c : Nat) (m0_9 : ByteArray) (w : World) (R : Bool → World → Prop) (h : api_MsgOK.B0 m0_0 m0_1 m0_2 m0_3 m0_4 m0_5 m0_6 m0_7 m0_8_b m0_8_l m0_8_c m0_9 w R) : api_MsgOK.Call m0_0 m0_1 m0_2 m0_3 m0_4 m0_5 m0_6 m0_7 m0_8_b m0_8_l m0_8_c m0_9 w R := by
  have hc := calls_of_block (args := #[.agg #[.int .i64 m0_0, .int .i64 m0_1, .int .i64 m0_2, .int .i64 m0_3, .int .i64 m0_4, .int .i64 m0_5, .int .i64 m0_6, .bool m0_7, .slice m0_8_b m0_8_l m0_8_c, .string m0_9]]) Tryz.func152 (body := (Tryz.f152.body.getD .skip)) (by kernel_rfl) (by kernel_rfl) (args_slot _) (api_MsgOK.B0_sound m0_0 m0_1 m0_2 m0_3 m0_4 m0_5 m0_6 m0_7 m0_8_b m0_8_l m0_8_c m0_9 w h)
  exact hc.mono fun e w' he => by
    obtain ⟨v, rfl, hv⟩ := he
    exact api_MsgOK.RV_elim hv
def sync_Sync_voteAsked.B1 (s : Option Addr) (m0 : Nat) (up : Bool) (w : World)   (R : World → Prop) : Prop :=
  Pn s fun a =>
  LdP (a.add 1) w.drew fun x34 =>
  LdI .i64 ⟨m0, 1, none⟩ w.drew fun x36 =>
  LdI .i64 ⟨m0, 3, none⟩ w.drew fun x38 =>
  elect_Elect_AskedVote.Call x34 x36 x38 up w.drew fun r40 w1 =>
  sync_Sync_persist.Call s w1 fun w2 =>
  LdI .i64 ⟨m0, 1, none⟩ w2 fun x45 =>
  sync_Sync_reply.Call s (2 : Int) x45 r40 (0 : Int) w2 fun w3 =>
  R  w3
theorem sync_Sync_voteAsked.B1_eq (s : Option Addr) (m0 : Nat) (up : Bool) (w : World)   (R : World → Prop)  :
    (
  Pn s fun a =>
  LdP (a.add 1) w.drew fun x34 =>
  LdI .i64 ⟨m0, 1, none⟩ w.drew fun x36 =>
  LdI .i64 ⟨m0, 3, none⟩ w.drew fun x38 =>
  elect_Elect_AskedVote.Call x34 x36 x38 up w.drew fun r40 w1 =>
  sync_Sync_persist.Call s w1 fun w2 =>
  LdI .i64 ⟨m0, 1, none⟩ w2 fun x45 =>
  sync_Sync_reply.Call s (2 : Int) x45 r40 (0 : Int) w2 fun w3 =>
  R  w3) = kstep Tryz.prog 48 Tryz.f153.results.toList (Tryz.f153.body.getD .skip) (sync_Sync_voteAsked.RV R) (kvc Tryz.prog 48 Tryz.f153.results.toList (Tryz.f153.body.getD .skip) (sync_Sync_voteAsked.RV R) [] 2000) [(0, [1, 1])] [(0, .pointer s), (3, .pointer (some ⟨m0, 0, none⟩)), (4, .bool up)] w := by kernel_rfl
theorem sync_Sync_voteAsked.B1_sound {R : World → Prop}  (s : Option Addr) (m0 : Nat) (up : Bool) (w : World) (h : sync_Sync_voteAsked.B1 s m0 up w   R) :
    KW Tryz.prog 153 48 (sync_Sync_voteAsked.RV R) ([(0, [1, 1])].map (toItem (Tryz.f153.body.getD .skip))) [(0, .pointer s), (3, .pointer (some ⟨m0, 0, none⟩)), (4, .bool up)] w := by
  exact block_spec Tryz.func153 Tryz.mixed stops_nil (Eq.mp (sync_Sync_voteAsked.B1_eq s m0 up w   R ) h)
def sync_Sync_voteAsked.B0 (s : Option Addr) (m0_0 m0_1 m0_2 m0_3 m0_4 m0_5 m0_6 : Int) (m0_7 : Bool) (m0_8_b : Option Addr) (m0_8_l m0_8_c : Nat) (m0_9 : ByteArray) (w : World)   (R : World → Prop) : Prop :=
  New (.cells #[.int .i64 m0_0, .int .i64 m0_1, .int .i64 m0_2, .int .i64 m0_3, .int .i64 m0_4, .int .i64 m0_5, .int .i64 m0_6, .bool m0_7, .slice m0_8_b m0_8_l m0_8_c, .string m0_9] 101) w fun m0_ w1 =>
  LdI .i64 ⟨m0_, 5, none⟩ w1.drew fun x7 =>
  Pn s fun a =>
  LdI .i64 (a.add 10) w1.drew fun x11 =>
  Bm (decide (x7 > x11)) (
    sync_Sync_voteAsked.B1 s m0_ true w1.drew  R) (
    LdI .i64 ⟨m0_, 5, none⟩ w1.drew fun x15 =>
    Pn s fun a_1 =>
    LdI .i64 (a_1.add 10) w1.drew fun x19 =>
    Bm (x15 == x19) (
      LdI .i64 ⟨m0_, 4, none⟩ w1.drew fun x23 =>
      Pn s fun a_2 =>
      LdI .i64 (a_2.add 9) w1.drew fun x27 =>
      sync_Sync_voteAsked.B1 s m0_ (decide (x23 ≥ x27)) w1.drew  R) (
      sync_Sync_voteAsked.B1 s m0_ false w1.drew  R))
theorem sync_Sync_voteAsked.B0_eq (s : Option Addr) (m0_0 m0_1 m0_2 m0_3 m0_4 m0_5 m0_6 : Int) (m0_7 : Bool) (m0_8_b : Option Addr) (m0_8_l m0_8_c : Nat) (m0_9 : ByteArray) (w : World)   (R : World → Prop) (sB1 : Option Addr → Nat → Bool → World → Prop) :
    (
  New (.cells #[.int .i64 m0_0, .int .i64 m0_1, .int .i64 m0_2, .int .i64 m0_3, .int .i64 m0_4, .int .i64 m0_5, .int .i64 m0_6, .bool m0_7, .slice m0_8_b m0_8_l m0_8_c, .string m0_9] 101) w fun m0_ w1 =>
  LdI .i64 ⟨m0_, 5, none⟩ w1.drew fun x7 =>
  Pn s fun a =>
  LdI .i64 (a.add 10) w1.drew fun x11 =>
  Bm (decide (x7 > x11)) (
    sB1 s m0_ true w1.drew) (
    LdI .i64 ⟨m0_, 5, none⟩ w1.drew fun x15 =>
    Pn s fun a_1 =>
    LdI .i64 (a_1.add 10) w1.drew fun x19 =>
    Bm (x15 == x19) (
      LdI .i64 ⟨m0_, 4, none⟩ w1.drew fun x23 =>
      Pn s fun a_2 =>
      LdI .i64 (a_2.add 9) w1.drew fun x27 =>
      sB1 s m0_ (decide (x23 ≥ x27)) w1.drew) (
      sB1 s m0_ false w1.drew))) = kstep Tryz.prog 48 Tryz.f153.results.toList (Tryz.f153.body.getD .skip) (sync_Sync_voteAsked.RV R) (kvc Tryz.prog 48 Tryz.f153.results.toList (Tryz.f153.body.getD .skip) (sync_Sync_voteAsked.RV R) [([(0, [1, 1])], fun σ w => dP (slotOf σ 0) fun s_ => dK (slotOf σ 3) fun m0_ => dB (slotOf σ 4) fun up_ => sB1 s_ m0_ up_ w)] 2000) [(0, [])] [(0, .pointer s), (1, .agg #[.int .i64 m0_0, .int .i64 m0_1, .int .i64 m0_2, .int .i64 m0_3, .int .i64 m0_4, .int .i64 m0_5, .int .i64 m0_6, .bool m0_7, .slice m0_8_b m0_8_l m0_8_c, .string m0_9])] w := by kernel_rfl
theorem sync_Sync_voteAsked.B0_sound {R : World → Prop}  (s : Option Addr) (m0_0 m0_1 m0_2 m0_3 m0_4 m0_5 m0_6 : Int) (m0_7 : Bool) (m0_8_b : Option Addr) (m0_8_l m0_8_c : Nat) (m0_9 : ByteArray) (w : World) (h : sync_Sync_voteAsked.B0 s m0_0 m0_1 m0_2 m0_3 m0_4 m0_5 m0_6 m0_7 m0_8_b m0_8_l m0_8_c m0_9 w   R) :
    KW Tryz.prog 153 48 (sync_Sync_voteAsked.RV R) ([(0, [])].map (toItem (Tryz.f153.body.getD .skip))) [(0, .pointer s), (1, .agg #[.int .i64 m0_0, .int .i64 m0_1, .int .i64 m0_2, .int .i64 m0_3, .int .i64 m0_4, .int .i64 m0_5, .int .i64 m0_6, .bool m0_7, .slice m0_8_b m0_8_l m0_8_c, .string m0_9])] w := by
  exact block_spec Tryz.func153 Tryz.mixed (stops_cons (fun σ w h => by
      obtain ⟨s_, e0, h⟩ := dP_elim h
      obtain ⟨m0_, e1, h⟩ := dK_elim h
      obtain ⟨up_, e2, h⟩ := dB_elim h
      exact (sync_Sync_voteAsked.B1_sound  s_ m0_ up_ w h).weaken (Sub.cons (Sub.cons (Sub.cons (Sub.nil _) e2) e1) e0)) stops_nil) (Eq.mp (sync_Sync_voteAsked.B0_eq s m0_0 m0_1 m0_2 m0_3 m0_4 m0_5 m0_6 m0_7 m0_8_b m0_8_l m0_8_c m0_9 w   R (fun s_ m0_ up_ w => sync_Sync_voteAsked.B1 s_ m0_ up_ w  R)) h)
theorem sync_Sync_voteAsked.sound (s : Option Addr) (m0_0 m0_1 m0_2 m0_3 m0_4 m0_5 m0_6 : Int) (m0_7 : Bool) (m0_8_b : Option Addr) (m0_8_l m0_8_c : Nat) (m0_9 : ByteArray) (w : World) (R : World → Prop) (h : sync_Sync_voteAsked.B0 s m0_0 m0_1 m0_2 m0_3 m0_4 m0_5 m0_6 m0_7 m0_8_b m0_8_l m0_8_c m0_9 w R) : sync_Sync_voteAsked.Call s m0_0 m0_1 m0_2 m0_3 m0_4 m0_5 m0_6 m0_7 m0_8_b m0_8_l m0_8_c m0_9 w R := by
  have hc := calls_of_block (args := #[.pointer s, .agg #[.int .i64 m0_0, .int .i64 m0_1, .int .i64 m0_2, .int .i64 m0_3, .int .i64 m0_4, .int .i64 m0_5, .int .i64 m0_6, .bool m0_7, .slice m0_8_b m0_8_l m0_8_c, .string m0_9]]) Tryz.func153 (body := (Tryz.f153.body.getD .skip)) (by kernel_rfl) (by kernel_rfl) (args_slot _) (sync_Sync_voteAsked.B0_sound s m0_0 m0_1 m0_2 m0_3 m0_4 m0_5 m0_6 m0_7 m0_8_b m0_8_l m0_8_c m0_9 w h)
  exact hc.mono fun e w' he => by
    obtain ⟨v, rfl, hv⟩ := he
    exact sync_Sync_voteAsked.RV_elim hv
def sync_Sync_voteCame.L1b (s : Option Addr) (q : Int) (w : World)  (N1 : Option Addr → Int → World → Prop) (R : World → Prop) : Prop :=
  Bm (decide (q < (3 : Int))) (
    Pn s fun a =>
    LdI .i64 (a.add 9) w.drew fun x31 =>
    Pn s fun a_1 =>
    (0 ≤ q ∧ q < ((3 : Nat) : Int)) ∧
    Sts [.int .i64 (IntKind.i64.wrap (x31 + (1 : Int)))] (Addr.add (a_1.add 3) (q.toNat * 1)) 0 w.drew fun w1 =>
    Pn s fun a_2 =>
    (0 ≤ q ∧ q < ((3 : Nat) : Int)) ∧
    Sts [.int .i64 (0 : Int)] (Addr.add (a_2.add 6) (q.toNat * 1)) 0 w1 fun w2 =>
    N1 s (IntKind.i64.wrap (q + (1 : Int))) w2) (
    Pn s fun a_3 =>
    LdP (a_3.add 1) w fun x44 =>
    elect_Elect_Term.Call x44 w fun r45 w3 =>
    sync_Sync_grow.Call s r45 (ByteArray.mk #[]) w3 fun r49 w4 =>
    sync_Sync_sendAll.Call s w4 fun w5 =>
    R  w5)
theorem sync_Sync_voteCame.L1b_eq (s : Option Addr) (q : Int) (w : World)  (N1 : Option Addr → Int → World → Prop) (R : World → Prop)  :
    (
  Bm (decide (q < (3 : Int))) (
    Pn s fun a =>
    LdI .i64 (a.add 9) w.drew fun x31 =>
    Pn s fun a_1 =>
    (0 ≤ q ∧ q < ((3 : Nat) : Int)) ∧
    Sts [.int .i64 (IntKind.i64.wrap (x31 + (1 : Int)))] (Addr.add (a_1.add 3) (q.toNat * 1)) 0 w.drew fun w1 =>
    Pn s fun a_2 =>
    (0 ≤ q ∧ q < ((3 : Nat) : Int)) ∧
    Sts [.int .i64 (0 : Int)] (Addr.add (a_2.add 6) (q.toNat * 1)) 0 w1 fun w2 =>
    N1 s (IntKind.i64.wrap (q + (1 : Int))) w2) (
    Pn s fun a_3 =>
    LdP (a_3.add 1) w fun x44 =>
    elect_Elect_Term.Call x44 w fun r45 w3 =>
    sync_Sync_grow.Call s r45 (ByteArray.mk #[]) w3 fun r49 w4 =>
    sync_Sync_sendAll.Call s w4 fun w5 =>
    R  w5)) = kstep Tryz.prog 52 Tryz.f154.results.toList (Tryz.f154.body.getD .skip) (sync_Sync_voteCame.RV R) (kvc Tryz.prog 52 Tryz.f154.results.toList (Tryz.f154.body.getD .skip) (sync_Sync_voteCame.RV R) [([(0, [1, 1, 1, 1, 0, 1, 0, 0]), (2, [1, 1, 1, 1, 0, 1, 0, 0]), (1, [0]), (0, [1, 1, 1, 1, 1])], fun σ w => dP (slotOf σ 0) fun s_ => dI .i64 (slotOf σ 5) fun q_ => N1 s_ q_ w)] 2000) [(0, [1, 1, 1, 1, 0, 1, 0, 0]), (2, [1, 1, 1, 1, 0, 1, 0, 0]), (1, [0]), (0, [1, 1, 1, 1, 1])] [(0, .pointer s), (5, .int .i64 q)] w := by kernel_rfl
theorem sync_Sync_voteCame.L1b_sound {R : World → Prop} {N1 : Option Addr → Int → World → Prop} (hN1 : ∀ s q w, N1 s q w → KW Tryz.prog 154 52 (sync_Sync_voteCame.RV R) ([(0, [1, 1, 1, 1, 0, 1, 0, 0]), (2, [1, 1, 1, 1, 0, 1, 0, 0]), (1, [0]), (0, [1, 1, 1, 1, 1])].map (toItem (Tryz.f154.body.getD .skip))) [(0, .pointer s), (5, .int .i64 q)] w) (s : Option Addr) (q : Int) (w : World) (h : sync_Sync_voteCame.L1b s q w  N1 R) :
    KW Tryz.prog 154 52 (sync_Sync_voteCame.RV R) ([(0, [1, 1, 1, 1, 0, 1, 0, 0]), (2, [1, 1, 1, 1, 0, 1, 0, 0]), (1, [0]), (0, [1, 1, 1, 1, 1])].map (toItem (Tryz.f154.body.getD .skip))) [(0, .pointer s), (5, .int .i64 q)] w := by
  exact block_spec Tryz.func154 Tryz.mixed (stops_cons (fun σ w h => by
      obtain ⟨s_, e0, h⟩ := dP_elim h
      obtain ⟨q_, e1, h⟩ := dI_elim h
      exact (hN1 s_ q_ w h).weaken (Sub.cons (Sub.cons (Sub.nil _) e1) e0)) stops_nil) (Eq.mp (sync_Sync_voteCame.L1b_eq s q w  N1 R ) h)
def sync_Sync_voteCame.L1 (s : Option Addr) (q : Int) (w : World)  (R : World → Prop) : Prop :=
  ∃ (I : Nat → Option Addr → Int → World → Prop) (m : Nat), I m s q w ∧ ∀ m s q w, I m s q w → sync_Sync_voteCame.L1b s q w  (fun s' q' w' => ∃ m', m' < m ∧ I m' s' q' w') R
theorem sync_Sync_voteCame.L1_sound {R : World → Prop}  (s : Option Addr) (q : Int) (w : World) (h : sync_Sync_voteCame.L1 s q w  R) :
    KW Tryz.prog 154 52 (sync_Sync_voteCame.RV R) ([(0, [1, 1, 1, 1, 0, 1, 0, 0]), (2, [1, 1, 1, 1, 0, 1, 0, 0]), (1, [0]), (0, [1, 1, 1, 1, 1])].map (toItem (Tryz.f154.body.getD .skip))) [(0, .pointer s), (5, .int .i64 q)] w := by
  obtain ⟨I, m, hBase, hr⟩ := h
  refine KW.loop (fun m σ w => ∃ (s : Option Addr) (q : Int), σ = [(0, .pointer s), (5, .int .i64 q)] ∧ I m s q w) ?_ m _ w ⟨s, q, rfl, hBase⟩
  rintro m ih σ w ⟨s, q, rfl, hI⟩
  exact sync_Sync_voteCame.L1b_sound  (N1 := fun s' q' w' => ∃ m', m' < m ∧ I m' s' q' w') (fun s' q' w' hx => by obtain ⟨m', hlt, hI'⟩ := hx; exact ih m' hlt _ w' ⟨s', q', rfl, hI'⟩) s q w (hr m s q w hI)
def sync_Sync_voteCame.B0 (s : Option Addr) (m0_0 m0_1 m0_2 m0_3 m0_4 m0_5 m0_6 : Int) (m0_7 : Bool) (m0_8_b : Option Addr) (m0_8_l m0_8_c : Nat) (m0_9 : ByteArray) (w : World)   (R : World → Prop) : Prop :=
  New (.cells #[.int .i64 m0_0, .int .i64 m0_1, .int .i64 m0_2, .int .i64 m0_3, .int .i64 m0_4, .int .i64 m0_5, .int .i64 m0_6, .bool m0_7, .slice m0_8_b m0_8_l m0_8_c, .string m0_9] 101) w fun m0_ w1 =>
  Pn s fun a =>
  LdP (a.add 1) w1.drew fun x10 =>
  LdI .i64 ⟨m0_, 1, none⟩ w1.drew fun x12 =>
  LdI .i64 ⟨m0_, 3, none⟩ w1.drew fun x14 =>
  LdB ⟨m0_, 7, none⟩ w1.drew fun x16 =>
  elect_Elect_GotVote.Call x10 x12 x14 x16 w1.drew fun r17 w2 =>
  sync_Sync_persist.Call s w2 fun w3 =>
  Bm (!r17) (
    R  w3) (
    sync_Sync_voteCame.L1 s (0 : Int) w3  R)
theorem sync_Sync_voteCame.B0_eq (s : Option Addr) (m0_0 m0_1 m0_2 m0_3 m0_4 m0_5 m0_6 : Int) (m0_7 : Bool) (m0_8_b : Option Addr) (m0_8_l m0_8_c : Nat) (m0_9 : ByteArray) (w : World)   (R : World → Prop) (sL1 : Option Addr → Int → World → Prop) :
    (
  New (.cells #[.int .i64 m0_0, .int .i64 m0_1, .int .i64 m0_2, .int .i64 m0_3, .int .i64 m0_4, .int .i64 m0_5, .int .i64 m0_6, .bool m0_7, .slice m0_8_b m0_8_l m0_8_c, .string m0_9] 101) w fun m0_ w1 =>
  Pn s fun a =>
  LdP (a.add 1) w1.drew fun x10 =>
  LdI .i64 ⟨m0_, 1, none⟩ w1.drew fun x12 =>
  LdI .i64 ⟨m0_, 3, none⟩ w1.drew fun x14 =>
  LdB ⟨m0_, 7, none⟩ w1.drew fun x16 =>
  elect_Elect_GotVote.Call x10 x12 x14 x16 w1.drew fun r17 w2 =>
  sync_Sync_persist.Call s w2 fun w3 =>
  Bm (!r17) (
    R  w3) (
    sL1 s (0 : Int) w3)) = kstep Tryz.prog 52 Tryz.f154.results.toList (Tryz.f154.body.getD .skip) (sync_Sync_voteCame.RV R) (kvc Tryz.prog 52 Tryz.f154.results.toList (Tryz.f154.body.getD .skip) (sync_Sync_voteCame.RV R) [([(0, [1, 1, 1, 1, 0, 1, 0, 0]), (2, [1, 1, 1, 1, 0, 1, 0, 0]), (1, [0]), (0, [1, 1, 1, 1, 1])], fun σ w => dP (slotOf σ 0) fun s_ => dI .i64 (slotOf σ 5) fun q_ => sL1 s_ q_ w)] 2000) [(0, [])] [(0, .pointer s), (1, .agg #[.int .i64 m0_0, .int .i64 m0_1, .int .i64 m0_2, .int .i64 m0_3, .int .i64 m0_4, .int .i64 m0_5, .int .i64 m0_6, .bool m0_7, .slice m0_8_b m0_8_l m0_8_c, .string m0_9])] w := by kernel_rfl
theorem sync_Sync_voteCame.B0_sound {R : World → Prop}  (s : Option Addr) (m0_0 m0_1 m0_2 m0_3 m0_4 m0_5 m0_6 : Int) (m0_7 : Bool) (m0_8_b : Option Addr) (m0_8_l m0_8_c : Nat) (m0_9 : ByteArray) (w : World) (h : sync_Sync_voteCame.B0 s m0_0 m0_1 m0_2 m0_3 m0_4 m0_5 m0_6 m0_7 m0_8_b m0_8_l m0_8_c m0_9 w   R) :
    KW Tryz.prog 154 52 (sync_Sync_voteCame.RV R) ([(0, [])].map (toItem (Tryz.f154.body.getD .skip))) [(0, .pointer s), (1, .agg #[.int .i64 m0_0, .int .i64 m0_1, .int .i64 m0_2, .int .i64 m0_3, .int .i64 m0_4, .int .i64 m0_5, .int .i64 m0_6, .bool m0_7, .slice m0_8_b m0_8_l m0_8_c, .string m0_9])] w := by
  exact block_spec Tryz.func154 Tryz.mixed (stops_cons (fun σ w h => by
      obtain ⟨s_, e0, h⟩ := dP_elim h
      obtain ⟨q_, e1, h⟩ := dI_elim h
      exact (sync_Sync_voteCame.L1_sound  s_ q_ w h).weaken (Sub.cons (Sub.cons (Sub.nil _) e1) e0)) stops_nil) (Eq.mp (sync_Sync_voteCame.B0_eq s m0_0 m0_1 m0_2 m0_3 m0_4 m0_5 m0_6 m0_7 m0_8_b m0_8_l m0_8_c m0_9 w   R (fun s_ q_ w => sync_Sync_voteCame.L1 s_ q_ w  R)) h)
theorem sync_Sync_voteCame.sound (s : Option Addr) (m0_0 m0_1 m0_2 m0_3 m0_4 m0_5 m0_6 : Int) (m0_7 : Bool) (m0_8_b : Option Addr) (m0_8_l m0_8_c : Nat) (m0_9 : ByteArray) (w : World) (R : World → Prop) (h : sync_Sync_voteCame.B0 s m0_0 m0_1 m0_2 m0_3 m0_4 m0_5 m0_6 m0_7 m0_8_b m0_8_l m0_8_c m0_9 w R) : sync_Sync_voteCame.Call s m0_0 m0_1 m0_2 m0_3 m0_4 m0_5 m0_6 m0_7 m0_8_b m0_8_l m0_8_c m0_9 w R := by
  have hc := calls_of_block (args := #[.pointer s, .agg #[.int .i64 m0_0, .int .i64 m0_1, .int .i64 m0_2, .int .i64 m0_3, .int .i64 m0_4, .int .i64 m0_5, .int .i64 m0_6, .bool m0_7, .slice m0_8_b m0_8_l m0_8_c, .string m0_9]]) Tryz.func154 (body := (Tryz.f154.body.getD .skip)) (by kernel_rfl) (by kernel_rfl) (args_slot _) (sync_Sync_voteCame.B0_sound s m0_0 m0_1 m0_2 m0_3 m0_4 m0_5 m0_6 m0_7 m0_8_b m0_8_l m0_8_c m0_9 w h)
  exact hc.mono fun e w' he => by
    obtain ⟨v, rfl, hv⟩ := he
    exact sync_Sync_voteCame.RV_elim hv
def sync_Sync_entriesCame.B0 (s : Option Addr) (m0_0 m0_1 m0_2 m0_3 m0_4 m0_5 m0_6 : Int) (m0_7 : Bool) (m0_8_b : Option Addr) (m0_8_l m0_8_c : Nat) (m0_9 : ByteArray) (w : World)   (R : World → Prop) : Prop :=
  New (.cells #[.int .i64 m0_0, .int .i64 m0_1, .int .i64 m0_2, .int .i64 m0_3, .int .i64 m0_4, .int .i64 m0_5, .int .i64 m0_6, .bool m0_7, .slice m0_8_b m0_8_l m0_8_c, .string m0_9] 101) w fun m0_ w1 =>
  Pn s fun a =>
  LdP (a.add 1) w1.drew fun x10 =>
  LdI .i64 ⟨m0_, 1, none⟩ w1.drew fun x12 =>
  LdI .i64 ⟨m0_, 3, none⟩ w1.drew fun x14 =>
  elect_Elect_Heard.Call x10 x12 x14 w1.drew fun r15 w2 =>
  sync_Sync_persist.Call s w2 fun w3 =>
  Bm (!r15) (
    LdI .i64 ⟨m0_, 1, none⟩ w3 fun x22 =>
    sync_Sync_reply.Call s (4 : Int) x22 false (0 : Int) w3 fun w4 =>
    R  w4) (
    LdI .i64 ⟨m0_, 0, none⟩ w3 fun x26_0 =>
    LdI .i64 ⟨m0_, 1, none⟩ w3 fun x26_1 =>
    LdI .i64 ⟨m0_, 2, none⟩ w3 fun x26_2 =>
    LdI .i64 ⟨m0_, 3, none⟩ w3 fun x26_3 =>
    LdI .i64 ⟨m0_, 4, none⟩ w3 fun x26_4 =>
    LdI .i64 ⟨m0_, 5, none⟩ w3 fun x26_5 =>
    LdI .i64 ⟨m0_, 6, none⟩ w3 fun x26_6 =>
    LdB ⟨m0_, 7, none⟩ w3 fun x26_7 =>
    LdL ⟨m0_, 8, none⟩ w3 fun x26_8_b x26_8_l x26_8_c =>
    LdS ⟨m0_, 9, none⟩ w3 fun x26_9 =>
    sync_Sync_accept.Call s x26_0 x26_1 x26_2 x26_3 x26_4 x26_5 x26_6 x26_7 x26_8_b x26_8_l x26_8_c x26_9 w3 fun r27_0 r27_1 w5 =>
    LdI .i64 ⟨m0_, 1, none⟩ w5 fun x32 =>
    sync_Sync_reply.Call s (4 : Int) x32 r27_0 r27_1 w5 fun w6 =>
    R  w6)
theorem sync_Sync_entriesCame.B0_eq (s : Option Addr) (m0_0 m0_1 m0_2 m0_3 m0_4 m0_5 m0_6 : Int) (m0_7 : Bool) (m0_8_b : Option Addr) (m0_8_l m0_8_c : Nat) (m0_9 : ByteArray) (w : World)   (R : World → Prop)  :
    (
  New (.cells #[.int .i64 m0_0, .int .i64 m0_1, .int .i64 m0_2, .int .i64 m0_3, .int .i64 m0_4, .int .i64 m0_5, .int .i64 m0_6, .bool m0_7, .slice m0_8_b m0_8_l m0_8_c, .string m0_9] 101) w fun m0_ w1 =>
  Pn s fun a =>
  LdP (a.add 1) w1.drew fun x10 =>
  LdI .i64 ⟨m0_, 1, none⟩ w1.drew fun x12 =>
  LdI .i64 ⟨m0_, 3, none⟩ w1.drew fun x14 =>
  elect_Elect_Heard.Call x10 x12 x14 w1.drew fun r15 w2 =>
  sync_Sync_persist.Call s w2 fun w3 =>
  Bm (!r15) (
    LdI .i64 ⟨m0_, 1, none⟩ w3 fun x22 =>
    sync_Sync_reply.Call s (4 : Int) x22 false (0 : Int) w3 fun w4 =>
    R  w4) (
    LdI .i64 ⟨m0_, 0, none⟩ w3 fun x26_0 =>
    LdI .i64 ⟨m0_, 1, none⟩ w3 fun x26_1 =>
    LdI .i64 ⟨m0_, 2, none⟩ w3 fun x26_2 =>
    LdI .i64 ⟨m0_, 3, none⟩ w3 fun x26_3 =>
    LdI .i64 ⟨m0_, 4, none⟩ w3 fun x26_4 =>
    LdI .i64 ⟨m0_, 5, none⟩ w3 fun x26_5 =>
    LdI .i64 ⟨m0_, 6, none⟩ w3 fun x26_6 =>
    LdB ⟨m0_, 7, none⟩ w3 fun x26_7 =>
    LdL ⟨m0_, 8, none⟩ w3 fun x26_8_b x26_8_l x26_8_c =>
    LdS ⟨m0_, 9, none⟩ w3 fun x26_9 =>
    sync_Sync_accept.Call s x26_0 x26_1 x26_2 x26_3 x26_4 x26_5 x26_6 x26_7 x26_8_b x26_8_l x26_8_c x26_9 w3 fun r27_0 r27_1 w5 =>
    LdI .i64 ⟨m0_, 1, none⟩ w5 fun x32 =>
    sync_Sync_reply.Call s (4 : Int) x32 r27_0 r27_1 w5 fun w6 =>
    R  w6)) = kstep Tryz.prog 36 Tryz.f155.results.toList (Tryz.f155.body.getD .skip) (sync_Sync_entriesCame.RV R) (kvc Tryz.prog 36 Tryz.f155.results.toList (Tryz.f155.body.getD .skip) (sync_Sync_entriesCame.RV R) [] 2000) [(0, [])] [(0, .pointer s), (1, .agg #[.int .i64 m0_0, .int .i64 m0_1, .int .i64 m0_2, .int .i64 m0_3, .int .i64 m0_4, .int .i64 m0_5, .int .i64 m0_6, .bool m0_7, .slice m0_8_b m0_8_l m0_8_c, .string m0_9])] w := by kernel_rfl
theorem sync_Sync_entriesCame.B0_sound {R : World → Prop}  (s : Option Addr) (m0_0 m0_1 m0_2 m0_3 m0_4 m0_5 m0_6 : Int) (m0_7 : Bool) (m0_8_b : Option Addr) (m0_8_l m0_8_c : Nat) (m0_9 : ByteArray) (w : World) (h : sync_Sync_entriesCame.B0 s m0_0 m0_1 m0_2 m0_3 m0_4 m0_5 m0_6 m0_7 m0_8_b m0_8_l m0_8_c m0_9 w   R) :
    KW Tryz.prog 155 36 (sync_Sync_entriesCame.RV R) ([(0, [])].map (toItem (Tryz.f155.body.getD .skip))) [(0, .pointer s), (1, .agg #[.int .i64 m0_0, .int .i64 m0_1, .int .i64 m0_2, .int .i64 m0_3, .int .i64 m0_4, .int .i64 m0_5, .int .i64 m0_6, .bool m0_7, .slice m0_8_b m0_8_l m0_8_c, .string m0_9])] w := by
  exact block_spec Tryz.func155 Tryz.mixed stops_nil (Eq.mp (sync_Sync_entriesCame.B0_eq s m0_0 m0_1 m0_2 m0_3 m0_4 m0_5 m0_6 m0_7 m0_8_b m0_8_l m0_8_c m0_9 w   R ) h)
theorem sync_Sync_entriesCame.sound (s : Option Addr) (m0_0 m0_1 m0_2 m0_3 m0_4 m0_5 m0_6 : Int) (m0_7 : Bool) (m0_8_b : Option Addr) (m0_8_l m0_8_c : Nat) (m0_9 : ByteArray) (w : World) (R : World → Prop) (h : sync_Sync_entriesCame.B0 s m0_0 m0_1 m0_2 m0_3 m0_4 m0_5 m0_6 m0_7 m0_8_b m0_8_l m0_8_c m0_9 w R) : sync_Sync_entriesCame.Call s m0_0 m0_1 m0_2 m0_3 m0_4 m0_5 m0_6 m0_7 m0_8_b m0_8_l m0_8_c m0_9 w R := by
  have hc := calls_of_block (args := #[.pointer s, .agg #[.int .i64 m0_0, .int .i64 m0_1, .int .i64 m0_2, .int .i64 m0_3, .int .i64 m0_4, .int .i64 m0_5, .int .i64 m0_6, .bool m0_7, .slice m0_8_b m0_8_l m0_8_c, .string m0_9]]) Tryz.func155 (body := (Tryz.f155.body.getD .skip)) (by kernel_rfl) (by kernel_rfl) (args_slot _) (sync_Sync_entriesCame.B0_sound s m0_0 m0_1 m0_2 m0_3 m0_4 m0_5 m0_6 m0_7 m0_8_b m0_8_l m0_8_c m0_9 w h)
  exact hc.mono fun e w' he => by
    obtain ⟨v, rfl, hv⟩ := he
    exact sync_Sync_entriesCame.RV_elim hv
end Go.Proofs.Qxb6500430aGreat
