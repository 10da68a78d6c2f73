import Derived.Test.Qxb6500430aGreatSig
set_option maxRecDepth 100000
set_option linter.unusedVariables false
open Go.Vc
namespace Go.Proofs.Qxb6500430aGreat
def kv_reader_num.B1 (r : Option Addr) (v : Int) (t20 : Bool) (w : World)   (R : Int → World → Prop) : Prop :=
  Bm t20 (
    Pn r fun a =>
    Sts [.bool true] (a.add 2) 0 w fun w1 =>
    R (0 : Int) w1) (
    Pn r fun a_1 =>
    LdI .i64 (a_1.add 1) w fun x27 =>
    Pn r fun a_2 =>
    Sts [.int .i64 (IntKind.i64.wrap (x27 + (8 : Int)))] (a_2.add 1) 0 w fun w2 =>
    R v w2)
theorem kv_reader_num.B1_eq (r : Option Addr) (v : Int) (t20 : Bool) (w : World)   (R : Int → World → Prop)  :
    (
  Bm t20 (
    Pn r fun a =>
    Sts [.bool true] (a.add 2) 0 w fun w1 =>
    R (0 : Int) w1) (
    Pn r fun a_1 =>
    LdI .i64 (a_1.add 1) w fun x27 =>
    Pn r fun a_2 =>
    Sts [.int .i64 (IntKind.i64.wrap (x27 + (8 : Int)))] (a_2.add 1) 0 w fun w2 =>
    R v w2)) = kstep Tryz.prog 32 Tryz.f207.results.toList (Tryz.f207.body.getD .skip) (kv_reader_num.RV R) (kvc Tryz.prog 32 Tryz.f207.results.toList (Tryz.f207.body.getD .skip) (kv_reader_num.RV R) [] 2000) [(0, [1, 1, 0, 1]), (0, [1, 1, 1])] [(0, .pointer r), (3, .int .i64 v), (20, .bool t20)] w := by kernel_rfl
theorem kv_reader_num.B1_sound {R : Int → World → Prop}  (r : Option Addr) (v : Int) (t20 : Bool) (w : World) (h : kv_reader_num.B1 r v t20 w   R) :
    KW Tryz.prog 207 32 (kv_reader_num.RV R) ([(0, [1, 1, 0, 1]), (0, [1, 1, 1])].map (toItem (Tryz.f207.body.getD .skip))) [(0, .pointer r), (3, .int .i64 v), (20, .bool t20)] w := by
  exact block_spec Tryz.func207 Tryz.mixed stops_nil (Eq.mp (kv_reader_num.B1_eq r v t20 w   R ) h)
def kv_reader_num.B0 (r : Option Addr) (w : World)   (R : Int → World → Prop) : Prop :=
  Pn r fun a =>
  LdS a w.drew fun x7 =>
  Pn r fun a_1 =>
  LdI .i64 (a_1.add 1) w.drew fun x11 =>
  api_GetU64.Call x7 x11 w.drew fun r12 w1 =>
  Pn r fun a_2 =>
  LdB (a_2.add 2) w1 fun x16 =>
  Bm x16 (
    kv_reader_num.B1 r r12 true w1  R) (
    kv_reader_num.B1 r r12 (decide (r12 < (0 : Int))) w1  R)
theorem kv_reader_num.B0_eq (r : Option Addr) (w : World)   (R : Int → World → Prop) (sB1 : Option Addr → Int → Bool → World → Prop) :
    (
  Pn r fun a =>
  LdS a w.drew fun x7 =>
  Pn r fun a_1 =>
  LdI .i64 (a_1.add 1) w.drew fun x11 =>
  api_GetU64.Call x7 x11 w.drew fun r12 w1 =>
  Pn r fun a_2 =>
  LdB (a_2.add 2) w1 fun x16 =>
  Bm x16 (
    sB1 r r12 true w1) (
    sB1 r r12 (decide (r12 < (0 : Int))) w1)) = kstep Tryz.prog 32 Tryz.f207.results.toList (Tryz.f207.body.getD .skip) (kv_reader_num.RV R) (kvc Tryz.prog 32 Tryz.f207.results.toList (Tryz.f207.body.getD .skip) (kv_reader_num.RV R) [([(0, [1, 1, 0, 1]), (0, [1, 1, 1])], fun σ w => dP (slotOf σ 0) fun r_ => dI .i64 (slotOf σ 3) fun v_ => dB (slotOf σ 20) fun t20_ => sB1 r_ v_ t20_ w)] 2000) [(0, [])] [(0, .pointer r)] w := by kernel_rfl
theorem kv_reader_num.B0_sound {R : Int → World → Prop}  (r : Option Addr) (w : World) (h : kv_reader_num.B0 r w   R) :
    KW Tryz.prog 207 32 (kv_reader_num.RV R) ([(0, [])].map (toItem (Tryz.f207.body.getD .skip))) [(0, .pointer r)] w := by
  exact block_spec Tryz.func207 Tryz.mixed (stops_cons (fun σ w h => by
      obtain ⟨r_, e0, h⟩ := dP_elim h
      obtain ⟨v_, e1, h⟩ := dI_elim h
      obtain ⟨t20_, e2, h⟩ := dB_elim h
      exact (kv_reader_num.B1_sound  r_ v_ t20_ w h).weaken (Sub.cons (Sub.cons (Sub.cons (Sub.nil _) e2) e1) e0)) stops_nil) (Eq.mp (kv_reader_num.B0_eq r w   R (fun r_ v_ t20_ w => kv_reader_num.B1 r_ v_ t20_ w  R)) h)
theorem kv_reader_num.sound (r : Option Addr) (w : World) (R : Int → World → Prop) (h : kv_reader_num.B0 r w R) : kv_reader_num.Call r w R := by
  have hc := calls_of_block (args := #[.pointer r]) Tryz.func207 (body := (Tryz.f207.body.getD .skip)) (by kernel_rfl) (by kernel_rfl) (args_slot _) (kv_reader_num.B0_sound r w h)
  exact hc.mono fun e w' he => by
    obtain ⟨v, rfl, hv⟩ := he
    exact kv_reader_num.RV_elim hv
def kv_mkSession.B1 (a t4 s : Nat) (i : Int) (t19 : Bool) (w : World) (N1 : Nat → Nat → Nat → Int → World → Prop)  (R : Int → Int → Int → Int → Int → Int → World → Prop) : Prop :=
  Bm t19 (
    LdS ⟨a, 1, none⟩ w fun x24 =>
    (0 ≤ i ∧ i < ((x24.size : Nat) : Int)) ∧
    (0 ≤ i ∧ i < ((3 : Nat) : Int)) ∧
    Sts [.int .u8 (byteAt x24 i)] (Addr.add ⟨s, 3, none⟩ (i.toNat * 1)) 0 w fun w1 =>
    Sts [.int .i64 (IntKind.i64.wrap (i + (1 : Int)))] ⟨s, 2, none⟩ 0 w1 fun w2 =>
    N1 a t4 s (IntKind.i64.wrap (i + (1 : Int))) w2) (
    LdI .i64 ⟨s, 0, none⟩ w fun x32_0 =>
    LdI .i64 ⟨s, 1, none⟩ w fun x32_1 =>
    LdI .i64 ⟨s, 2, none⟩ w fun x32_2 =>
    LdI .u8 ⟨s, 3, none⟩ w fun x32_3 =>
    LdI .u8 ⟨s, 4, none⟩ w fun x32_4 =>
    LdI .u8 ⟨s, 5, none⟩ w fun x32_5 =>
    Sts [.int .i64 x32_0, .int .i64 x32_1, .int .i64 x32_2, .int .u8 x32_3, .int .u8 x32_4, .int .u8 x32_5] ⟨t4, 0, none⟩ 0 w fun w3 =>
    LdI .i64 ⟨t4, 0, none⟩ w3 fun r_0 =>
    LdI .i64 ⟨t4, 1, none⟩ w3 fun r_1 =>
    LdI .i64 ⟨t4, 2, none⟩ w3 fun r_2 =>
    LdI .u8 ⟨t4, 3, none⟩ w3 fun r_3 =>
    LdI .u8 ⟨t4, 4, none⟩ w3 fun r_4 =>
    LdI .u8 ⟨t4, 5, none⟩ w3 fun r_5 =>
    R r_0 r_1 r_2 r_3 r_4 r_5 w3)
theorem kv_mkSession.B1_eq (a t4 s : Nat) (i : Int) (t19 : Bool) (w : World) (N1 : Nat → Nat → Nat → Int → World → Prop)  (R : Int → Int → Int → Int → Int → Int → World → Prop)  :
    (
  Bm t19 (
    LdS ⟨a, 1, none⟩ w fun x24 =>
    (0 ≤ i ∧ i < ((x24.size : Nat) : Int)) ∧
    (0 ≤ i ∧ i < ((3 : Nat) : Int)) ∧
    Sts [.int .u8 (byteAt x24 i)] (Addr.add ⟨s, 3, none⟩ (i.toNat * 1)) 0 w fun w1 =>
    Sts [.int .i64 (IntKind.i64.wrap (i + (1 : Int)))] ⟨s, 2, none⟩ 0 w1 fun w2 =>
    N1 a t4 s (IntKind.i64.wrap (i + (1 : Int))) w2) (
    LdI .i64 ⟨s, 0, none⟩ w fun x32_0 =>
    LdI .i64 ⟨s, 1, none⟩ w fun x32_1 =>
    LdI .i64 ⟨s, 2, none⟩ w fun x32_2 =>
    LdI .u8 ⟨s, 3, none⟩ w fun x32_3 =>
    LdI .u8 ⟨s, 4, none⟩ w fun x32_4 =>
    LdI .u8 ⟨s, 5, none⟩ w fun x32_5 =>
    Sts [.int .i64 x32_0, .int .i64 x32_1, .int .i64 x32_2, .int .u8 x32_3, .int .u8 x32_4, .int .u8 x32_5] ⟨t4, 0, none⟩ 0 w fun w3 =>
    LdI .i64 ⟨t4, 0, none⟩ w3 fun r_0 =>
    LdI .i64 ⟨t4, 1, none⟩ w3 fun r_1 =>
    LdI .i64 ⟨t4, 2, none⟩ w3 fun r_2 =>
    LdI .u8 ⟨t4, 3, none⟩ w3 fun r_3 =>
    LdI .u8 ⟨t4, 4, none⟩ w3 fun r_4 =>
    LdI .u8 ⟨t4, 5, none⟩ w3 fun r_5 =>
    R r_0 r_1 r_2 r_3 r_4 r_5 w3)) = kstep Tryz.prog 33 Tryz.f208.results.toList (Tryz.f208.body.getD .skip) (kv_mkSession.RV R) (kvc Tryz.prog 33 Tryz.f208.results.toList (Tryz.f208.body.getD .skip) (kv_mkSession.RV R) [([(0, [1, 1, 0, 1, 0, 0]), (2, [1, 1, 0, 1, 0, 0]), (1, [0]), (0, [1, 1, 1])], fun σ w => dK (slotOf σ 3) fun a_ => dK (slotOf σ 4) fun t4_ => dK (slotOf σ 5) fun s_ => dI .i64 (slotOf σ 6) fun i_ => N1 a_ t4_ s_ i_ w)] 2000) [(0, [1, 1, 0, 1, 0, 0, 0, 1]), (0, [1, 1, 0, 1, 0, 0, 1]), (2, [1, 1, 0, 1, 0, 0]), (1, [0]), (0, [1, 1, 1])] [(3, .pointer (some ⟨a, 0, none⟩)), (4, .pointer (some ⟨t4, 0, none⟩)), (5, .pointer (some ⟨s, 0, none⟩)), (6, .int .i64 i), (19, .bool t19)] w := by kernel_rfl
theorem kv_mkSession.B1_sound {R : Int → Int → Int → Int → Int → Int → World → Prop} {N1 : Nat → Nat → Nat → Int → World → Prop} (hN1 : ∀ a t4 s i w, N1 a t4 s i w → KW Tryz.prog 208 33 (kv_mkSession.RV R) ([(0, [1, 1, 0, 1, 0, 0]), (2, [1, 1, 0, 1, 0, 0]), (1, [0]), (0, [1, 1, 1])].map (toItem (Tryz.f208.body.getD .skip))) [(3, .pointer (some ⟨a, 0, none⟩)), (4, .pointer (some ⟨t4, 0, none⟩)), (5, .pointer (some ⟨s, 0, none⟩)), (6, .int .i64 i)] w) (a t4 s : Nat) (i : Int) (t19 : Bool) (w : World) (h : kv_mkSession.B1 a t4 s i t19 w N1  R) :
    KW Tryz.prog 208 33 (kv_mkSession.RV R) ([(0, [1, 1, 0, 1, 0, 0, 0, 1]), (0, [1, 1, 0, 1, 0, 0, 1]), (2, [1, 1, 0, 1, 0, 0]), (1, [0]), (0, [1, 1, 1])].map (toItem (Tryz.f208.body.getD .skip))) [(3, .pointer (some ⟨a, 0, none⟩)), (4, .pointer (some ⟨t4, 0, none⟩)), (5, .pointer (some ⟨s, 0, none⟩)), (6, .int .i64 i), (19, .bool t19)] w := by
  exact block_spec Tryz.func208 Tryz.mixed (stops_cons (fun σ w h => by
      obtain ⟨a_, e0, h⟩ := dK_elim h
      obtain ⟨t4_, e1, h⟩ := dK_elim h
      obtain ⟨s_, e2, h⟩ := dK_elim h
      obtain ⟨i_, e3, h⟩ := dI_elim h
      exact (hN1 a_ t4_ s_ i_ w h).weaken (Sub.cons (Sub.cons (Sub.cons (Sub.cons (Sub.nil _) e3) e2) e1) e0)) stops_nil) (Eq.mp (kv_mkSession.B1_eq a t4 s i t19 w N1  R ) h)
def kv_mkSession.L1b (a t4 s : Nat) (i : Int) (w : World)  (N1 : Nat → Nat → Nat → Int → World → Prop) (R : Int → Int → Int → Int → Int → Int → World → Prop) : Prop :=
  LdS ⟨a, 1, none⟩ w fun x13 =>
  Bm (decide (i < ((x13.size : Nat) : Int))) (
    kv_mkSession.B1 a t4 s i (decide (i < (3 : Int))) w N1 R) (
    kv_mkSession.B1 a t4 s i false w N1 R)
theorem kv_mkSession.L1b_eq (a t4 s : Nat) (i : Int) (w : World)  (N1 : Nat → Nat → Nat → Int → World → Prop) (R : Int → Int → Int → Int → Int → Int → World → Prop) (sB1 : Nat → Nat → Nat → Int → Bool → World → Prop) :
    (
  LdS ⟨a, 1, none⟩ w fun x13 =>
  Bm (decide (i < ((x13.size : Nat) : Int))) (
    sB1 a t4 s i (decide (i < (3 : Int))) w) (
    sB1 a t4 s i false w)) = kstep Tryz.prog 33 Tryz.f208.results.toList (Tryz.f208.body.getD .skip) (kv_mkSession.RV R) (kvc Tryz.prog 33 Tryz.f208.results.toList (Tryz.f208.body.getD .skip) (kv_mkSession.RV R) [([(0, [1, 1, 0, 1, 0, 0, 0, 1]), (0, [1, 1, 0, 1, 0, 0, 1]), (2, [1, 1, 0, 1, 0, 0]), (1, [0]), (0, [1, 1, 1])], fun σ w => dK (slotOf σ 3) fun a_ => dK (slotOf σ 4) fun t4_ => dK (slotOf σ 5) fun s_ => dI .i64 (slotOf σ 6) fun i_ => dB (slotOf σ 19) fun t19_ => sB1 a_ t4_ s_ i_ t19_ w)] 2000) [(0, [1, 1, 0, 1, 0, 0]), (2, [1, 1, 0, 1, 0, 0]), (1, [0]), (0, [1, 1, 1])] [(3, .pointer (some ⟨a, 0, none⟩)), (4, .pointer (some ⟨t4, 0, none⟩)), (5, .pointer (some ⟨s, 0, none⟩)), (6, .int .i64 i)] w := by kernel_rfl
theorem kv_mkSession.L1b_sound {R : Int → Int → Int → Int → Int → Int → World → Prop} {N1 : Nat → Nat → Nat → Int → World → Prop} (hN1 : ∀ a t4 s i w, N1 a t4 s i w → KW Tryz.prog 208 33 (kv_mkSession.RV R) ([(0, [1, 1, 0, 1, 0, 0]), (2, [1, 1, 0, 1, 0, 0]), (1, [0]), (0, [1, 1, 1])].map (toItem (Tryz.f208.body.getD .skip))) [(3, .pointer (some ⟨a, 0, none⟩)), (4, .pointer (some ⟨t4, 0, none⟩)), (5, .pointer (some ⟨s, 0, none⟩)), (6, .int .i64 i)] w) (a t4 s : Nat) (i : Int) (w : World) (h : kv_mkSession.L1b a t4 s i w  N1 R) :
    KW Tryz.prog 208 33 (kv_mkSession.RV R) ([(0, [1, 1, 0, 1, 0, 0]), (2, [1, 1, 0, 1, 0, 0]), (1, [0]), (0, [1, 1, 1])].map (toItem (Tryz.f208.body.getD .skip))) [(3, .pointer (some ⟨a, 0, none⟩)), (4, .pointer (some ⟨t4, 0, none⟩)), (5, .pointer (some ⟨s, 0, none⟩)), (6, .int .i64 i)] w := by
  exact block_spec Tryz.func208 Tryz.mixed (stops_cons (fun σ w h => by
      obtain ⟨a_, e0, h⟩ := dK_elim h
      obtain ⟨t4_, e1, h⟩ := dK_elim h
      obtain ⟨s_, e2, h⟩ := dK_elim h
      obtain ⟨i_, e3, h⟩ := dI_elim h
      obtain ⟨t19_, e4, h⟩ := dB_elim h
      exact (kv_mkSession.B1_sound hN1 a_ t4_ s_ i_ t19_ w h).weaken (Sub.cons (Sub.cons (Sub.cons (Sub.cons (Sub.cons (Sub.nil _) e4) e3) e2) e1) e0)) stops_nil) (Eq.mp (kv_mkSession.L1b_eq a t4 s i w  N1 R (fun a_ t4_ s_ i_ t19_ w => kv_mkSession.B1 a_ t4_ s_ i_ t19_ w N1 R)) h)
def kv_mkSession.L1 (a t4 s : Nat) (i : Int) (w : World)  (R : Int → Int → Int → Int → Int → Int → World → Prop) : Prop :=
  ∃ (I : Nat → Nat → Nat → Nat → Int → World → Prop) (m : Nat), I m a t4 s i w ∧ ∀ m a t4 s i w, I m a t4 s i w → kv_mkSession.L1b a t4 s i w  (fun a' t4' s' i' w' => ∃ m', m' < m ∧ I m' a' t4' s' i' w') R
theorem kv_mkSession.L1_sound {R : Int → Int → Int → Int → Int → Int → World → Prop}  (a t4 s : Nat) (i : Int) (w : World) (h : kv_mkSession.L1 a t4 s i w  R) :
    KW Tryz.prog 208 33 (kv_mkSession.RV R) ([(0, [1, 1, 0, 1, 0, 0]), (2, [1, 1, 0, 1, 0, 0]), (1, [0]), (0, [1, 1, 1])].map (toItem (Tryz.f208.body.getD .skip))) [(3, .pointer (some ⟨a, 0, none⟩)), (4, .pointer (some ⟨t4, 0, none⟩)), (5, .pointer (some ⟨s, 0, none⟩)), (6, .int .i64 i)] w := by
  obtain ⟨I, m, hBase, hr⟩ := h
  refine KW.loop (fun m σ w => ∃ (a t4 s : Nat) (i : Int), σ = [(3, .pointer (some ⟨a, 0, none⟩)), (4, .pointer (some ⟨t4, 0, none⟩)), (5, .pointer (some ⟨s, 0, none⟩)), (6, .int .i64 i)] ∧ I m a t4 s i w) ?_ m _ w ⟨a, t4, s, i, rfl, hBase⟩
  rintro m ih σ w ⟨a, t4, s, i, rfl, hI⟩
  exact kv_mkSession.L1b_sound  (N1 := fun a' t4' s' i' w' => ∃ m', m' < m ∧ I m' a' t4' s' i' w') (fun a' t4' s' i' w' hx => by obtain ⟨m', hlt, hI'⟩ := hx; exact ih m' hlt _ w' ⟨a', t4', s', i', rfl, hI'⟩) a t4 s i w (hr m a t4 s i w hI)
def kv_mkSession.B0 (seq a_0 : Int) (a_1 : ByteArray) (w : World)   (R : Int → Int → Int → Int → Int → Int → World → Prop) : Prop :=
  New (.cells #[.int .i64 a_0, .string a_1] 93) w fun a_ w1 =>
  New (.cells #[.int .i64 (0 : Int), .int .i64 (0 : Int), .int .i64 (0 : Int), .int .u8 (0 : Int), .int .u8 (0 : Int), .int .u8 (0 : Int)] 71) w1 fun b4 w2 =>
  LdI .i64 ⟨a_, 0, none⟩ w2 fun x9 =>
  New (.cells #[.int .i64 (0 : Int), .int .i64 (0 : Int), .int .i64 (0 : Int), .int .u8 (0 : Int), .int .u8 (0 : Int), .int .u8 (0 : Int)] 71) w2 fun s_ w3 =>
  Sts [.int .i64 seq, .int .i64 x9, .int .i64 (0 : Int), .int .u8 (0 : Int), .int .u8 (0 : Int), .int .u8 (0 : Int)] ⟨s_, 0, none⟩ 0 w3 fun w4 =>
  kv_mkSession.L1 a_ b4 s_ (0 : Int) w4  R
theorem kv_mkSession.B0_eq (seq a_0 : Int) (a_1 : ByteArray) (w : World)   (R : Int → Int → Int → Int → Int → Int → World → Prop) (sL1 : Nat → Nat → Nat → Int → World → Prop) :
    (
  New (.cells #[.int .i64 a_0, .string a_1] 93) w fun a_ w1 =>
  New (.cells #[.int .i64 (0 : Int), .int .i64 (0 : Int), .int .i64 (0 : Int), .int .u8 (0 : Int), .int .u8 (0 : Int), .int .u8 (0 : Int)] 71) w1 fun b4 w2 =>
  LdI .i64 ⟨a_, 0, none⟩ w2 fun x9 =>
  New (.cells #[.int .i64 (0 : Int), .int .i64 (0 : Int), .int .i64 (0 : Int), .int .u8 (0 : Int), .int .u8 (0 : Int), .int .u8 (0 : Int)] 71) w2 fun s_ w3 =>
  Sts [.int .i64 seq, .int .i64 x9, .int .i64 (0 : Int), .int .u8 (0 : Int), .int .u8 (0 : Int), .int .u8 (0 : Int)] ⟨s_, 0, none⟩ 0 w3 fun w4 =>
  sL1 a_ b4 s_ (0 : Int) w4) = kstep Tryz.prog 33 Tryz.f208.results.toList (Tryz.f208.body.getD .skip) (kv_mkSession.RV R) (kvc Tryz.prog 33 Tryz.f208.results.toList (Tryz.f208.body.getD .skip) (kv_mkSession.RV R) [([(0, [1, 1, 0, 1, 0, 0]), (2, [1, 1, 0, 1, 0, 0]), (1, [0]), (0, [1, 1, 1])], fun σ w => dK (slotOf σ 3) fun a_ => dK (slotOf σ 4) fun t4_ => dK (slotOf σ 5) fun s_ => dI .i64 (slotOf σ 6) fun i_ => sL1 a_ t4_ s_ i_ w)] 2000) [(0, [])] [(0, .int .i64 seq), (1, .agg #[.int .i64 a_0, .string a_1])] w := by kernel_rfl
theorem kv_mkSession.B0_sound {R : Int → Int → Int → Int → Int → Int → World → Prop}  (seq a_0 : Int) (a_1 : ByteArray) (w : World) (h : kv_mkSession.B0 seq a_0 a_1 w   R) :
    KW Tryz.prog 208 33 (kv_mkSession.RV R) ([(0, [])].map (toItem (Tryz.f208.body.getD .skip))) [(0, .int .i64 seq), (1, .agg #[.int .i64 a_0, .string a_1])] w := by
  exact block_spec Tryz.func208 Tryz.mixed (stops_cons (fun σ w h => by
      obtain ⟨a_, e0, h⟩ := dK_elim h
      obtain ⟨t4_, e1, h⟩ := dK_elim h
      obtain ⟨s_, e2, h⟩ := dK_elim h
      obtain ⟨i_, e3, h⟩ := dI_elim h
      exact (kv_mkSession.L1_sound  a_ t4_ s_ i_ w h).weaken (Sub.cons (Sub.cons (Sub.cons (Sub.cons (Sub.nil _) e3) e2) e1) e0)) stops_nil) (Eq.mp (kv_mkSession.B0_eq seq a_0 a_1 w   R (fun a_ t4_ s_ i_ w => kv_mkSession.L1 a_ t4_ s_ i_ w  R)) h)
theorem kv_mkSession.sound (seq a_0 : Int) (a_1 : ByteArray) (w : World) (R : Int → Int → Int → Int → Int → Int → World → Prop) (h : kv_mkSession.B0 seq a_0 a_1 w R) : kv_mkSession.Call seq a_0 a_1 w R := by
  have hc := calls_of_block (args := #[.int .i64 seq, .agg #[.int .i64 a_0, .string a_1]]) Tryz.func208 (body := (Tryz.f208.body.getD .skip)) (by kernel_rfl) (by kernel_rfl) (args_slot _) (kv_mkSession.B0_sound seq a_0 a_1 w h)
  exact hc.mono fun e w' he => by
    obtain ⟨v, rfl, hv⟩ := he
    exact kv_mkSession.RV_elim hv
def diskm_Disk_Read.B1 (d : Option Addr) (b : Int) (t11 : Bool) (w : World)   (R : ByteArray → Int → World → Prop) : Prop :=
  Bm t11 (
    R (ByteArray.mk #[]) (1 : Int) w) (
    Pn d fun a =>
    LdL a w fun x15_b x15_l x15_c =>
    Pn x15_b fun a_1 =>
    (0 ≤ b ∧ b < ((x15_l : Nat) : Int)) ∧
    LdS (Addr.add a_1 (b.toNat * 1)) w fun x18 =>
    R x18 (0 : Int) w)
theorem diskm_Disk_Read.B1_eq (d : Option Addr) (b : Int) (t11 : Bool) (w : World)   (R : ByteArray → Int → World → Prop)  :
    (
  Bm t11 (
    R (ByteArray.mk #[]) (1 : Int) w) (
    Pn d fun a =>
    LdL a w fun x15_b x15_l x15_c =>
    Pn x15_b fun a_1 =>
    (0 ≤ b ∧ b < ((x15_l : Nat) : Int)) ∧
    LdS (Addr.add a_1 (b.toNat * 1)) w fun x18 =>
    R x18 (0 : Int) w)) = kstep Tryz.prog 19 Tryz.f209.results.toList (Tryz.f209.body.getD .skip) (diskm_Disk_Read.RV R) (kvc Tryz.prog 19 Tryz.f209.results.toList (Tryz.f209.body.getD .skip) (diskm_Disk_Read.RV R) [] 2000) [(0, [1, 0, 1]), (0, [1, 1])] [(0, .pointer d), (1, .int .i64 b), (11, .bool t11)] w := by kernel_rfl
theorem diskm_Disk_Read.B1_sound {R : ByteArray → Int → World → Prop}  (d : Option Addr) (b : Int) (t11 : Bool) (w : World) (h : diskm_Disk_Read.B1 d b t11 w   R) :
    KW Tryz.prog 209 19 (diskm_Disk_Read.RV R) ([(0, [1, 0, 1]), (0, [1, 1])].map (toItem (Tryz.f209.body.getD .skip))) [(0, .pointer d), (1, .int .i64 b), (11, .bool t11)] w := by
  exact block_spec Tryz.func209 Tryz.mixed stops_nil (Eq.mp (diskm_Disk_Read.B1_eq d b t11 w   R ) h)
def diskm_Disk_Read.B0 (d : Option Addr) (b : Int) (w : World)   (R : ByteArray → Int → World → Prop) : Prop :=
  Bm (decide (b < (0 : Int))) (
    diskm_Disk_Read.B1 d b true w  R) (
    diskm_Disk_Read.B1 d b (decide (b ≥ (14 : Int))) w  R)
theorem diskm_Disk_Read.B0_eq (d : Option Addr) (b : Int) (w : World)   (R : ByteArray → Int → World → Prop) (sB1 : Option Addr → Int → Bool → World → Prop) :
    (
  Bm (decide (b < (0 : Int))) (
    sB1 d b true w) (
    sB1 d b (decide (b ≥ (14 : Int))) w)) = kstep Tryz.prog 19 Tryz.f209.results.toList (Tryz.f209.body.getD .skip) (diskm_Disk_Read.RV R) (kvc Tryz.prog 19 Tryz.f209.results.toList (Tryz.f209.body.getD .skip) (diskm_Disk_Read.RV R) [([(0, [1, 0, 1]), (0, [1, 1])], fun σ w => dP (slotOf σ 0) fun d_ => dI .i64 (slotOf σ 1) fun b_ => dB (slotOf σ 11) fun t11_ => sB1 d_ b_ t11_ w)] 2000) [(0, [])] [(0, .pointer d), (1, .int .i64 b)] w := by kernel_rfl
theorem diskm_Disk_Read.B0_sound {R : ByteArray → Int → World → Prop}  (d : Option Addr) (b : Int) (w : World) (h : diskm_Disk_Read.B0 d b w   R) :
    KW Tryz.prog 209 19 (diskm_Disk_Read.RV R) ([(0, [])].map (toItem (Tryz.f209.body.getD .skip))) [(0, .pointer d), (1, .int .i64 b)] w := by
  exact block_spec Tryz.func209 Tryz.mixed (stops_cons (fun σ w h => by
      obtain ⟨d_, e0, h⟩ := dP_elim h
      obtain ⟨b_, e1, h⟩ := dI_elim h
      obtain ⟨t11_, e2, h⟩ := dB_elim h
      exact (diskm_Disk_Read.B1_sound  d_ b_ t11_ w h).weaken (Sub.cons (Sub.cons (Sub.cons (Sub.nil _) e2) e1) e0)) stops_nil) (Eq.mp (diskm_Disk_Read.B0_eq d b w   R (fun d_ b_ t11_ w => diskm_Disk_Read.B1 d_ b_ t11_ w  R)) h)
theorem diskm_Disk_Read.sound (d : Option Addr) (b : Int) (w : World) (R : ByteArray → Int → World → Prop) (h : diskm_Disk_Read.B0 d b w R) : diskm_Disk_Read.Call d b w R := by
  have hc := calls_of_block (args := #[.pointer d, .int .i64 b]) Tryz.func209 (body := (Tryz.f209.body.getD .skip)) (by kernel_rfl) (by kernel_rfl) (args_slot _) (diskm_Disk_Read.B0_sound d b w h)
  exact hc.mono fun e w' he => by
    obtain ⟨v, rfl, hv⟩ := he
    exact diskm_Disk_Read.RV_elim hv
def store_whole.B0 (b : ByteArray) (w : World)   (R : Bool → World → Prop) : Prop :=
  (0 ≤ (0 : Int) ∧ (0 : Int) < ((b.size : Nat) : Int)) ∧
  (0 ≤ (63 : Int) ∧ (63 : Int) < ((b.size : Nat) : Int)) ∧
  Bm ((byteAt b (0 : Int)) == (byteAt b (63 : Int))) (
    (0 ≤ (0 : Int) ∧ (0 : Int) < ((b.size : Nat) : Int)) ∧
    R ((byteAt b (0 : Int)) != (0 : Int)) w.drew) (
    R false w.drew)
theorem store_whole.B0_eq (b : ByteArray) (w : World)   (R : Bool → World → Prop)  :
    (
  (0 ≤ (0 : Int) ∧ (0 : Int) < ((b.size : Nat) : Int)) ∧
  (0 ≤ (63 : Int) ∧ (63 : Int) < ((b.size : Nat) : Int)) ∧
  Bm ((byteAt b (0 : Int)) == (byteAt b (63 : Int))) (
    (0 ≤ (0 : Int) ∧ (0 : Int) < ((b.size : Nat) : Int)) ∧
    R ((byteAt b (0 : Int)) != (0 : Int)) w.drew) (
    R false w.drew)) = kstep Tryz.prog 13 Tryz.f210.results.toList (Tryz.f210.body.getD .skip) (store_whole.RV R) (kvc Tryz.prog 13 Tryz.f210.results.toList (Tryz.f210.body.getD .skip) (store_whole.RV R) [] 2000) [(0, [])] [(0, .string b)] w := by kernel_rfl
theorem store_whole.B0_sound {R : Bool → World → Prop}  (b : ByteArray) (w : World) (h : store_whole.B0 b w   R) :
    KW Tryz.prog 210 13 (store_whole.RV R) ([(0, [])].map (toItem (Tryz.f210.body.getD .skip))) [(0, .string b)] w := by
  exact block_spec Tryz.func210 Tryz.mixed stops_nil (Eq.mp (store_whole.B0_eq b w   R ) h)
theorem store_whole.sound (b : ByteArray) (w : World) (R : Bool → World → Prop) (h : store_whole.B0 b w R) : store_whole.Call b w R := by
  have hc := calls_of_block (args := #[.string b]) Tryz.func210 (body := (Tryz.f210.body.getD .skip)) (by kernel_rfl) (by kernel_rfl) (args_slot _) (store_whole.B0_sound b w h)
  exact hc.mono fun e w' he => by
    obtain ⟨v, rfl, hv⟩ := he
    exact store_whole.RV_elim hv
def store_get8.L1b (b : ByteArray) (at0 v i : Int) (w : World)  (N1 : ByteArray → Int → Int → Int → World → Prop) (R : Int → World → Prop) : Prop :=
  Bm (decide (i < (8 : Int))) (
    0 ≤ (8 : Int) ∧
    (0 ≤ (IntKind.i64.wrap (at0 + i)) ∧ (IntKind.i64.wrap (at0 + i)) < ((b.size : Nat) : Int)) ∧
    N1 b at0 (IntKind.i64.wrap (BitVec.ofInt IntKind.i64.bits (IntKind.i64.wrap (v * 2 ^ (min (8 : Int).toNat IntKind.i64.bits))) ||| BitVec.ofInt IntKind.i64.bits (IntKind.i64.wrap (byteAt b (IntKind.i64.wrap (at0 + i))))).toNat) (IntKind.i64.wrap (i + (1 : Int))) w) (
    R v w)
theorem store_get8.L1b_eq (b : ByteArray) (at0 v i : Int) (w : World)  (N1 : ByteArray → Int → Int → Int → World → Prop) (R : Int → World → Prop)  :
    (
  Bm (decide (i < (8 : Int))) (
    0 ≤ (8 : Int) ∧
    (0 ≤ (IntKind.i64.wrap (at0 + i)) ∧ (IntKind.i64.wrap (at0 + i)) < ((b.size : Nat) : Int)) ∧
    N1 b at0 (IntKind.i64.wrap (BitVec.ofInt IntKind.i64.bits (IntKind.i64.wrap (v * 2 ^ (min (8 : Int).toNat IntKind.i64.bits))) ||| BitVec.ofInt IntKind.i64.bits (IntKind.i64.wrap (byteAt b (IntKind.i64.wrap (at0 + i))))).toNat) (IntKind.i64.wrap (i + (1 : Int))) w) (
    R v w)) = kstep Tryz.prog 21 Tryz.f211.results.toList (Tryz.f211.body.getD .skip) (store_get8.RV R) (kvc Tryz.prog 21 Tryz.f211.results.toList (Tryz.f211.body.getD .skip) (store_get8.RV R) [([(0, [1, 1, 0, 1, 0, 0]), (2, [1, 1, 0, 1, 0, 0]), (1, [0]), (0, [1, 1, 1])], fun σ w => dS (slotOf σ 0) fun b_ => dI .i64 (slotOf σ 1) fun at0_ => dI .i64 (slotOf σ 5) fun v_ => dI .i64 (slotOf σ 6) fun i_ => N1 b_ at0_ v_ i_ w)] 2000) [(0, [1, 1, 0, 1, 0, 0]), (2, [1, 1, 0, 1, 0, 0]), (1, [0]), (0, [1, 1, 1])] [(0, .string b), (1, .int .i64 at0), (5, .int .i64 v), (6, .int .i64 i)] w := by kernel_rfl
theorem store_get8.L1b_sound {R : Int → World → Prop} {N1 : ByteArray → Int → Int → Int → World → Prop} (hN1 : ∀ b at0 v i w, N1 b at0 v i w → KW Tryz.prog 211 21 (store_get8.RV R) ([(0, [1, 1, 0, 1, 0, 0]), (2, [1, 1, 0, 1, 0, 0]), (1, [0]), (0, [1, 1, 1])].map (toItem (Tryz.f211.body.getD .skip))) [(0, .string b), (1, .int .i64 at0), (5, .int .i64 v), (6, .int .i64 i)] w) (b : ByteArray) (at0 v i : Int) (w : World) (h : store_get8.L1b b at0 v i w  N1 R) :
    KW Tryz.prog 211 21 (store_get8.RV R) ([(0, [1, 1, 0, 1, 0, 0]), (2, [1, 1, 0, 1, 0, 0]), (1, [0]), (0, [1, 1, 1])].map (toItem (Tryz.f211.body.getD .skip))) [(0, .string b), (1, .int .i64 at0), (5, .int .i64 v), (6, .int .i64 i)] w := by
  exact block_spec Tryz.func211 Tryz.mixed (stops_cons (fun σ w h => by
      obtain ⟨b_, e0, h⟩ := dS_elim h
      obtain ⟨at0_, e1, h⟩ := dI_elim h
      obtain ⟨v_, e2, h⟩ := dI_elim h
      obtain ⟨i_, e3, h⟩ := dI_elim h
      exact (hN1 b_ at0_ v_ i_ w h).weaken (Sub.cons (Sub.cons (Sub.cons (Sub.cons (Sub.nil _) e3) e2) e1) e0)) stops_nil) (Eq.mp (store_get8.L1b_eq b at0 v i w  N1 R ) h)
def store_get8.L1 (b : ByteArray) (at0 v i : Int) (w : World)  (R : Int → World → Prop) : Prop :=
  ∃ (I : Nat → ByteArray → Int → Int → Int → World → Prop) (m : Nat), I m b at0 v i w ∧ ∀ m b at0 v i w, I m b at0 v i w → store_get8.L1b b at0 v i w  (fun b' at0' v' i' w' => ∃ m', m' < m ∧ I m' b' at0' v' i' w') R
theorem store_get8.L1_sound {R : Int → World → Prop}  (b : ByteArray) (at0 v i : Int) (w : World) (h : store_get8.L1 b at0 v i w  R) :
    KW Tryz.prog 211 21 (store_get8.RV R) ([(0, [1, 1, 0, 1, 0, 0]), (2, [1, 1, 0, 1, 0, 0]), (1, [0]), (0, [1, 1, 1])].map (toItem (Tryz.f211.body.getD .skip))) [(0, .string b), (1, .int .i64 at0), (5, .int .i64 v), (6, .int .i64 i)] w := by
  obtain ⟨I, m, hBase, hr⟩ := h
  refine KW.loop (fun m σ w => ∃ (b : ByteArray) (at0 v i : Int), σ = [(0, .string b), (1, .int .i64 at0), (5, .int .i64 v), (6, .int .i64 i)] ∧ I m b at0 v i w) ?_ m _ w ⟨b, at0, v, i, rfl, hBase⟩
  rintro m ih σ w ⟨b, at0, v, i, rfl, hI⟩
  exact store_get8.L1b_sound  (N1 := fun b' at0' v' i' w' => ∃ m', m' < m ∧ I m' b' at0' v' i' w') (fun b' at0' v' i' w' hx => by obtain ⟨m', hlt, hI'⟩ := hx; exact ih m' hlt _ w' ⟨b', at0', v', i', rfl, hI'⟩) b at0 v i w (hr m b at0 v i w hI)
def store_get8.B0 (b : ByteArray) (at0 : Int) (w : World)   (R : Int → World → Prop) : Prop :=
  store_get8.L1 b at0 (0 : Int) (0 : Int) w  R
theorem store_get8.B0_eq (b : ByteArray) (at0 : Int) (w : World)   (R : Int → World → Prop) (sL1 : ByteArray → Int → Int → Int → World → Prop) :
    (
  sL1 b at0 (0 : Int) (0 : Int) w) = kstep Tryz.prog 21 Tryz.f211.results.toList (Tryz.f211.body.getD .skip) (store_get8.RV R) (kvc Tryz.prog 21 Tryz.f211.results.toList (Tryz.f211.body.getD .skip) (store_get8.RV R) [([(0, [1, 1, 0, 1, 0, 0]), (2, [1, 1, 0, 1, 0, 0]), (1, [0]), (0, [1, 1, 1])], fun σ w => dS (slotOf σ 0) fun b_ => dI .i64 (slotOf σ 1) fun at0_ => dI .i64 (slotOf σ 5) fun v_ => dI .i64 (slotOf σ 6) fun i_ => sL1 b_ at0_ v_ i_ w)] 2000) [(0, [])] [(0, .string b), (1, .int .i64 at0)] w := by kernel_rfl
theorem store_get8.B0_sound {R : Int → World → Prop}  (b : ByteArray) (at0 : Int) (w : World) (h : store_get8.B0 b at0 w   R) :
    KW Tryz.prog 211 21 (store_get8.RV R) ([(0, [])].map (toItem (Tryz.f211.body.getD .skip))) [(0, .string b), (1, .int .i64 at0)] w := by
  exact block_spec Tryz.func211 Tryz.mixed (stops_cons (fun σ w h => by
      obtain ⟨b_, e0, h⟩ := dS_elim h
      obtain ⟨at0_, e1, h⟩ := dI_elim h
      obtain ⟨v_, e2, h⟩ := dI_elim h
      obtain ⟨i_, e3, h⟩ := dI_elim h
      exact (store_get8.L1_sound  b_ at0_ v_ i_ w h).weaken (Sub.cons (Sub.cons (Sub.cons (Sub.cons (Sub.nil _) e3) e2) e1) e0)) stops_nil) (Eq.mp (store_get8.B0_eq b at0 w   R (fun b_ at0_ v_ i_ w => store_get8.L1 b_ at0_ v_ i_ w  R)) h)
theorem store_get8.sound (b : ByteArray) (at0 : Int) (w : World) (R : Int → World → Prop) (h : store_get8.B0 b at0 w R) : store_get8.Call b at0 w R := by
  have hc := calls_of_block (args := #[.string b, .int .i64 at0]) Tryz.func211 (body := (Tryz.f211.body.getD .skip)) (by kernel_rfl) (by kernel_rfl) (args_slot _) (store_get8.B0_sound b at0 w h)
  exact hc.mono fun e w' he => by
    obtain ⟨v, rfl, hv⟩ := he
    exact store_get8.RV_elim hv
def rlog_slotOf.B0 (i : Int) (w : World)   (R : Int → World → Prop) : Prop :=
  (6 : Int) ≠ 0 ∧
  R (i.tmod (6 : Int)) w
theorem rlog_slotOf.B0_eq (i : Int) (w : World)   (R : Int → World → Prop)  :
    (
  (6 : Int) ≠ 0 ∧
  R (i.tmod (6 : Int)) w) = kstep Tryz.prog 5 Tryz.f212.results.toList (Tryz.f212.body.getD .skip) (rlog_slotOf.RV R) (kvc Tryz.prog 5 Tryz.f212.results.toList (Tryz.f212.body.getD .skip) (rlog_slotOf.RV R) [] 2000) [(0, [])] [(0, .int .i64 i)] w := by kernel_rfl
theorem rlog_slotOf.B0_sound {R : Int → World → Prop}  (i : Int) (w : World) (h : rlog_slotOf.B0 i w   R) :
    KW Tryz.prog 212 5 (rlog_slotOf.RV R) ([(0, [])].map (toItem (Tryz.f212.body.getD .skip))) [(0, .int .i64 i)] w := by
  exact block_spec Tryz.func212 Tryz.mixed stops_nil (Eq.mp (rlog_slotOf.B0_eq i w   R ) h)
theorem rlog_slotOf.sound (i : Int) (w : World) (R : Int → World → Prop) (h : rlog_slotOf.B0 i w R) : rlog_slotOf.Call i w R := by
  have hc := calls_of_block (args := #[.int .i64 i]) Tryz.func212 (body := (Tryz.f212.body.getD .skip)) (by kernel_rfl) (by kernel_rfl) (args_slot _) (rlog_slotOf.B0_sound i w h)
  exact hc.mono fun e w' he => by
    obtain ⟨v, rfl, hv⟩ := he
    exact rlog_slotOf.RV_elim hv
def store_Store_Rec.B1 (t : Option Addr) (slot : Int) (t4 : Nat) (t11 : Bool) (w : World)   (R : Int → Int → ByteArray → Int → World → Prop) : Prop :=
  Bm t11 (
    Sts [.int .i64 (0 : Int), .int .i64 (0 : Int), .string (ByteArray.mk #[])] ⟨t4, 0, none⟩ 0 w fun w1 =>
    LdI .i64 ⟨t4, 0, none⟩ w1 fun r_0 =>
    LdI .i64 ⟨t4, 1, none⟩ w1 fun r_1 =>
    LdS ⟨t4, 2, none⟩ w1 fun r_2 =>
    R r_0 r_1 r_2 (1 : Int) w1) (
    Pn t fun a =>
    (0 ≤ slot ∧ slot < ((6 : Nat) : Int)) ∧
    LdB (Addr.add (a.add 28) (slot.toNat * 1)) w fun x18 =>
    Bm (!x18) (
      Sts [.int .i64 (0 : Int), .int .i64 (0 : Int), .string (ByteArray.mk #[])] ⟨t4, 0, none⟩ 0 w fun w2 =>
      LdI .i64 ⟨t4, 0, none⟩ w2 fun r_0_1 =>
      LdI .i64 ⟨t4, 1, none⟩ w2 fun r_1_1 =>
      LdS ⟨t4, 2, none⟩ w2 fun r_2_1 =>
      R r_0_1 r_1_1 r_2_1 (2 : Int) w2) (
      Pn t fun a_1 =>
      (0 ≤ slot ∧ slot < ((6 : Nat) : Int)) ∧
      LdI .i64 (Addr.add (a_1.add 34) (slot.toNat * 3)) w fun x26_0 =>
      LdI .i64 ((Addr.add (a_1.add 34) (slot.toNat * 3)).add 1) w fun x26_1 =>
      LdS ((Addr.add (a_1.add 34) (slot.toNat * 3)).add 2) w fun x26_2 =>
      Sts [.int .i64 x26_0, .int .i64 x26_1, .string x26_2] ⟨t4, 0, none⟩ 0 w fun w3 =>
      LdI .i64 ⟨t4, 0, none⟩ w3 fun r_0_2 =>
      LdI .i64 ⟨t4, 1, none⟩ w3 fun r_1_2 =>
      LdS ⟨t4, 2, none⟩ w3 fun r_2_2 =>
      R r_0_2 r_1_2 r_2_2 (0 : Int) w3))
theorem store_Store_Rec.B1_eq (t : Option Addr) (slot : Int) (t4 : Nat) (t11 : Bool) (w : World)   (R : Int → Int → ByteArray → Int → World → Prop)  :
    (
  Bm t11 (
    Sts [.int .i64 (0 : Int), .int .i64 (0 : Int), .string (ByteArray.mk #[])] ⟨t4, 0, none⟩ 0 w fun w1 =>
    LdI .i64 ⟨t4, 0, none⟩ w1 fun r_0 =>
    LdI .i64 ⟨t4, 1, none⟩ w1 fun r_1 =>
    LdS ⟨t4, 2, none⟩ w1 fun r_2 =>
    R r_0 r_1 r_2 (1 : Int) w1) (
    Pn t fun a =>
    (0 ≤ slot ∧ slot < ((6 : Nat) : Int)) ∧
    LdB (Addr.add (a.add 28) (slot.toNat * 1)) w fun x18 =>
    Bm (!x18) (
      Sts [.int .i64 (0 : Int), .int .i64 (0 : Int), .string (ByteArray.mk #[])] ⟨t4, 0, none⟩ 0 w fun w2 =>
      LdI .i64 ⟨t4, 0, none⟩ w2 fun r_0_1 =>
      LdI .i64 ⟨t4, 1, none⟩ w2 fun r_1_1 =>
      LdS ⟨t4, 2, none⟩ w2 fun r_2_1 =>
      R r_0_1 r_1_1 r_2_1 (2 : Int) w2) (
      Pn t fun a_1 =>
      (0 ≤ slot ∧ slot < ((6 : Nat) : Int)) ∧
      LdI .i64 (Addr.add (a_1.add 34) (slot.toNat * 3)) w fun x26_0 =>
      LdI .i64 ((Addr.add (a_1.add 34) (slot.toNat * 3)).add 1) w fun x26_1 =>
      LdS ((Addr.add (a_1.add 34) (slot.toNat * 3)).add 2) w fun x26_2 =>
      Sts [.int .i64 x26_0, .int .i64 x26_1, .string x26_2] ⟨t4, 0, none⟩ 0 w fun w3 =>
      LdI .i64 ⟨t4, 0, none⟩ w3 fun r_0_2 =>
      LdI .i64 ⟨t4, 1, none⟩ w3 fun r_1_2 =>
      LdS ⟨t4, 2, none⟩ w3 fun r_2_2 =>
      R r_0_2 r_1_2 r_2_2 (0 : Int) w3))) = kstep Tryz.prog 27 Tryz.f213.results.toList (Tryz.f213.body.getD .skip) (store_Store_Rec.RV R) (kvc Tryz.prog 27 Tryz.f213.results.toList (Tryz.f213.body.getD .skip) (store_Store_Rec.RV R) [] 2000) [(0, [1, 0, 1]), (0, [1, 1])] [(0, .pointer t), (1, .int .i64 slot), (4, .pointer (some ⟨t4, 0, none⟩)), (11, .bool t11)] w := by kernel_rfl
theorem store_Store_Rec.B1_sound {R : Int → Int → ByteArray → Int → World → Prop}  (t : Option Addr) (slot : Int) (t4 : Nat) (t11 : Bool) (w : World) (h : store_Store_Rec.B1 t slot t4 t11 w   R) :
    KW Tryz.prog 213 27 (store_Store_Rec.RV R) ([(0, [1, 0, 1]), (0, [1, 1])].map (toItem (Tryz.f213.body.getD .skip))) [(0, .pointer t), (1, .int .i64 slot), (4, .pointer (some ⟨t4, 0, none⟩)), (11, .bool t11)] w := by
  exact block_spec Tryz.func213 Tryz.mixed stops_nil (Eq.mp (store_Store_Rec.B1_eq t slot t4 t11 w   R ) h)
def store_Store_Rec.B0 (t : Option Addr) (slot : Int) (w : World)   (R : Int → Int → ByteArray → Int → World → Prop) : Prop :=
  New (.cells #[.int .i64 (0 : Int), .int .i64 (0 : Int), .string (ByteArray.mk #[])] 185) w fun b4 w1 =>
  Bm (decide (slot < (0 : Int))) (
    store_Store_Rec.B1 t slot b4 true w1  R) (
    store_Store_Rec.B1 t slot b4 (decide (slot ≥ (6 : Int))) w1  R)
theorem store_Store_Rec.B0_eq (t : Option Addr) (slot : Int) (w : World)   (R : Int → Int → ByteArray → Int → World → Prop) (sB1 : Option Addr → Int → Nat → Bool → World → Prop) :
    (
  New (.cells #[.int .i64 (0 : Int), .int .i64 (0 : Int), .string (ByteArray.mk #[])] 185) w fun b4 w1 =>
  Bm (decide (slot < (0 : Int))) (
    sB1 t slot b4 true w1) (
    sB1 t slot b4 (decide (slot ≥ (6 : Int))) w1)) = kstep Tryz.prog 27 Tryz.f213.results.toList (Tryz.f213.body.getD .skip) (store_Store_Rec.RV R) (kvc Tryz.prog 27 Tryz.f213.results.toList (Tryz.f213.body.getD .skip) (store_Store_Rec.RV R) [([(0, [1, 0, 1]), (0, [1, 1])], fun σ w => dP (slotOf σ 0) fun t_ => dI .i64 (slotOf σ 1) fun slot_ => dK (slotOf σ 4) fun t4_ => dB (slotOf σ 11) fun t11_ => sB1 t_ slot_ t4_ t11_ w)] 2000) [(0, [])] [(0, .pointer t), (1, .int .i64 slot)] w := by kernel_rfl
theorem store_Store_Rec.B0_sound {R : Int → Int → ByteArray → Int → World → Prop}  (t : Option Addr) (slot : Int) (w : World) (h : store_Store_Rec.B0 t slot w   R) :
    KW Tryz.prog 213 27 (store_Store_Rec.RV R) ([(0, [])].map (toItem (Tryz.f213.body.getD .skip))) [(0, .pointer t), (1, .int .i64 slot)] w := by
  exact block_spec Tryz.func213 Tryz.mixed (stops_cons (fun σ w h => by
      obtain ⟨t_, e0, h⟩ := dP_elim h
      obtain ⟨slot_, e1, h⟩ := dI_elim h
      obtain ⟨t4_, e2, h⟩ := dK_elim h
      obtain ⟨t11_, e3, h⟩ := dB_elim h
      exact (store_Store_Rec.B1_sound  t_ slot_ t4_ t11_ w h).weaken (Sub.cons (Sub.cons (Sub.cons (Sub.cons (Sub.nil _) e3) e2) e1) e0)) stops_nil) (Eq.mp (store_Store_Rec.B0_eq t slot w   R (fun t_ slot_ t4_ t11_ w => store_Store_Rec.B1 t_ slot_ t4_ t11_ w  R)) h)
theorem store_Store_Rec.sound (t : Option Addr) (slot : Int) (w : World) (R : Int → Int → ByteArray → Int → World → Prop) (h : store_Store_Rec.B0 t slot w R) : store_Store_Rec.Call t slot w R := by
  have hc := calls_of_block (args := #[.pointer t, .int .i64 slot]) Tryz.func213 (body := (Tryz.f213.body.getD .skip)) (by kernel_rfl) (by kernel_rfl) (args_slot _) (store_Store_Rec.B0_sound t slot w h)
  exact hc.mono fun e w' he => by
    obtain ⟨v, rfl, hv⟩ := he
    exact store_Store_Rec.RV_elim hv
def rlog_Log_indexIn.L1b (l : Option Addr) (s i : Int) (w : World)  (N1 : Option Addr → Int → Int → World → Prop) (R : Int → World → Prop) : Prop :=
  Pn l fun a =>
  LdI .i64 (a.add 6) w fun x15 =>
  Bm (decide (i ≤ x15)) (
    rlog_slotOf.Call i w fun r20 w1 =>
    Bm (r20 == s) (
      R i w1) (
      N1 l s (IntKind.i64.wrap (i + (1 : Int))) w1)) (
    R (0 : Int) w)
theorem rlog_Log_indexIn.L1b_eq (l : Option Addr) (s i : Int) (w : World)  (N1 : Option Addr → Int → Int → World → Prop) (R : Int → World → Prop)  :
    (
  Pn l fun a =>
  LdI .i64 (a.add 6) w fun x15 =>
  Bm (decide (i ≤ x15)) (
    rlog_slotOf.Call i w fun r20 w1 =>
    Bm (r20 == s) (
      R i w1) (
      N1 l s (IntKind.i64.wrap (i + (1 : Int))) w1)) (
    R (0 : Int) w)) = kstep Tryz.prog 24 Tryz.f214.results.toList (Tryz.f214.body.getD .skip) (rlog_Log_indexIn.RV R) (kvc Tryz.prog 24 Tryz.f214.results.toList (Tryz.f214.body.getD .skip) (rlog_Log_indexIn.RV R) [([(0, [1, 0, 1, 0, 0]), (2, [1, 0, 1, 0, 0]), (1, [0]), (0, [1, 1])], fun σ w => dP (slotOf σ 0) fun l_ => dI .i64 (slotOf σ 1) fun s_ => dI .i64 (slotOf σ 5) fun i_ => N1 l_ s_ i_ w)] 2000) [(0, [1, 0, 1, 0, 0]), (2, [1, 0, 1, 0, 0]), (1, [0]), (0, [1, 1])] [(0, .pointer l), (1, .int .i64 s), (5, .int .i64 i)] w := by kernel_rfl
theorem rlog_Log_indexIn.L1b_sound {R : Int → World → Prop} {N1 : Option Addr → Int → Int → World → Prop} (hN1 : ∀ l s i w, N1 l s i w → KW Tryz.prog 214 24 (rlog_Log_indexIn.RV R) ([(0, [1, 0, 1, 0, 0]), (2, [1, 0, 1, 0, 0]), (1, [0]), (0, [1, 1])].map (toItem (Tryz.f214.body.getD .skip))) [(0, .pointer l), (1, .int .i64 s), (5, .int .i64 i)] w) (l : Option Addr) (s i : Int) (w : World) (h : rlog_Log_indexIn.L1b l s i w  N1 R) :
    KW Tryz.prog 214 24 (rlog_Log_indexIn.RV R) ([(0, [1, 0, 1, 0, 0]), (2, [1, 0, 1, 0, 0]), (1, [0]), (0, [1, 1])].map (toItem (Tryz.f214.body.getD .skip))) [(0, .pointer l), (1, .int .i64 s), (5, .int .i64 i)] w := by
  exact block_spec Tryz.func214 Tryz.mixed (stops_cons (fun σ w h => by
      obtain ⟨l_, e0, h⟩ := dP_elim h
      obtain ⟨s_, e1, h⟩ := dI_elim h
      obtain ⟨i_, e2, h⟩ := dI_elim h
      exact (hN1 l_ s_ i_ w h).weaken (Sub.cons (Sub.cons (Sub.cons (Sub.nil _) e2) e1) e0)) stops_nil) (Eq.mp (rlog_Log_indexIn.L1b_eq l s i w  N1 R ) h)
def rlog_Log_indexIn.L1 (l : Option Addr) (s i : Int) (w : World)  (R : Int → World → Prop) : Prop :=
  ∃ (I : Nat → Option Addr → Int → Int → World → Prop) (m : Nat), I m l s i w ∧ ∀ m l s i w, I m l s i w → rlog_Log_indexIn.L1b l s i w  (fun l' s' i' w' => ∃ m', m' < m ∧ I m' l' s' i' w') R
theorem rlog_Log_indexIn.L1_sound {R : Int → World → Prop}  (l : Option Addr) (s i : Int) (w : World) (h : rlog_Log_indexIn.L1 l s i w  R) :
    KW Tryz.prog 214 24 (rlog_Log_indexIn.RV R) ([(0, [1, 0, 1, 0, 0]), (2, [1, 0, 1, 0, 0]), (1, [0]), (0, [1, 1])].map (toItem (Tryz.f214.body.getD .skip))) [(0, .pointer l), (1, .int .i64 s), (5, .int .i64 i)] w := by
  obtain ⟨I, m, hBase, hr⟩ := h
  refine KW.loop (fun m σ w => ∃ (l : Option Addr) (s i : Int), σ = [(0, .pointer l), (1, .int .i64 s), (5, .int .i64 i)] ∧ I m l s i w) ?_ m _ w ⟨l, s, i, rfl, hBase⟩
  rintro m ih σ w ⟨l, s, i, rfl, hI⟩
  exact rlog_Log_indexIn.L1b_sound  (N1 := fun l' s' i' w' => ∃ m', m' < m ∧ I m' l' s' i' w') (fun l' s' i' w' hx => by obtain ⟨m', hlt, hI'⟩ := hx; exact ih m' hlt _ w' ⟨l', s', i', rfl, hI'⟩) l s i w (hr m l s i w hI)
def rlog_Log_indexIn.B0 (l : Option Addr) (s : Int) (w : World)   (R : Int → World → Prop) : Prop :=
  Pn l fun a =>
  LdI .i64 (a.add 3) w fun x9 =>
  rlog_Log_indexIn.L1 l s (IntKind.i64.wrap (x9 + (1 : Int))) w  R
theorem rlog_Log_indexIn.B0_eq (l : Option Addr) (s : Int) (w : World)   (R : Int → World → Prop) (sL1 : Option Addr → Int → Int → World → Prop) :
    (
  Pn l fun a =>
  LdI .i64 (a.add 3) w fun x9 =>
  sL1 l s (IntKind.i64.wrap (x9 + (1 : Int))) w) = kstep Tryz.prog 24 Tryz.f214.results.toList (Tryz.f214.body.getD .skip) (rlog_Log_indexIn.RV R) (kvc Tryz.prog 24 Tryz.f214.results.toList (Tryz.f214.body.getD .skip) (rlog_Log_indexIn.RV R) [([(0, [1, 0, 1, 0, 0]), (2, [1, 0, 1, 0, 0]), (1, [0]), (0, [1, 1])], fun σ w => dP (slotOf σ 0) fun l_ => dI .i64 (slotOf σ 1) fun s_ => dI .i64 (slotOf σ 5) fun i_ => sL1 l_ s_ i_ w)] 2000) [(0, [])] [(0, .pointer l), (1, .int .i64 s)] w := by kernel_rfl
theorem rlog_Log_indexIn.B0_sound {R : Int → World → Prop}  (l : Option Addr) (s : Int) (w : World) (h : rlog_Log_indexIn.B0 l s w   R) :
    KW Tryz.prog 214 24 (rlog_Log_indexIn.RV R) ([(0, [])].map (toItem (Tryz.f214.body.getD .skip))) [(0, .pointer l), (1, .int .i64 s)] w := by
  exact block_spec Tryz.func214 Tryz.mixed (stops_cons (fun σ w h => by
      obtain ⟨l_, e0, h⟩ := dP_elim h
      obtain ⟨s_, e1, h⟩ := dI_elim h
      obtain ⟨i_, e2, h⟩ := dI_elim h
      exact (rlog_Log_indexIn.L1_sound  l_ s_ i_ w h).weaken (Sub.cons (Sub.cons (Sub.cons (Sub.nil _) e2) e1) e0)) stops_nil) (Eq.mp (rlog_Log_indexIn.B0_eq l s w   R (fun l_ s_ i_ w => rlog_Log_indexIn.L1 l_ s_ i_ w  R)) h)
theorem rlog_Log_indexIn.sound (l : Option Addr) (s : Int) (w : World) (R : Int → World → Prop) (h : rlog_Log_indexIn.B0 l s w R) : rlog_Log_indexIn.Call l s w R := by
  have hc := calls_of_block (args := #[.pointer l, .int .i64 s]) Tryz.func214 (body := (Tryz.f214.body.getD .skip)) (by kernel_rfl) (by kernel_rfl) (args_slot _) (rlog_Log_indexIn.B0_sound l s w h)
  exact hc.mono fun e w' he => by
    obtain ⟨v, rfl, hv⟩ := he
    exact rlog_Log_indexIn.RV_elim hv
def store_Store_DelRec.B1 (t : Option Addr) (slot : Int) (t11 : Bool) (w : World)   (R : Int → World → Prop) : Prop :=
  Bm t11 (
    R (1 : Int) w) (
    Pn t fun a =>
    (0 ≤ slot ∧ slot < ((6 : Nat) : Int)) ∧
    LdB (Addr.add (a.add 28) (slot.toNat * 1)) w fun x17 =>
    Bm (!x17) (
      R (2 : Int) w) (
      Pn t fun a_1 =>
      (0 ≤ slot ∧ slot < ((6 : Nat) : Int)) ∧
      Pn t fun a_2 =>
      Sts [.bool false] (Addr.add (a_1.add 28) (slot.toNat * 1)) 0 w.drew fun w1 =>
      (0 ≤ slot ∧ slot < ((6 : Nat) : Int)) ∧
      Sts [.int .i64 (0 : Int), .int .i64 (0 : Int), .string (ByteArray.mk #[])] (Addr.add (a_2.add 34) (slot.toNat * 3)) 0 w1 fun w2 =>
      Make 5 (.int .u8 (0 : Int)) 1 1 (64 : Int) (64 : Int) w2 fun b30 w3 =>
      store_Store_write.Call t (IntKind.i64.wrap ((8 : Int) + slot)) (some ⟨b30, 0, none⟩) 64 64 w3 fun w4 =>
      R (0 : Int) w4))
theorem store_Store_DelRec.B1_eq (t : Option Addr) (slot : Int) (t11 : Bool) (w : World)   (R : Int → World → Prop)  :
    (
  Bm t11 (
    R (1 : Int) w) (
    Pn t fun a =>
    (0 ≤ slot ∧ slot < ((6 : Nat) : Int)) ∧
    LdB (Addr.add (a.add 28) (slot.toNat * 1)) w fun x17 =>
    Bm (!x17) (
      R (2 : Int) w) (
      Pn t fun a_1 =>
      (0 ≤ slot ∧ slot < ((6 : Nat) : Int)) ∧
      Pn t fun a_2 =>
      Sts [.bool false] (Addr.add (a_1.add 28) (slot.toNat * 1)) 0 w.drew fun w1 =>
      (0 ≤ slot ∧ slot < ((6 : Nat) : Int)) ∧
      Sts [.int .i64 (0 : Int), .int .i64 (0 : Int), .string (ByteArray.mk #[])] (Addr.add (a_2.add 34) (slot.toNat * 3)) 0 w1 fun w2 =>
      Make 5 (.int .u8 (0 : Int)) 1 1 (64 : Int) (64 : Int) w2 fun b30 w3 =>
      store_Store_write.Call t (IntKind.i64.wrap ((8 : Int) + slot)) (some ⟨b30, 0, none⟩) 64 64 w3 fun w4 =>
      R (0 : Int) w4))) = kstep Tryz.prog 36 Tryz.f215.results.toList (Tryz.f215.body.getD .skip) (store_Store_DelRec.RV R) (kvc Tryz.prog 36 Tryz.f215.results.toList (Tryz.f215.body.getD .skip) (store_Store_DelRec.RV R) [] 2000) [(0, [1, 0, 1]), (0, [1, 1])] [(0, .pointer t), (1, .int .i64 slot), (11, .bool t11)] w := by kernel_rfl
theorem store_Store_DelRec.B1_sound {R : Int → World → Prop}  (t : Option Addr) (slot : Int) (t11 : Bool) (w : World) (h : store_Store_DelRec.B1 t slot t11 w   R) :
    KW Tryz.prog 215 36 (store_Store_DelRec.RV R) ([(0, [1, 0, 1]), (0, [1, 1])].map (toItem (Tryz.f215.body.getD .skip))) [(0, .pointer t), (1, .int .i64 slot), (11, .bool t11)] w := by
  exact block_spec Tryz.func215 Tryz.mixed stops_nil (Eq.mp (store_Store_DelRec.B1_eq t slot t11 w   R ) h)
def store_Store_DelRec.B0 (t : Option Addr) (slot : Int) (w : World)   (R : Int → World → Prop) : Prop :=
  Bm (decide (slot < (0 : Int))) (
    store_Store_DelRec.B1 t slot true w  R) (
    store_Store_DelRec.B1 t slot (decide (slot ≥ (6 : Int))) w  R)
theorem store_Store_DelRec.B0_eq (t : Option Addr) (slot : Int) (w : World)   (R : Int → World → Prop) (sB1 : Option Addr → Int → Bool → World → Prop) :
    (
  Bm (decide (slot < (0 : Int))) (
    sB1 t slot true w) (
    sB1 t slot (decide (slot ≥ (6 : Int))) w)) = kstep Tryz.prog 36 Tryz.f215.results.toList (Tryz.f215.body.getD .skip) (store_Store_DelRec.RV R) (kvc Tryz.prog 36 Tryz.f215.results.toList (Tryz.f215.body.getD .skip) (store_Store_DelRec.RV R) [([(0, [1, 0, 1]), (0, [1, 1])], fun σ w => dP (slotOf σ 0) fun t_ => dI .i64 (slotOf σ 1) fun slot_ => dB (slotOf σ 11) fun t11_ => sB1 t_ slot_ t11_ w)] 2000) [(0, [])] [(0, .pointer t), (1, .int .i64 slot)] w := by kernel_rfl
theorem store_Store_DelRec.B0_sound {R : Int → World → Prop}  (t : Option Addr) (slot : Int) (w : World) (h : store_Store_DelRec.B0 t slot w   R) :
    KW Tryz.prog 215 36 (store_Store_DelRec.RV R) ([(0, [])].map (toItem (Tryz.f215.body.getD .skip))) [(0, .pointer t), (1, .int .i64 slot)] w := by
  exact block_spec Tryz.func215 Tryz.mixed (stops_cons (fun σ w h => by
      obtain ⟨t_, e0, h⟩ := dP_elim h
      obtain ⟨slot_, e1, h⟩ := dI_elim h
      obtain ⟨t11_, e2, h⟩ := dB_elim h
      exact (store_Store_DelRec.B1_sound  t_ slot_ t11_ w h).weaken (Sub.cons (Sub.cons (Sub.cons (Sub.nil _) e2) e1) e0)) stops_nil) (Eq.mp (store_Store_DelRec.B0_eq t slot w   R (fun t_ slot_ t11_ w => store_Store_DelRec.B1 t_ slot_ t11_ w  R)) h)
theorem store_Store_DelRec.sound (t : Option Addr) (slot : Int) (w : World) (R : Int → World → Prop) (h : store_Store_DelRec.B0 t slot w R) : store_Store_DelRec.Call t slot w R := by
  have hc := calls_of_block (args := #[.pointer t, .int .i64 slot]) Tryz.func215 (body := (Tryz.f215.body.getD .skip)) (by kernel_rfl) (by kernel_rfl) (args_slot _) (store_Store_DelRec.B0_sound t slot w h)
  exact hc.mono fun e w' he => by
    obtain ⟨v, rfl, hv⟩ := he
    exact store_Store_DelRec.RV_elim hv
def rlog_Log_Last.B0 (l : Option Addr) (w : World)   (R : Int → World → Prop) : Prop :=
  Pn l fun a =>
  LdI .i64 (a.add 6) w fun x6 =>
  R x6 w
theorem rlog_Log_Last.B0_eq (l : Option Addr) (w : World)   (R : Int → World → Prop)  :
    (
  Pn l fun a =>
  LdI .i64 (a.add 6) w fun x6 =>
  R x6 w) = kstep Tryz.prog 7 Tryz.f216.results.toList (Tryz.f216.body.getD .skip) (rlog_Log_Last.RV R) (kvc Tryz.prog 7 Tryz.f216.results.toList (Tryz.f216.body.getD .skip) (rlog_Log_Last.RV R) [] 2000) [(0, [])] [(0, .pointer l)] w := by kernel_rfl
theorem rlog_Log_Last.B0_sound {R : Int → World → Prop}  (l : Option Addr) (w : World) (h : rlog_Log_Last.B0 l w   R) :
    KW Tryz.prog 216 7 (rlog_Log_Last.RV R) ([(0, [])].map (toItem (Tryz.f216.body.getD .skip))) [(0, .pointer l)] w := by
  exact block_spec Tryz.func216 Tryz.mixed stops_nil (Eq.mp (rlog_Log_Last.B0_eq l w   R ) h)
theorem rlog_Log_Last.sound (l : Option Addr) (w : World) (R : Int → World → Prop) (h : rlog_Log_Last.B0 l w R) : rlog_Log_Last.Call l w R := by
  have hc := calls_of_block (args := #[.pointer l]) Tryz.func216 (body := (Tryz.f216.body.getD .skip)) (by kernel_rfl) (by kernel_rfl) (args_slot _) (rlog_Log_Last.B0_sound l w h)
  exact hc.mono fun e w' he => by
    obtain ⟨v, rfl, hv⟩ := he
    exact rlog_Log_Last.RV_elim hv
def rlog_Log_TermAt.B0 (l : Option Addr) (i : Int) (w : World)   (R : Int → Int → World → Prop) : Prop :=
  Pn l fun a =>
  LdI .i64 (a.add 3) w fun x12 =>
  Bm (i == x12) (
    Pn l fun a_1 =>
    LdI .i64 (a_1.add 4) w fun x17 =>
    R x17 (0 : Int) w) (
    rlog_Log_At.Call l i w fun r21_0_0 r21_0_1 r21_1 w1 =>
    New (.cells #[.int .i64 (0 : Int), .string (ByteArray.mk #[])] 155) w1 fun e_ w2 =>
    Sts [.int .i64 r21_0_0, .string r21_0_1] ⟨e_, 0, none⟩ 0 w2 fun w3 =>
    LdI .i64 ⟨e_, 0, none⟩ w3 fun x25 =>
    R x25 r21_1 w3)
theorem rlog_Log_TermAt.B0_eq (l : Option Addr) (i : Int) (w : World)   (R : Int → Int → World → Prop)  :
    (
  Pn l fun a =>
  LdI .i64 (a.add 3) w fun x12 =>
  Bm (i == x12) (
    Pn l fun a_1 =>
    LdI .i64 (a_1.add 4) w fun x17 =>
    R x17 (0 : Int) w) (
    rlog_Log_At.Call l i w fun r21_0_0 r21_0_1 r21_1 w1 =>
    New (.cells #[.int .i64 (0 : Int), .string (ByteArray.mk #[])] 155) w1 fun e_ w2 =>
    Sts [.int .i64 r21_0_0, .string r21_0_1] ⟨e_, 0, none⟩ 0 w2 fun w3 =>
    LdI .i64 ⟨e_, 0, none⟩ w3 fun x25 =>
    R x25 r21_1 w3)) = kstep Tryz.prog 27 Tryz.f217.results.toList (Tryz.f217.body.getD .skip) (rlog_Log_TermAt.RV R) (kvc Tryz.prog 27 Tryz.f217.results.toList (Tryz.f217.body.getD .skip) (rlog_Log_TermAt.RV R) [] 2000) [(0, [])] [(0, .pointer l), (1, .int .i64 i)] w := by kernel_rfl
theorem rlog_Log_TermAt.B0_sound {R : Int → Int → World → Prop}  (l : Option Addr) (i : Int) (w : World) (h : rlog_Log_TermAt.B0 l i w   R) :
    KW Tryz.prog 217 27 (rlog_Log_TermAt.RV R) ([(0, [])].map (toItem (Tryz.f217.body.getD .skip))) [(0, .pointer l), (1, .int .i64 i)] w := by
  exact block_spec Tryz.func217 Tryz.mixed stops_nil (Eq.mp (rlog_Log_TermAt.B0_eq l i w   R ) h)
theorem rlog_Log_TermAt.sound (l : Option Addr) (i : Int) (w : World) (R : Int → Int → World → Prop) (h : rlog_Log_TermAt.B0 l i w R) : rlog_Log_TermAt.Call l i w R := by
  have hc := calls_of_block (args := #[.pointer l, .int .i64 i]) Tryz.func217 (body := (Tryz.f217.body.getD .skip)) (by kernel_rfl) (by kernel_rfl) (args_slot _) (rlog_Log_TermAt.B0_sound l i w h)
  exact hc.mono fun e w' he => by
    obtain ⟨v, rfl, hv⟩ := he
    exact rlog_Log_TermAt.RV_elim hv
def kvm_take.B2 (s : ByteArray) (p n : Int) (t39 : Bool) (w : World)   (R : ByteArray → Int → World → Prop) : Prop :=
  Bm t39 (
    R (ByteArray.mk #[]) (-1 : Int) w) (
    (0 ≤ (IntKind.i64.wrap ((IntKind.i64.wrap (p + (1 : Int))) + n)) ∧ (IntKind.i64.wrap ((IntKind.i64.wrap (p + (1 : Int))) + n)) ≤ ((s.size : Nat) : Int)) ∧
    (0 ≤ (IntKind.i64.wrap (p + (1 : Int))) ∧ (IntKind.i64.wrap (p + (1 : Int))) ≤ (IntKind.i64.wrap ((IntKind.i64.wrap (p + (1 : Int))) + n))) ∧
    R (s.extract (IntKind.i64.wrap (p + (1 : Int))).toNat (IntKind.i64.wrap ((IntKind.i64.wrap (p + (1 : Int))) + n)).toNat) (IntKind.i64.wrap ((IntKind.i64.wrap (p + (1 : Int))) + n)) w)
theorem kvm_take.B2_eq (s : ByteArray) (p n : Int) (t39 : Bool) (w : World)   (R : ByteArray → Int → World → Prop)  :
    (
  Bm t39 (
    R (ByteArray.mk #[]) (-1 : Int) w) (
    (0 ≤ (IntKind.i64.wrap ((IntKind.i64.wrap (p + (1 : Int))) + n)) ∧ (IntKind.i64.wrap ((IntKind.i64.wrap (p + (1 : Int))) + n)) ≤ ((s.size : Nat) : Int)) ∧
    (0 ≤ (IntKind.i64.wrap (p + (1 : Int))) ∧ (IntKind.i64.wrap (p + (1 : Int))) ≤ (IntKind.i64.wrap ((IntKind.i64.wrap (p + (1 : Int))) + n))) ∧
    R (s.extract (IntKind.i64.wrap (p + (1 : Int))).toNat (IntKind.i64.wrap ((IntKind.i64.wrap (p + (1 : Int))) + n)).toNat) (IntKind.i64.wrap ((IntKind.i64.wrap (p + (1 : Int))) + n)) w)) = kstep Tryz.prog 52 Tryz.f218.results.toList (Tryz.f218.body.getD .skip) (kvm_take.RV R) (kvc Tryz.prog 52 Tryz.f218.results.toList (Tryz.f218.body.getD .skip) (kvm_take.RV R) [] 2000) [(0, [1, 1, 1, 0, 1]), (0, [1, 1, 1, 1])] [(0, .string s), (1, .int .i64 p), (10, .int .i64 n), (39, .bool t39)] w := by kernel_rfl
theorem kvm_take.B2_sound {R : ByteArray → Int → World → Prop}  (s : ByteArray) (p n : Int) (t39 : Bool) (w : World) (h : kvm_take.B2 s p n t39 w   R) :
    KW Tryz.prog 218 52 (kvm_take.RV R) ([(0, [1, 1, 1, 0, 1]), (0, [1, 1, 1, 1])].map (toItem (Tryz.f218.body.getD .skip))) [(0, .string s), (1, .int .i64 p), (10, .int .i64 n), (39, .bool t39)] w := by
  exact block_spec Tryz.func218 Tryz.mixed stops_nil (Eq.mp (kvm_take.B2_eq s p n t39 w   R ) h)
def kvm_take.B1 (s : ByteArray) (p lo hi : Int) (t18 : Bool) (w : World)   (R : ByteArray → Int → World → Prop) : Prop :=
  Bm t18 (
    R (ByteArray.mk #[]) (-1 : Int) w) (
    (0 ≤ p ∧ p < ((s.size : Nat) : Int)) ∧
    Bm (decide ((IntKind.i64.wrap (byteAt s p)) < lo)) (
      kvm_take.B2 s p (IntKind.i64.wrap (byteAt s p)) true w  R) (
      Bm (decide ((IntKind.i64.wrap (byteAt s p)) > hi)) (
        kvm_take.B2 s p (IntKind.i64.wrap (byteAt s p)) true w  R) (
        kvm_take.B2 s p (IntKind.i64.wrap (byteAt s p)) (decide ((IntKind.i64.wrap ((IntKind.i64.wrap (p + (1 : Int))) + (IntKind.i64.wrap (byteAt s p)))) > ((s.size : Nat) : Int))) w  R)))
theorem kvm_take.B1_eq (s : ByteArray) (p lo hi : Int) (t18 : Bool) (w : World)   (R : ByteArray → Int → World → Prop) (sB2 : ByteArray → Int → Int → Bool → World → Prop) :
    (
  Bm t18 (
    R (ByteArray.mk #[]) (-1 : Int) w) (
    (0 ≤ p ∧ p < ((s.size : Nat) : Int)) ∧
    Bm (decide ((IntKind.i64.wrap (byteAt s p)) < lo)) (
      sB2 s p (IntKind.i64.wrap (byteAt s p)) true w) (
      Bm (decide ((IntKind.i64.wrap (byteAt s p)) > hi)) (
        sB2 s p (IntKind.i64.wrap (byteAt s p)) true w) (
        sB2 s p (IntKind.i64.wrap (byteAt s p)) (decide ((IntKind.i64.wrap ((IntKind.i64.wrap (p + (1 : Int))) + (IntKind.i64.wrap (byteAt s p)))) > ((s.size : Nat) : Int))) w)))) = kstep Tryz.prog 52 Tryz.f218.results.toList (Tryz.f218.body.getD .skip) (kvm_take.RV R) (kvc Tryz.prog 52 Tryz.f218.results.toList (Tryz.f218.body.getD .skip) (kvm_take.RV R) [([(0, [1, 1, 1, 0, 1]), (0, [1, 1, 1, 1])], fun σ w => dS (slotOf σ 0) fun s_ => dI .i64 (slotOf σ 1) fun p_ => dI .i64 (slotOf σ 10) fun n_ => dB (slotOf σ 39) fun t39_ => sB2 s_ p_ n_ t39_ w)] 2000) [(0, [1, 0, 1]), (0, [1, 1])] [(0, .string s), (1, .int .i64 p), (2, .int .i64 lo), (3, .int .i64 hi), (18, .bool t18)] w := by kernel_rfl
theorem kvm_take.B1_sound {R : ByteArray → Int → World → Prop}  (s : ByteArray) (p lo hi : Int) (t18 : Bool) (w : World) (h : kvm_take.B1 s p lo hi t18 w   R) :
    KW Tryz.prog 218 52 (kvm_take.RV R) ([(0, [1, 0, 1]), (0, [1, 1])].map (toItem (Tryz.f218.body.getD .skip))) [(0, .string s), (1, .int .i64 p), (2, .int .i64 lo), (3, .int .i64 hi), (18, .bool t18)] w := by
  exact block_spec Tryz.func218 Tryz.mixed (stops_cons (fun σ w h => by
      obtain ⟨s_, e0, h⟩ := dS_elim h
      obtain ⟨p_, e1, h⟩ := dI_elim h
      obtain ⟨n_, e2, h⟩ := dI_elim h
      obtain ⟨t39_, e3, h⟩ := dB_elim h
      exact (kvm_take.B2_sound  s_ p_ n_ t39_ w h).weaken (Sub.cons (Sub.cons (Sub.cons (Sub.cons (Sub.nil _) e3) e2) e1) e0)) stops_nil) (Eq.mp (kvm_take.B1_eq s p lo hi t18 w   R (fun s_ p_ n_ t39_ w => kvm_take.B2 s_ p_ n_ t39_ w  R)) h)
def kvm_take.B0 (s : ByteArray) (p lo hi : Int) (w : World)   (R : ByteArray → Int → World → Prop) : Prop :=
  Bm (decide (p < (0 : Int))) (
    kvm_take.B1 s p lo hi true w  R) (
    kvm_take.B1 s p lo hi (decide (p ≥ ((s.size : Nat) : Int))) w  R)
theorem kvm_take.B0_eq (s : ByteArray) (p lo hi : Int) (w : World)   (R : ByteArray → Int → World → Prop) (sB1 : ByteArray → Int → Int → Int → Bool → World → Prop) :
    (
  Bm (decide (p < (0 : Int))) (
    sB1 s p lo hi true w) (
    sB1 s p lo hi (decide (p ≥ ((s.size : Nat) : Int))) w)) = kstep Tryz.prog 52 Tryz.f218.results.toList (Tryz.f218.body.getD .skip) (kvm_take.RV R) (kvc Tryz.prog 52 Tryz.f218.results.toList (Tryz.f218.body.getD .skip) (kvm_take.RV R) [([(0, [1, 0, 1]), (0, [1, 1])], fun σ w => dS (slotOf σ 0) fun s_ => dI .i64 (slotOf σ 1) fun p_ => dI .i64 (slotOf σ 2) fun lo_ => dI .i64 (slotOf σ 3) fun hi_ => dB (slotOf σ 18) fun t18_ => sB1 s_ p_ lo_ hi_ t18_ w)] 2000) [(0, [])] [(0, .string s), (1, .int .i64 p), (2, .int .i64 lo), (3, .int .i64 hi)] w := by kernel_rfl
theorem kvm_take.B0_sound {R : ByteArray → Int → World → Prop}  (s : ByteArray) (p lo hi : Int) (w : World) (h : kvm_take.B0 s p lo hi w   R) :
    KW Tryz.prog 218 52 (kvm_take.RV R) ([(0, [])].map (toItem (Tryz.f218.body.getD .skip))) [(0, .string s), (1, .int .i64 p), (2, .int .i64 lo), (3, .int .i64 hi)] w := by
  exact block_spec Tryz.func218 Tryz.mixed (stops_cons (fun σ w h => by
      obtain ⟨s_, e0, h⟩ := dS_elim h
      obtain ⟨p_, e1, h⟩ := dI_elim h
      obtain ⟨lo_, e2, h⟩ := dI_elim h
      obtain ⟨hi_, e3, h⟩ := dI_elim h
      obtain ⟨t18_, e4, h⟩ := dB_elim h
      exact (kvm_take.B1_sound  s_ p_ lo_ hi_ t18_ w h).weaken (Sub.cons (Sub.cons (Sub.cons (Sub.cons (Sub.cons (Sub.nil _) e4) e3) e2) e1) e0)) stops_nil) (Eq.mp (kvm_take.B0_eq s p lo hi w   R (fun s_ p_ lo_ hi_ t18_ w => kvm_take.B1 s_ p_ lo_ hi_ t18_ w  R)) h)
theorem kvm_take.sound (s : ByteArray) (p lo hi : Int) (w : World) (R : ByteArray → Int → World → Prop) (h : kvm_take.B0 s p lo hi w R) : kvm_take.Call s p lo hi w R := by
  have hc := calls_of_block (args := #[.string s, .int .i64 p, .int .i64 lo, .int .i64 hi]) Tryz.func218 (body := (Tryz.f218.body.getD .skip)) (by kernel_rfl) (by kernel_rfl) (args_slot _) (kvm_take.B0_sound s p lo hi w h)
  exact hc.mono fun e w' he => by
    obtain ⟨v, rfl, hv⟩ := he
    exact kvm_take.RV_elim hv
def elect_turn.B1 (t11 : Bool) (w : World)   (R : Int → World → Prop) : Prop :=
  Bm t11 (
    R (0 : Int) w) (
    R (-1 : Int) w)
theorem elect_turn.B1_eq (t11 : Bool) (w : World)   (R : Int → World → Prop)  :
    (
  Bm t11 (
    R (0 : Int) w) (
    R (-1 : Int) w)) = kstep Tryz.prog 29 Tryz.f219.results.toList (Tryz.f219.body.getD .skip) (elect_turn.RV R) (kvc Tryz.prog 29 Tryz.f219.results.toList (Tryz.f219.body.getD .skip) (elect_turn.RV R) [] 2000) [(0, [1, 0, 1, 0, 1, 0, 1, 0, 1, 1, 1]), (1, [1]), (1, [0]), (0, [1, 1])] [(11, .bool t11)] w := by kernel_rfl
theorem elect_turn.B1_sound {R : Int → World → Prop}  (t11 : Bool) (w : World) (h : elect_turn.B1 t11 w   R) :
    KW Tryz.prog 219 29 (elect_turn.RV R) ([(0, [1, 0, 1, 0, 1, 0, 1, 0, 1, 1, 1]), (1, [1]), (1, [0]), (0, [1, 1])].map (toItem (Tryz.f219.body.getD .skip))) [(11, .bool t11)] w := by
  exact block_spec Tryz.func219 Tryz.mixed stops_nil (Eq.mp (elect_turn.B1_eq t11 w   R ) h)
def elect_turn.B3 (t16 : Int) (t20 : Bool) (w : World)   (R : Int → World → Prop) : Prop :=
  Bm t20 (
    R (0 : Int) w) (
    Bm (t16 == (3 : Int)) (
      R (2 : Int) w) (
      R (-1 : Int) w))
theorem elect_turn.B3_eq (t16 : Int) (t20 : Bool) (w : World)   (R : Int → World → Prop)  :
    (
  Bm t20 (
    R (0 : Int) w) (
    Bm (t16 == (3 : Int)) (
      R (2 : Int) w) (
      R (-1 : Int) w))) = kstep Tryz.prog 29 Tryz.f219.results.toList (Tryz.f219.body.getD .skip) (elect_turn.RV R) (kvc Tryz.prog 29 Tryz.f219.results.toList (Tryz.f219.body.getD .skip) (elect_turn.RV R) [] 2000) [(0, [1, 0, 1, 0, 1, 1, 1, 0, 1, 0, 1, 1, 1]), (1, [2]), (1, [0]), (0, [1, 1])] [(16, .int .i64 t16), (20, .bool t20)] w := by kernel_rfl
theorem elect_turn.B3_sound {R : Int → World → Prop}  (t16 : Int) (t20 : Bool) (w : World) (h : elect_turn.B3 t16 t20 w   R) :
    KW Tryz.prog 219 29 (elect_turn.RV R) ([(0, [1, 0, 1, 0, 1, 1, 1, 0, 1, 0, 1, 1, 1]), (1, [2]), (1, [0]), (0, [1, 1])].map (toItem (Tryz.f219.body.getD .skip))) [(16, .int .i64 t16), (20, .bool t20)] w := by
  exact block_spec Tryz.func219 Tryz.mixed stops_nil (Eq.mp (elect_turn.B3_eq t16 t20 w   R ) h)
def elect_turn.B2 (t16 : Int) (t17 : Bool) (w : World)   (R : Int → World → Prop) : Prop :=
  Bm t17 (
    R (1 : Int) w) (
    Bm (t16 == (1 : Int)) (
      elect_turn.B3 t16 (t16 == (1 : Int)) w  R) (
      elect_turn.B3 t16 (t16 == (4 : Int)) w  R))
theorem elect_turn.B2_eq (t16 : Int) (t17 : Bool) (w : World)   (R : Int → World → Prop) (sB3 : Int → Bool → World → Prop) :
    (
  Bm t17 (
    R (1 : Int) w) (
    Bm (t16 == (1 : Int)) (
      sB3 t16 (t16 == (1 : Int)) w) (
      sB3 t16 (t16 == (4 : Int)) w))) = kstep Tryz.prog 29 Tryz.f219.results.toList (Tryz.f219.body.getD .skip) (elect_turn.RV R) (kvc Tryz.prog 29 Tryz.f219.results.toList (Tryz.f219.body.getD .skip) (elect_turn.RV R) [([(0, [1, 0, 1, 0, 1, 1, 1, 0, 1, 0, 1, 1, 1]), (1, [2]), (1, [0]), (0, [1, 1])], fun σ w => dI .i64 (slotOf σ 16) fun t16_ => dB (slotOf σ 20) fun t20_ => sB3 t16_ t20_ w)] 2000) [(0, [1, 0, 1, 0, 1, 1, 1, 0, 1, 0, 1]), (1, [2]), (1, [0]), (0, [1, 1])] [(16, .int .i64 t16), (17, .bool t17)] w := by kernel_rfl
theorem elect_turn.B2_sound {R : Int → World → Prop}  (t16 : Int) (t17 : Bool) (w : World) (h : elect_turn.B2 t16 t17 w   R) :
    KW Tryz.prog 219 29 (elect_turn.RV R) ([(0, [1, 0, 1, 0, 1, 1, 1, 0, 1, 0, 1]), (1, [2]), (1, [0]), (0, [1, 1])].map (toItem (Tryz.f219.body.getD .skip))) [(16, .int .i64 t16), (17, .bool t17)] w := by
  exact block_spec Tryz.func219 Tryz.mixed (stops_cons (fun σ w h => by
      obtain ⟨t16_, e0, h⟩ := dI_elim h
      obtain ⟨t20_, e1, h⟩ := dB_elim h
      exact (elect_turn.B3_sound  t16_ t20_ w h).weaken (Sub.cons (Sub.cons (Sub.nil _) e1) e0)) stops_nil) (Eq.mp (elect_turn.B2_eq t16 t17 w   R (fun t16_ t20_ w => elect_turn.B3 t16_ t20_ w  R)) h)
def elect_turn.B0 (role ev : Int) (w : World)   (R : Int → World → Prop) : Prop :=
  Bm (role == (0 : Int)) (
    Bm (ev == (0 : Int)) (
      R (1 : Int) w) (
      Bm (ev == (1 : Int)) (
        elect_turn.B1 (ev == (1 : Int)) w  R) (
        elect_turn.B1 (ev == (4 : Int)) w  R))) (
    Bm (role == (1 : Int)) (
      Bm (ev == (0 : Int)) (
        elect_turn.B2 ev (ev == (0 : Int)) w  R) (
        elect_turn.B2 ev (ev == (2 : Int)) w  R)) (
      Bm (role == (2 : Int)) (
        Bm (ev == (1 : Int)) (
          R (0 : Int) w) (
          R (-1 : Int) w)) (
        R (-1 : Int) w)))
theorem elect_turn.B0_eq (role ev : Int) (w : World)   (R : Int → World → Prop) (sB1 : Bool → World → Prop) (sB2 : Int → Bool → World → Prop) :
    (
  Bm (role == (0 : Int)) (
    Bm (ev == (0 : Int)) (
      R (1 : Int) w) (
      Bm (ev == (1 : Int)) (
        sB1 (ev == (1 : Int)) w) (
        sB1 (ev == (4 : Int)) w))) (
    Bm (role == (1 : Int)) (
      Bm (ev == (0 : Int)) (
        sB2 ev (ev == (0 : Int)) w) (
        sB2 ev (ev == (2 : Int)) w)) (
      Bm (role == (2 : Int)) (
        Bm (ev == (1 : Int)) (
          R (0 : Int) w) (
          R (-1 : Int) w)) (
        R (-1 : Int) w)))) = kstep Tryz.prog 29 Tryz.f219.results.toList (Tryz.f219.body.getD .skip) (elect_turn.RV R) (kvc Tryz.prog 29 Tryz.f219.results.toList (Tryz.f219.body.getD .skip) (elect_turn.RV R) [([(0, [1, 0, 1, 0, 1, 0, 1, 0, 1, 1, 1]), (1, [1]), (1, [0]), (0, [1, 1])], fun σ w => dB (slotOf σ 11) fun t11_ => sB1 t11_ w),
    ([(0, [1, 0, 1, 0, 1, 1, 1, 0, 1, 0, 1]), (1, [2]), (1, [0]), (0, [1, 1])], fun σ w => dI .i64 (slotOf σ 16) fun t16_ => dB (slotOf σ 17) fun t17_ => sB2 t16_ t17_ w)] 2000) [(0, [])] [(0, .int .i64 role), (1, .int .i64 ev)] w := by kernel_rfl
theorem elect_turn.B0_sound {R : Int → World → Prop}  (role ev : Int) (w : World) (h : elect_turn.B0 role ev w   R) :
    KW Tryz.prog 219 29 (elect_turn.RV R) ([(0, [])].map (toItem (Tryz.f219.body.getD .skip))) [(0, .int .i64 role), (1, .int .i64 ev)] w := by
  exact block_spec Tryz.func219 Tryz.mixed (stops_cons (fun σ w h => by
      obtain ⟨t11_, e0, h⟩ := dB_elim h
      exact (elect_turn.B1_sound  t11_ w h).weaken (Sub.cons (Sub.nil _) e0)) (stops_cons (fun σ w h => by
      obtain ⟨t16_, e0, h⟩ := dI_elim h
      obtain ⟨t17_, e1, h⟩ := dB_elim h
      exact (elect_turn.B2_sound  t16_ t17_ w h).weaken (Sub.cons (Sub.cons (Sub.nil _) e1) e0)) stops_nil)) (Eq.mp (elect_turn.B0_eq role ev w   R (fun t11_ w => elect_turn.B1 t11_ w  R) (fun t16_ t17_ w => elect_turn.B2 t16_ t17_ w  R)) h)
theorem elect_turn.sound (role ev : Int) (w : World) (R : Int → World → Prop) (h : elect_turn.B0 role ev w R) : elect_turn.Call role ev w R := by
  have hc := calls_of_block (args := #[.int .i64 role, .int .i64 ev]) Tryz.func219 (body := (Tryz.f219.body.getD .skip)) (by kernel_rfl) (by kernel_rfl) (args_slot _) (elect_turn.B0_sound role ev w h)
  exact hc.mono fun e w' he => by
    obtain ⟨v, rfl, hv⟩ := he
    exact elect_turn.RV_elim hv
end Go.Proofs.Qxb6500430aGreat
