import Derived.Test.Qxb6500433aGreatSig
set_option maxRecDepth 100000
set_option linter.unusedVariables false
open Go.Vc
namespace Go.Proofs.Qxb6500433aGreat
def store_decRec.L1b (b : ByteArray) (t2 : Nat) (n : Int) (data_b : Option Addr) (data_l data_c : Nat) (i : Int) (w : World)  (N1 : ByteArray → Nat → Int → Option Addr → Nat → Nat → Int → World → Prop) (R : Int → Int → ByteArray → Bool → World → Prop) : Prop :=
  Bm (decide (i < n)) (
    (0 ≤ (IntKind.i64.wrap ((11 : Int) + i)) ∧ (IntKind.i64.wrap ((11 : Int) + i)) < ((b.size : Nat) : Int)) ∧
    Pn data_b fun a =>
    (0 ≤ i ∧ i < ((data_l : Nat) : Int)) ∧
    Sts [.int .u8 (byteAt b (IntKind.i64.wrap ((11 : Int) + i)))] (Addr.add a (i.toNat * 1)) 0 w fun w1 =>
    N1 b t2 n data_b data_l data_c (IntKind.i64.wrap (i + (1 : Int))) w1) (
    store_get8.Call b (2 : Int) w fun r40 w2 =>
    store_get8.Call b (35 : Int) w2 fun r42 w3 =>
    ToStr data_b data_l w3 fun s46 =>
    Sts [.int .i64 r40, .int .i64 r42, .string s46] ⟨t2, 0, none⟩ 0 w3 fun w4 =>
    LdI .i64 ⟨t2, 0, none⟩ w4 fun r_0 =>
    LdI .i64 ⟨t2, 1, none⟩ w4 fun r_1 =>
    LdS ⟨t2, 2, none⟩ w4 fun r_2 =>
    R r_0 r_1 r_2 true w4)
theorem store_decRec.L1b_eq (b : ByteArray) (t2 : Nat) (n : Int) (data_b : Option Addr) (data_l data_c : Nat) (i : Int) (w : World)  (N1 : ByteArray → Nat → Int → Option Addr → Nat → Nat → Int → World → Prop) (R : Int → Int → ByteArray → Bool → World → Prop)  :
    (
  Bm (decide (i < n)) (
    (0 ≤ (IntKind.i64.wrap ((11 : Int) + i)) ∧ (IntKind.i64.wrap ((11 : Int) + i)) < ((b.size : Nat) : Int)) ∧
    Pn data_b fun a =>
    (0 ≤ i ∧ i < ((data_l : Nat) : Int)) ∧
    Sts [.int .u8 (byteAt b (IntKind.i64.wrap ((11 : Int) + i)))] (Addr.add a (i.toNat * 1)) 0 w fun w1 =>
    N1 b t2 n data_b data_l data_c (IntKind.i64.wrap (i + (1 : Int))) w1) (
    store_get8.Call b (2 : Int) w fun r40 w2 =>
    store_get8.Call b (35 : Int) w2 fun r42 w3 =>
    ToStr data_b data_l w3 fun s46 =>
    Sts [.int .i64 r40, .int .i64 r42, .string s46] ⟨t2, 0, none⟩ 0 w3 fun w4 =>
    LdI .i64 ⟨t2, 0, none⟩ w4 fun r_0 =>
    LdI .i64 ⟨t2, 1, none⟩ w4 fun r_1 =>
    LdS ⟨t2, 2, none⟩ w4 fun r_2 =>
    R r_0 r_1 r_2 true w4)) = kstep Tryz.prog 48 Tryz.f76.results.toList (Tryz.f76.body.getD .skip) (store_decRec.RV R) (kvc Tryz.prog 48 Tryz.f76.results.toList (Tryz.f76.body.getD .skip) (store_decRec.RV R) [([(0, [1, 1, 1, 1, 0, 1, 0, 0]), (2, [1, 1, 1, 1, 0, 1, 0, 0]), (1, [0]), (0, [1, 1, 1, 1, 1])], fun σ w => dS (slotOf σ 0) fun b_ => dK (slotOf σ 2) fun t2_ => dI .i64 (slotOf σ 4) fun n_ => dL (slotOf σ 5) fun data_b_ data_l_ data_c_ => dI .i64 (slotOf σ 6) fun i_ => N1 b_ t2_ n_ data_b_ data_l_ data_c_ i_ w)] 2000) [(0, [1, 1, 1, 1, 0, 1, 0, 0]), (2, [1, 1, 1, 1, 0, 1, 0, 0]), (1, [0]), (0, [1, 1, 1, 1, 1])] [(0, .string b), (2, .pointer (some ⟨t2, 0, none⟩)), (4, .int .i64 n), (5, .slice data_b data_l data_c), (6, .int .i64 i)] w := by kernel_rfl
theorem store_decRec.L1b_sound {R : Int → Int → ByteArray → Bool → World → Prop} {N1 : ByteArray → Nat → Int → Option Addr → Nat → Nat → Int → World → Prop} (hN1 : ∀ b t2 n data_b data_l data_c i w, N1 b t2 n data_b data_l data_c i w → KW Tryz.prog 76 48 (store_decRec.RV R) ([(0, [1, 1, 1, 1, 0, 1, 0, 0]), (2, [1, 1, 1, 1, 0, 1, 0, 0]), (1, [0]), (0, [1, 1, 1, 1, 1])].map (toItem (Tryz.f76.body.getD .skip))) [(0, .string b), (2, .pointer (some ⟨t2, 0, none⟩)), (4, .int .i64 n), (5, .slice data_b data_l data_c), (6, .int .i64 i)] w) (b : ByteArray) (t2 : Nat) (n : Int) (data_b : Option Addr) (data_l data_c : Nat) (i : Int) (w : World) (h : store_decRec.L1b b t2 n data_b data_l data_c i w  N1 R) :
    KW Tryz.prog 76 48 (store_decRec.RV R) ([(0, [1, 1, 1, 1, 0, 1, 0, 0]), (2, [1, 1, 1, 1, 0, 1, 0, 0]), (1, [0]), (0, [1, 1, 1, 1, 1])].map (toItem (Tryz.f76.body.getD .skip))) [(0, .string b), (2, .pointer (some ⟨t2, 0, none⟩)), (4, .int .i64 n), (5, .slice data_b data_l data_c), (6, .int .i64 i)] w := by
  exact block_spec Tryz.func76 Tryz.mixed (stops_cons (fun σ w h => by
      obtain ⟨b_, e0, h⟩ := dS_elim h
      obtain ⟨t2_, e1, h⟩ := dK_elim h
      obtain ⟨n_, e2, h⟩ := dI_elim h
      obtain ⟨data_b_, data_l_, data_c_, e3, h⟩ := dL_elim h
      obtain ⟨i_, e4, h⟩ := dI_elim h
      exact (hN1 b_ t2_ n_ data_b_ data_l_ data_c_ i_ w h).weaken (Sub.cons (Sub.cons (Sub.cons (Sub.cons (Sub.cons (Sub.nil _) e4) e3) e2) e1) e0)) stops_nil) (Eq.mp (store_decRec.L1b_eq b t2 n data_b data_l data_c i w  N1 R ) h)
def store_decRec.L1 (b : ByteArray) (t2 : Nat) (n : Int) (data_b : Option Addr) (data_l data_c : Nat) (i : Int) (w : World)  (R : Int → Int → ByteArray → Bool → World → Prop) : Prop :=
  ∃ (I : Nat → ByteArray → Nat → Int → Option Addr → Nat → Nat → Int → World → Prop) (m : Nat), I m b t2 n data_b data_l data_c i w ∧ ∀ m b t2 n data_b data_l data_c i w, I m b t2 n data_b data_l data_c i w → store_decRec.L1b b t2 n data_b data_l data_c i w  (fun b' t2' n' data_b' data_l' data_c' i' w' => ∃ m', m' < m ∧ I m' b' t2' n' data_b' data_l' data_c' i' w') R
theorem store_decRec.L1_sound {R : Int → Int → ByteArray → Bool → World → Prop}  (b : ByteArray) (t2 : Nat) (n : Int) (data_b : Option Addr) (data_l data_c : Nat) (i : Int) (w : World) (h : store_decRec.L1 b t2 n data_b data_l data_c i w  R) :
    KW Tryz.prog 76 48 (store_decRec.RV R) ([(0, [1, 1, 1, 1, 0, 1, 0, 0]), (2, [1, 1, 1, 1, 0, 1, 0, 0]), (1, [0]), (0, [1, 1, 1, 1, 1])].map (toItem (Tryz.f76.body.getD .skip))) [(0, .string b), (2, .pointer (some ⟨t2, 0, none⟩)), (4, .int .i64 n), (5, .slice data_b data_l data_c), (6, .int .i64 i)] w := by
  obtain ⟨I, m, hBase, hr⟩ := h
  refine KW.loop (fun m σ w => ∃ (b : ByteArray) (t2 : Nat) (n : Int) (data_b : Option Addr) (data_l data_c : Nat) (i : Int), σ = [(0, .string b), (2, .pointer (some ⟨t2, 0, none⟩)), (4, .int .i64 n), (5, .slice data_b data_l data_c), (6, .int .i64 i)] ∧ I m b t2 n data_b data_l data_c i w) ?_ m _ w ⟨b, t2, n, data_b, data_l, data_c, i, rfl, hBase⟩
  rintro m ih σ w ⟨b, t2, n, data_b, data_l, data_c, i, rfl, hI⟩
  exact store_decRec.L1b_sound  (N1 := fun b' t2' n' data_b' data_l' data_c' i' w' => ∃ m', m' < m ∧ I m' b' t2' n' data_b' data_l' data_c' i' w') (fun b' t2' n' data_b' data_l' data_c' i' w' hx => by obtain ⟨m', hlt, hI'⟩ := hx; exact ih m' hlt _ w' ⟨b', t2', n', data_b', data_l', data_c', i', rfl, hI'⟩) b t2 n data_b data_l data_c i w (hr m b t2 n data_b data_l data_c i w hI)
def store_decRec.B1 (b : ByteArray) (t2 : Nat) (n : Int) (t23 : Bool) (w : World)   (R : Int → Int → ByteArray → Bool → World → Prop) : Prop :=
  Bm t23 (
    Sts [.int .i64 (0 : Int), .int .i64 (0 : Int), .string (ByteArray.mk #[])] ⟨t2, 0, none⟩ 0 w fun w1 =>
    LdI .i64 ⟨t2, 0, none⟩ w1 fun r_0 =>
    LdI .i64 ⟨t2, 1, none⟩ w1 fun r_1 =>
    LdS ⟨t2, 2, none⟩ w1 fun r_2 =>
    R r_0 r_1 r_2 false w1) (
    Make 5 (.int .u8 (0 : Int)) 1 1 n n w fun b26 w2 =>
    store_decRec.L1 b t2 n (some ⟨b26, 0, none⟩) n.toNat n.toNat (0 : Int) w2  R)
theorem store_decRec.B1_eq (b : ByteArray) (t2 : Nat) (n : Int) (t23 : Bool) (w : World)   (R : Int → Int → ByteArray → Bool → World → Prop) (sL1 : ByteArray → Nat → Int → Option Addr → Nat → Nat → Int → World → Prop) :
    (
  Bm t23 (
    Sts [.int .i64 (0 : Int), .int .i64 (0 : Int), .string (ByteArray.mk #[])] ⟨t2, 0, none⟩ 0 w fun w1 =>
    LdI .i64 ⟨t2, 0, none⟩ w1 fun r_0 =>
    LdI .i64 ⟨t2, 1, none⟩ w1 fun r_1 =>
    LdS ⟨t2, 2, none⟩ w1 fun r_2 =>
    R r_0 r_1 r_2 false w1) (
    Make 5 (.int .u8 (0 : Int)) 1 1 n n w fun b26 w2 =>
    sL1 b t2 n (some ⟨b26, 0, none⟩) n.toNat n.toNat (0 : Int) w2)) = kstep Tryz.prog 48 Tryz.f76.results.toList (Tryz.f76.body.getD .skip) (store_decRec.RV R) (kvc Tryz.prog 48 Tryz.f76.results.toList (Tryz.f76.body.getD .skip) (store_decRec.RV R) [([(0, [1, 1, 1, 1, 0, 1, 0, 0]), (2, [1, 1, 1, 1, 0, 1, 0, 0]), (1, [0]), (0, [1, 1, 1, 1, 1])], fun σ w => dS (slotOf σ 0) fun b_ => dK (slotOf σ 2) fun t2_ => dI .i64 (slotOf σ 4) fun n_ => dL (slotOf σ 5) fun data_b_ data_l_ data_c_ => dI .i64 (slotOf σ 6) fun i_ => sL1 b_ t2_ n_ data_b_ data_l_ data_c_ i_ w)] 2000) [(0, [1, 1, 0, 1]), (0, [1, 1, 1])] [(0, .string b), (2, .pointer (some ⟨t2, 0, none⟩)), (4, .int .i64 n), (23, .bool t23)] w := by kernel_rfl
theorem store_decRec.B1_sound {R : Int → Int → ByteArray → Bool → World → Prop}  (b : ByteArray) (t2 : Nat) (n : Int) (t23 : Bool) (w : World) (h : store_decRec.B1 b t2 n t23 w   R) :
    KW Tryz.prog 76 48 (store_decRec.RV R) ([(0, [1, 1, 0, 1]), (0, [1, 1, 1])].map (toItem (Tryz.f76.body.getD .skip))) [(0, .string b), (2, .pointer (some ⟨t2, 0, none⟩)), (4, .int .i64 n), (23, .bool t23)] w := by
  exact block_spec Tryz.func76 Tryz.mixed (stops_cons (fun σ w h => by
      obtain ⟨b_, e0, h⟩ := dS_elim h
      obtain ⟨t2_, e1, h⟩ := dK_elim h
      obtain ⟨n_, e2, h⟩ := dI_elim h
      obtain ⟨data_b_, data_l_, data_c_, e3, h⟩ := dL_elim h
      obtain ⟨i_, e4, h⟩ := dI_elim h
      exact (store_decRec.L1_sound  b_ t2_ n_ data_b_ data_l_ data_c_ i_ w h).weaken (Sub.cons (Sub.cons (Sub.cons (Sub.cons (Sub.cons (Sub.nil _) e4) e3) e2) e1) e0)) stops_nil) (Eq.mp (store_decRec.B1_eq b t2 n t23 w   R (fun b_ t2_ n_ data_b_ data_l_ data_c_ i_ w => store_decRec.L1 b_ t2_ n_ data_b_ data_l_ data_c_ i_ w  R)) h)
def store_decRec.B0 (b : ByteArray) (w : World)   (R : Int → Int → ByteArray → Bool → World → Prop) : Prop :=
  New (.cells #[.int .i64 (0 : Int), .int .i64 (0 : Int), .string (ByteArray.mk #[])] 120) w fun b2 w1 =>
  (0 ≤ (10 : Int) ∧ (10 : Int) < ((b.size : Nat) : Int)) ∧
  store_whole.Call b w1 fun r13 w2 =>
  Bm (!r13) (
    store_decRec.B1 b b2 (IntKind.i64.wrap (byteAt b (10 : Int))) true w2  R) (
    (0 ≤ (1 : Int) ∧ (1 : Int) < ((b.size : Nat) : Int)) ∧
    Bm ((byteAt b (1 : Int)) != (1 : Int)) (
      store_decRec.B1 b b2 (IntKind.i64.wrap (byteAt b (10 : Int))) true w2  R) (
      store_decRec.B1 b b2 (IntKind.i64.wrap (byteAt b (10 : Int))) (decide ((IntKind.i64.wrap (byteAt b (10 : Int))) > (24 : Int))) w2  R))
theorem store_decRec.B0_eq (b : ByteArray) (w : World)   (R : Int → Int → ByteArray → Bool → World → Prop) (sB1 : ByteArray → Nat → Int → Bool → World → Prop) :
    (
  New (.cells #[.int .i64 (0 : Int), .int .i64 (0 : Int), .string (ByteArray.mk #[])] 120) w fun b2 w1 =>
  (0 ≤ (10 : Int) ∧ (10 : Int) < ((b.size : Nat) : Int)) ∧
  store_whole.Call b w1 fun r13 w2 =>
  Bm (!r13) (
    sB1 b b2 (IntKind.i64.wrap (byteAt b (10 : Int))) true w2) (
    (0 ≤ (1 : Int) ∧ (1 : Int) < ((b.size : Nat) : Int)) ∧
    Bm ((byteAt b (1 : Int)) != (1 : Int)) (
      sB1 b b2 (IntKind.i64.wrap (byteAt b (10 : Int))) true w2) (
      sB1 b b2 (IntKind.i64.wrap (byteAt b (10 : Int))) (decide ((IntKind.i64.wrap (byteAt b (10 : Int))) > (24 : Int))) w2))) = kstep Tryz.prog 48 Tryz.f76.results.toList (Tryz.f76.body.getD .skip) (store_decRec.RV R) (kvc Tryz.prog 48 Tryz.f76.results.toList (Tryz.f76.body.getD .skip) (store_decRec.RV R) [([(0, [1, 1, 0, 1]), (0, [1, 1, 1])], fun σ w => dS (slotOf σ 0) fun b_ => dK (slotOf σ 2) fun t2_ => dI .i64 (slotOf σ 4) fun n_ => dB (slotOf σ 23) fun t23_ => sB1 b_ t2_ n_ t23_ w)] 2000) [(0, [])] [(0, .string b)] w := by kernel_rfl
theorem store_decRec.B0_sound {R : Int → Int → ByteArray → Bool → World → Prop}  (b : ByteArray) (w : World) (h : store_decRec.B0 b w   R) :
    KW Tryz.prog 76 48 (store_decRec.RV R) ([(0, [])].map (toItem (Tryz.f76.body.getD .skip))) [(0, .string b)] w := by
  exact block_spec Tryz.func76 Tryz.mixed (stops_cons (fun σ w h => by
      obtain ⟨b_, e0, h⟩ := dS_elim h
      obtain ⟨t2_, e1, h⟩ := dK_elim h
      obtain ⟨n_, e2, h⟩ := dI_elim h
      obtain ⟨t23_, e3, h⟩ := dB_elim h
      exact (store_decRec.B1_sound  b_ t2_ n_ t23_ w h).weaken (Sub.cons (Sub.cons (Sub.cons (Sub.cons (Sub.nil _) e3) e2) e1) e0)) stops_nil) (Eq.mp (store_decRec.B0_eq b w   R (fun b_ t2_ n_ t23_ w => store_decRec.B1 b_ t2_ n_ t23_ w  R)) h)
theorem store_decRec.sound (b : ByteArray) (w : World) (R : Int → Int → ByteArray → Bool → World → Prop) (h : store_decRec.B0 b w R) : store_decRec.Call b w R := by
  have hc := calls_of_block (args := #[.string b]) Tryz.func76 (body := (Tryz.f76.body.getD .skip)) (by kernel_rfl) (by kernel_rfl) (args_slot _) (store_decRec.B0_sound b w h)
  exact hc.mono fun e w' he => by
    obtain ⟨v, rfl, hv⟩ := he
    exact store_decRec.RV_elim hv
def store_Store_Meta.B0 (t : Option Addr) (w : World)   (R : Int → Int → World → Prop) : Prop :=
  Pn t fun a =>
  LdI .i64 ((a.add 15).add 2) w.drew fun x8 =>
  Pn t fun a_1 =>
  LdI .i64 ((a_1.add 15).add 3) w.drew fun x13 =>
  R x8 x13 w.drew
theorem store_Store_Meta.B0_eq (t : Option Addr) (w : World)   (R : Int → Int → World → Prop)  :
    (
  Pn t fun a =>
  LdI .i64 ((a.add 15).add 2) w.drew fun x8 =>
  Pn t fun a_1 =>
  LdI .i64 ((a_1.add 15).add 3) w.drew fun x13 =>
  R x8 x13 w.drew) = kstep Tryz.prog 14 Tryz.f77.results.toList (Tryz.f77.body.getD .skip) (store_Store_Meta.RV R) (kvc Tryz.prog 14 Tryz.f77.results.toList (Tryz.f77.body.getD .skip) (store_Store_Meta.RV R) [] 2000) [(0, [])] [(0, .pointer t)] w := by kernel_rfl
theorem store_Store_Meta.B0_sound {R : Int → Int → World → Prop}  (t : Option Addr) (w : World) (h : store_Store_Meta.B0 t w   R) :
    KW Tryz.prog 77 14 (store_Store_Meta.RV R) ([(0, [])].map (toItem (Tryz.f77.body.getD .skip))) [(0, .pointer t)] w := by
  exact block_spec Tryz.func77 Tryz.mixed stops_nil (Eq.mp (store_Store_Meta.B0_eq t w   R ) h)
theorem store_Store_Meta.sound (t : Option Addr) (w : World) (R : Int → Int → World → Prop) (h : store_Store_Meta.B0 t w R) : store_Store_Meta.Call t w R := by
  have hc := calls_of_block (args := #[.pointer t]) Tryz.func77 (body := (Tryz.f77.body.getD .skip)) (by kernel_rfl) (by kernel_rfl) (args_slot _) (store_Store_Meta.B0_sound t w h)
  exact hc.mono fun e w' he => by
    obtain ⟨v, rfl, hv⟩ := he
    exact store_Store_Meta.RV_elim hv
def store_Store_Snap.B0 (t : Option Addr) (w : World)   (R : Int → Int → ByteArray → World → Prop) : Prop :=
  Pn t fun a =>
  LdI .i64 ((a.add 20).add 2) w.drew fun x9 =>
  Pn t fun a_1 =>
  LdI .i64 ((a_1.add 20).add 3) w.drew fun x14 =>
  Pn t fun a_2 =>
  LdS (a_2.add 27) w.drew fun x18 =>
  R x9 x14 x18 w.drew
theorem store_Store_Snap.B0_eq (t : Option Addr) (w : World)   (R : Int → Int → ByteArray → World → Prop)  :
    (
  Pn t fun a =>
  LdI .i64 ((a.add 20).add 2) w.drew fun x9 =>
  Pn t fun a_1 =>
  LdI .i64 ((a_1.add 20).add 3) w.drew fun x14 =>
  Pn t fun a_2 =>
  LdS (a_2.add 27) w.drew fun x18 =>
  R x9 x14 x18 w.drew) = kstep Tryz.prog 19 Tryz.f78.results.toList (Tryz.f78.body.getD .skip) (store_Store_Snap.RV R) (kvc Tryz.prog 19 Tryz.f78.results.toList (Tryz.f78.body.getD .skip) (store_Store_Snap.RV R) [] 2000) [(0, [])] [(0, .pointer t)] w := by kernel_rfl
theorem store_Store_Snap.B0_sound {R : Int → Int → ByteArray → World → Prop}  (t : Option Addr) (w : World) (h : store_Store_Snap.B0 t w   R) :
    KW Tryz.prog 78 19 (store_Store_Snap.RV R) ([(0, [])].map (toItem (Tryz.f78.body.getD .skip))) [(0, .pointer t)] w := by
  exact block_spec Tryz.func78 Tryz.mixed stops_nil (Eq.mp (store_Store_Snap.B0_eq t w   R ) h)
theorem store_Store_Snap.sound (t : Option Addr) (w : World) (R : Int → Int → ByteArray → World → Prop) (h : store_Store_Snap.B0 t w R) : store_Store_Snap.Call t w R := by
  have hc := calls_of_block (args := #[.pointer t]) Tryz.func78 (body := (Tryz.f78.body.getD .skip)) (by kernel_rfl) (by kernel_rfl) (args_slot _) (store_Store_Snap.B0_sound t w h)
  exact hc.mono fun e w' he => by
    obtain ⟨v, rfl, hv⟩ := he
    exact store_Store_Snap.RV_elim hv
def rlog_Log_load.B1 (l : Option Addr) (i : Int) (r : Nat) (t26 : Bool) (w : World)   (R : Bool → World → Prop) : Prop :=
  Bm t26 (
    R false w) (
    LdI .i64 ⟨r, 1, none⟩ w.drew fun x31 =>
    Pn l fun a =>
    rlog_slotOf.Call i w.drew fun r29 w1 =>
    w1.cell? ⟨r, 1, none⟩ = some (.int .i64 x31) ∧
    (0 ≤ r29 ∧ r29 < ((6 : Nat) : Int)) ∧
    Sts [.int .i64 x31] (Addr.add (a.add 7) (r29.toNat * 1)) 0 w1 fun w2 =>
    LdS ⟨r, 2, none⟩ w2.drew fun x39 =>
    Pn l fun a_1 =>
    rlog_slotOf.Call i w2.drew fun r37 w3 =>
    w3.cell? ⟨r, 2, none⟩ = some (.string x39) ∧
    (0 ≤ r37 ∧ r37 < ((6 : Nat) : Int)) ∧
    Sts [.string x39] (Addr.add (a_1.add 13) (r37.toNat * 1)) 0 w3 fun w4 =>
    R true w4)
theorem rlog_Log_load.B1_eq (l : Option Addr) (i : Int) (r : Nat) (t26 : Bool) (w : World)   (R : Bool → World → Prop)  :
    (
  Bm t26 (
    R false w) (
    LdI .i64 ⟨r, 1, none⟩ w.drew fun x31 =>
    Pn l fun a =>
    rlog_slotOf.Call i w.drew fun r29 w1 =>
    w1.cell? ⟨r, 1, none⟩ = some (.int .i64 x31) ∧
    (0 ≤ r29 ∧ r29 < ((6 : Nat) : Int)) ∧
    Sts [.int .i64 x31] (Addr.add (a.add 7) (r29.toNat * 1)) 0 w1 fun w2 =>
    LdS ⟨r, 2, none⟩ w2.drew fun x39 =>
    Pn l fun a_1 =>
    rlog_slotOf.Call i w2.drew fun r37 w3 =>
    w3.cell? ⟨r, 2, none⟩ = some (.string x39) ∧
    (0 ≤ r37 ∧ r37 < ((6 : Nat) : Int)) ∧
    Sts [.string x39] (Addr.add (a_1.add 13) (r37.toNat * 1)) 0 w3 fun w4 =>
    R true w4)) = kstep Tryz.prog 43 Tryz.f79.results.toList (Tryz.f79.body.getD .skip) (rlog_Log_load.RV R) (kvc Tryz.prog 43 Tryz.f79.results.toList (Tryz.f79.body.getD .skip) (rlog_Log_load.RV R) [] 2000) [(0, [1, 1, 1, 0, 1]), (0, [1, 1, 1, 1])] [(0, .pointer l), (1, .int .i64 i), (6, .pointer (some ⟨r, 0, none⟩)), (26, .bool t26)] w := by kernel_rfl
theorem rlog_Log_load.B1_sound {R : Bool → World → Prop}  (l : Option Addr) (i : Int) (r : Nat) (t26 : Bool) (w : World) (h : rlog_Log_load.B1 l i r t26 w   R) :
    KW Tryz.prog 79 43 (rlog_Log_load.RV R) ([(0, [1, 1, 1, 0, 1]), (0, [1, 1, 1, 1])].map (toItem (Tryz.f79.body.getD .skip))) [(0, .pointer l), (1, .int .i64 i), (6, .pointer (some ⟨r, 0, none⟩)), (26, .bool t26)] w := by
  exact block_spec Tryz.func79 Tryz.mixed stops_nil (Eq.mp (rlog_Log_load.B1_eq l i r t26 w   R ) h)
def rlog_Log_load.B0 (l : Option Addr) (i : Int) (w : World)   (R : Bool → World → Prop) : Prop :=
  rlog_slotOf.Call i w fun r9 w1 =>
  Pn l fun a =>
  LdP a w1 fun x14 =>
  store_Store_Rec.Call x14 r9 w1 fun r16_0_0 r16_0_1 r16_0_2 r16_1 w2 =>
  New (.cells #[.int .i64 (0 : Int), .int .i64 (0 : Int), .string (ByteArray.mk #[])] 120) w2 fun r_ w3 =>
  Sts [.int .i64 r16_0_0, .int .i64 r16_0_1, .string r16_0_2] ⟨r_, 0, none⟩ 0 w3 fun w4 =>
  Bm (r16_1 != (0 : Int)) (
    rlog_Log_load.B1 l i r_ true w4  R) (
    LdI .i64 ⟨r_, 0, none⟩ w4 fun x23 =>
    rlog_Log_load.B1 l i r_ (x23 != i) w4  R)
theorem rlog_Log_load.B0_eq (l : Option Addr) (i : Int) (w : World)   (R : Bool → World → Prop) (sB1 : Option Addr → Int → Nat → Bool → World → Prop) :
    (
  rlog_slotOf.Call i w fun r9 w1 =>
  Pn l fun a =>
  LdP a w1 fun x14 =>
  store_Store_Rec.Call x14 r9 w1 fun r16_0_0 r16_0_1 r16_0_2 r16_1 w2 =>
  New (.cells #[.int .i64 (0 : Int), .int .i64 (0 : Int), .string (ByteArray.mk #[])] 120) w2 fun r_ w3 =>
  Sts [.int .i64 r16_0_0, .int .i64 r16_0_1, .string r16_0_2] ⟨r_, 0, none⟩ 0 w3 fun w4 =>
  Bm (r16_1 != (0 : Int)) (
    sB1 l i r_ true w4) (
    LdI .i64 ⟨r_, 0, none⟩ w4 fun x23 =>
    sB1 l i r_ (x23 != i) w4)) = kstep Tryz.prog 43 Tryz.f79.results.toList (Tryz.f79.body.getD .skip) (rlog_Log_load.RV R) (kvc Tryz.prog 43 Tryz.f79.results.toList (Tryz.f79.body.getD .skip) (rlog_Log_load.RV R) [([(0, [1, 1, 1, 0, 1]), (0, [1, 1, 1, 1])], fun σ w => dP (slotOf σ 0) fun l_ => dI .i64 (slotOf σ 1) fun i_ => dK (slotOf σ 6) fun r_ => dB (slotOf σ 26) fun t26_ => sB1 l_ i_ r_ t26_ w)] 2000) [(0, [])] [(0, .pointer l), (1, .int .i64 i)] w := by kernel_rfl
theorem rlog_Log_load.B0_sound {R : Bool → World → Prop}  (l : Option Addr) (i : Int) (w : World) (h : rlog_Log_load.B0 l i w   R) :
    KW Tryz.prog 79 43 (rlog_Log_load.RV R) ([(0, [])].map (toItem (Tryz.f79.body.getD .skip))) [(0, .pointer l), (1, .int .i64 i)] w := by
  exact block_spec Tryz.func79 Tryz.mixed (stops_cons (fun σ w h => by
      obtain ⟨l_, e0, h⟩ := dP_elim h
      obtain ⟨i_, e1, h⟩ := dI_elim h
      obtain ⟨r_, e2, h⟩ := dK_elim h
      obtain ⟨t26_, e3, h⟩ := dB_elim h
      exact (rlog_Log_load.B1_sound  l_ i_ r_ t26_ w h).weaken (Sub.cons (Sub.cons (Sub.cons (Sub.cons (Sub.nil _) e3) e2) e1) e0)) stops_nil) (Eq.mp (rlog_Log_load.B0_eq l i w   R (fun l_ i_ r_ t26_ w => rlog_Log_load.B1 l_ i_ r_ t26_ w  R)) h)
theorem rlog_Log_load.sound (l : Option Addr) (i : Int) (w : World) (R : Bool → World → Prop) (h : rlog_Log_load.B0 l i w R) : rlog_Log_load.Call l i w R := by
  have hc := calls_of_block (args := #[.pointer l, .int .i64 i]) Tryz.func79 (body := (Tryz.f79.body.getD .skip)) (by kernel_rfl) (by kernel_rfl) (args_slot _) (rlog_Log_load.B0_sound l i w h)
  exact hc.mono fun e w' he => by
    obtain ⟨v, rfl, hv⟩ := he
    exact rlog_Log_load.RV_elim hv
def rlog_Log_sweep.B2 (l : Option Addr) (s : Int) (w : World) (N1 : Option Addr → Int → World → Prop)  (R : World → Prop) : Prop :=
  N1 l (IntKind.i64.wrap (s + (1 : Int))) w
theorem rlog_Log_sweep.B2_eq (l : Option Addr) (s : Int) (w : World) (N1 : Option Addr → Int → World → Prop)  (R : World → Prop)  :
    (
  N1 l (IntKind.i64.wrap (s + (1 : Int))) w) = kstep Tryz.prog 32 Tryz.f80.results.toList (Tryz.f80.body.getD .skip) (rlog_Log_sweep.RV R) (kvc Tryz.prog 32 Tryz.f80.results.toList (Tryz.f80.body.getD .skip) (rlog_Log_sweep.RV R) [([(0, [1, 0, 0]), (2, [1, 0, 0]), (1, [0])], fun σ w => dP (slotOf σ 0) fun l_ => dI .i64 (slotOf σ 2) fun s_ => N1 l_ s_ w)] 2000) [(0, [1, 0, 0, 1, 1]), (2, [1, 0, 0]), (1, [0])] [(0, .pointer l), (2, .int .i64 s)] w := by kernel_rfl
theorem rlog_Log_sweep.B2_sound {R : World → Prop} {N1 : Option Addr → Int → World → Prop} (hN1 : ∀ l s w, N1 l s w → KW Tryz.prog 80 32 (rlog_Log_sweep.RV R) ([(0, [1, 0, 0]), (2, [1, 0, 0]), (1, [0])].map (toItem (Tryz.f80.body.getD .skip))) [(0, .pointer l), (2, .int .i64 s)] w) (l : Option Addr) (s : Int) (w : World) (h : rlog_Log_sweep.B2 l s w N1  R) :
    KW Tryz.prog 80 32 (rlog_Log_sweep.RV R) ([(0, [1, 0, 0, 1, 1]), (2, [1, 0, 0]), (1, [0])].map (toItem (Tryz.f80.body.getD .skip))) [(0, .pointer l), (2, .int .i64 s)] w := by
  exact block_spec Tryz.func80 Tryz.mixed (stops_cons (fun σ w h => by
      obtain ⟨l_, e0, h⟩ := dP_elim h
      obtain ⟨s_, e1, h⟩ := dI_elim h
      exact (hN1 l_ s_ w h).weaken (Sub.cons (Sub.cons (Sub.nil _) e1) e0)) stops_nil) (Eq.mp (rlog_Log_sweep.B2_eq l s w N1  R ) h)
def rlog_Log_sweep.B1 (l : Option Addr) (s : Int) (t25 : Bool) (w : World) (N1 : Option Addr → Int → World → Prop)  (R : World → Prop) : Prop :=
  Bm t25 (
    Pn l fun a =>
    LdP a w fun x29 =>
    store_Store_DelRec.Call x29 s w fun r31 w1 =>
    rlog_Log_sweep.B2 l s w1 N1 R) (
    rlog_Log_sweep.B2 l s w N1 R)
theorem rlog_Log_sweep.B1_eq (l : Option Addr) (s : Int) (t25 : Bool) (w : World) (N1 : Option Addr → Int → World → Prop)  (R : World → Prop) (sB2 : Option Addr → Int → World → Prop) :
    (
  Bm t25 (
    Pn l fun a =>
    LdP a w fun x29 =>
    store_Store_DelRec.Call x29 s w fun r31 w1 =>
    sB2 l s w1) (
    sB2 l s w)) = kstep Tryz.prog 32 Tryz.f80.results.toList (Tryz.f80.body.getD .skip) (rlog_Log_sweep.RV R) (kvc Tryz.prog 32 Tryz.f80.results.toList (Tryz.f80.body.getD .skip) (rlog_Log_sweep.RV R) [([(0, [1, 0, 0, 1, 1]), (2, [1, 0, 0]), (1, [0])], fun σ w => dP (slotOf σ 0) fun l_ => dI .i64 (slotOf σ 2) fun s_ => sB2 l_ s_ w)] 2000) [(0, [1, 0, 0, 1, 0, 0, 1, 1]), (1, [1]), (0, [1, 0, 0, 1, 1]), (2, [1, 0, 0]), (1, [0])] [(0, .pointer l), (2, .int .i64 s), (25, .bool t25)] w := by kernel_rfl
theorem rlog_Log_sweep.B1_sound {R : World → Prop} {N1 : Option Addr → Int → World → Prop} (hN1 : ∀ l s w, N1 l s w → KW Tryz.prog 80 32 (rlog_Log_sweep.RV R) ([(0, [1, 0, 0]), (2, [1, 0, 0]), (1, [0])].map (toItem (Tryz.f80.body.getD .skip))) [(0, .pointer l), (2, .int .i64 s)] w) (l : Option Addr) (s : Int) (t25 : Bool) (w : World) (h : rlog_Log_sweep.B1 l s t25 w N1  R) :
    KW Tryz.prog 80 32 (rlog_Log_sweep.RV R) ([(0, [1, 0, 0, 1, 0, 0, 1, 1]), (1, [1]), (0, [1, 0, 0, 1, 1]), (2, [1, 0, 0]), (1, [0])].map (toItem (Tryz.f80.body.getD .skip))) [(0, .pointer l), (2, .int .i64 s), (25, .bool t25)] w := by
  exact block_spec Tryz.func80 Tryz.mixed (stops_cons (fun σ w h => by
      obtain ⟨l_, e0, h⟩ := dP_elim h
      obtain ⟨s_, e1, h⟩ := dI_elim h
      exact (rlog_Log_sweep.B2_sound hN1 l_ s_ w h).weaken (Sub.cons (Sub.cons (Sub.nil _) e1) e0)) stops_nil) (Eq.mp (rlog_Log_sweep.B1_eq l s t25 w N1  R (fun l_ s_ w => rlog_Log_sweep.B2 l_ s_ w N1 R)) h)
def rlog_Log_sweep.L1b (l : Option Addr) (s : Int) (w : World)  (N1 : Option Addr → Int → World → Prop) (R : World → Prop) : Prop :=
  Bm (decide (s < (6 : Int))) (
    Pn l fun a =>
    LdP a w fun x13 =>
    store_Store_Rec.Call x13 s w fun r15_0_0 r15_0_1 r15_0_2 r15_1 w1 =>
    New (.cells #[.int .i64 (0 : Int), .int .i64 (0 : Int), .string (ByteArray.mk #[])] 120) w1 fun v__ w2 =>
    Sts [.int .i64 r15_0_0, .int .i64 r15_0_1, .string r15_0_2] ⟨v__, 0, none⟩ 0 w2 fun w3 =>
    Bm (r15_1 == (0 : Int)) (
      rlog_Log_indexIn.Call l s w3 fun r23 w4 =>
      rlog_Log_sweep.B1 l s (r23 == (0 : Int)) w4 N1 R) (
      rlog_Log_sweep.B1 l s false w3 N1 R)) (
    R  w)
theorem rlog_Log_sweep.L1b_eq (l : Option Addr) (s : Int) (w : World)  (N1 : Option Addr → Int → World → Prop) (R : World → Prop) (sB1 : Option Addr → Int → Bool → World → Prop) :
    (
  Bm (decide (s < (6 : Int))) (
    Pn l fun a =>
    LdP a w fun x13 =>
    store_Store_Rec.Call x13 s w fun r15_0_0 r15_0_1 r15_0_2 r15_1 w1 =>
    New (.cells #[.int .i64 (0 : Int), .int .i64 (0 : Int), .string (ByteArray.mk #[])] 120) w1 fun v__ w2 =>
    Sts [.int .i64 r15_0_0, .int .i64 r15_0_1, .string r15_0_2] ⟨v__, 0, none⟩ 0 w2 fun w3 =>
    Bm (r15_1 == (0 : Int)) (
      rlog_Log_indexIn.Call l s w3 fun r23 w4 =>
      sB1 l s (r23 == (0 : Int)) w4) (
      sB1 l s false w3)) (
    R  w)) = kstep Tryz.prog 32 Tryz.f80.results.toList (Tryz.f80.body.getD .skip) (rlog_Log_sweep.RV R) (kvc Tryz.prog 32 Tryz.f80.results.toList (Tryz.f80.body.getD .skip) (rlog_Log_sweep.RV R) [([(0, [1, 0, 0, 1, 0, 0, 1, 1]), (1, [1]), (0, [1, 0, 0, 1, 1]), (2, [1, 0, 0]), (1, [0])], fun σ w => dP (slotOf σ 0) fun l_ => dI .i64 (slotOf σ 2) fun s_ => dB (slotOf σ 25) fun t25_ => sB1 l_ s_ t25_ w)] 2000) [(0, [1, 0, 0]), (2, [1, 0, 0]), (1, [0])] [(0, .pointer l), (2, .int .i64 s)] w := by kernel_rfl
theorem rlog_Log_sweep.L1b_sound {R : World → Prop} {N1 : Option Addr → Int → World → Prop} (hN1 : ∀ l s w, N1 l s w → KW Tryz.prog 80 32 (rlog_Log_sweep.RV R) ([(0, [1, 0, 0]), (2, [1, 0, 0]), (1, [0])].map (toItem (Tryz.f80.body.getD .skip))) [(0, .pointer l), (2, .int .i64 s)] w) (l : Option Addr) (s : Int) (w : World) (h : rlog_Log_sweep.L1b l s w  N1 R) :
    KW Tryz.prog 80 32 (rlog_Log_sweep.RV R) ([(0, [1, 0, 0]), (2, [1, 0, 0]), (1, [0])].map (toItem (Tryz.f80.body.getD .skip))) [(0, .pointer l), (2, .int .i64 s)] w := by
  exact block_spec Tryz.func80 Tryz.mixed (stops_cons (fun σ w h => by
      obtain ⟨l_, e0, h⟩ := dP_elim h
      obtain ⟨s_, e1, h⟩ := dI_elim h
      obtain ⟨t25_, e2, h⟩ := dB_elim h
      exact (rlog_Log_sweep.B1_sound hN1 l_ s_ t25_ w h).weaken (Sub.cons (Sub.cons (Sub.cons (Sub.nil _) e2) e1) e0)) stops_nil) (Eq.mp (rlog_Log_sweep.L1b_eq l s w  N1 R (fun l_ s_ t25_ w => rlog_Log_sweep.B1 l_ s_ t25_ w N1 R)) h)
def rlog_Log_sweep.L1 (l : Option Addr) (s : Int) (w : World)  (R : World → Prop) : Prop :=
  ∃ (I : Nat → Option Addr → Int → World → Prop) (m : Nat), I m l s w ∧ ∀ m l s w, I m l s w → rlog_Log_sweep.L1b l s w  (fun l' s' w' => ∃ m', m' < m ∧ I m' l' s' w') R
theorem rlog_Log_sweep.L1_sound {R : World → Prop}  (l : Option Addr) (s : Int) (w : World) (h : rlog_Log_sweep.L1 l s w  R) :
    KW Tryz.prog 80 32 (rlog_Log_sweep.RV R) ([(0, [1, 0, 0]), (2, [1, 0, 0]), (1, [0])].map (toItem (Tryz.f80.body.getD .skip))) [(0, .pointer l), (2, .int .i64 s)] w := by
  obtain ⟨I, m, hBase, hr⟩ := h
  refine KW.loop (fun m σ w => ∃ (l : Option Addr) (s : Int), σ = [(0, .pointer l), (2, .int .i64 s)] ∧ I m l s w) ?_ m _ w ⟨l, s, rfl, hBase⟩
  rintro m ih σ w ⟨l, s, rfl, hI⟩
  exact rlog_Log_sweep.L1b_sound  (N1 := fun l' s' w' => ∃ m', m' < m ∧ I m' l' s' w') (fun l' s' w' hx => by obtain ⟨m', hlt, hI'⟩ := hx; exact ih m' hlt _ w' ⟨l', s', rfl, hI'⟩) l s w (hr m l s w hI)
def rlog_Log_sweep.B0 (l : Option Addr) (w : World)   (R : World → Prop) : Prop :=
  rlog_Log_sweep.L1 l (0 : Int) w  R
theorem rlog_Log_sweep.B0_eq (l : Option Addr) (w : World)   (R : World → Prop) (sL1 : Option Addr → Int → World → Prop) :
    (
  sL1 l (0 : Int) w) = kstep Tryz.prog 32 Tryz.f80.results.toList (Tryz.f80.body.getD .skip) (rlog_Log_sweep.RV R) (kvc Tryz.prog 32 Tryz.f80.results.toList (Tryz.f80.body.getD .skip) (rlog_Log_sweep.RV R) [([(0, [1, 0, 0]), (2, [1, 0, 0]), (1, [0])], fun σ w => dP (slotOf σ 0) fun l_ => dI .i64 (slotOf σ 2) fun s_ => sL1 l_ s_ w)] 2000) [(0, [])] [(0, .pointer l)] w := by kernel_rfl
theorem rlog_Log_sweep.B0_sound {R : World → Prop}  (l : Option Addr) (w : World) (h : rlog_Log_sweep.B0 l w   R) :
    KW Tryz.prog 80 32 (rlog_Log_sweep.RV R) ([(0, [])].map (toItem (Tryz.f80.body.getD .skip))) [(0, .pointer l)] w := by
  exact block_spec Tryz.func80 Tryz.mixed (stops_cons (fun σ w h => by
      obtain ⟨l_, e0, h⟩ := dP_elim h
      obtain ⟨s_, e1, h⟩ := dI_elim h
      exact (rlog_Log_sweep.L1_sound  l_ s_ w h).weaken (Sub.cons (Sub.cons (Sub.nil _) e1) e0)) stops_nil) (Eq.mp (rlog_Log_sweep.B0_eq l w   R (fun l_ s_ w => rlog_Log_sweep.L1 l_ s_ w  R)) h)
theorem rlog_Log_sweep.sound (l : Option Addr) (w : World) (R : World → Prop) (h : rlog_Log_sweep.B0 l w R) : rlog_Log_sweep.Call l w R := by
  have hc := calls_of_block (args := #[.pointer l]) Tryz.func80 (body := (Tryz.f80.body.getD .skip)) (by kernel_rfl) (by kernel_rfl) (args_slot _) (rlog_Log_sweep.B0_sound l w h)
  exact hc.mono fun e w' he => by
    obtain ⟨v, rfl, hv⟩ := he
    exact rlog_Log_sweep.RV_elim hv
def api_Timeout.B1 (id0 : Int) (t8 : Bool) (w : World)   (R : Int → World → Prop) : Prop :=
  Bm t8 (
    R (3 : Int) w) (
    R (IntKind.i64.wrap ((3 : Int) + (IntKind.i64.wrap ((2 : Int) * id0)))) w)
theorem api_Timeout.B1_eq (id0 : Int) (t8 : Bool) (w : World)   (R : Int → World → Prop)  :
    (
  Bm t8 (
    R (3 : Int) w) (
    R (IntKind.i64.wrap ((3 : Int) + (IntKind.i64.wrap ((2 : Int) * id0)))) w)) = kstep Tryz.prog 12 Tryz.f81.results.toList (Tryz.f81.body.getD .skip) (api_Timeout.RV R) (kvc Tryz.prog 12 Tryz.f81.results.toList (Tryz.f81.body.getD .skip) (api_Timeout.RV R) [] 2000) [(0, [1, 0, 1]), (0, [1, 1])] [(0, .int .i64 id0), (8, .bool t8)] w := by kernel_rfl
theorem api_Timeout.B1_sound {R : Int → World → Prop}  (id0 : Int) (t8 : Bool) (w : World) (h : api_Timeout.B1 id0 t8 w   R) :
    KW Tryz.prog 81 12 (api_Timeout.RV R) ([(0, [1, 0, 1]), (0, [1, 1])].map (toItem (Tryz.f81.body.getD .skip))) [(0, .int .i64 id0), (8, .bool t8)] w := by
  exact block_spec Tryz.func81 Tryz.mixed stops_nil (Eq.mp (api_Timeout.B1_eq id0 t8 w   R ) h)
def api_Timeout.B0 (id0 : Int) (w : World)   (R : Int → World → Prop) : Prop :=
  Bm (decide (id0 < (0 : Int))) (
    api_Timeout.B1 id0 true w  R) (
    api_Timeout.B1 id0 (decide (id0 ≥ (3 : Int))) w  R)
theorem api_Timeout.B0_eq (id0 : Int) (w : World)   (R : Int → World → Prop) (sB1 : Int → Bool → World → Prop) :
    (
  Bm (decide (id0 < (0 : Int))) (
    sB1 id0 true w) (
    sB1 id0 (decide (id0 ≥ (3 : Int))) w)) = kstep Tryz.prog 12 Tryz.f81.results.toList (Tryz.f81.body.getD .skip) (api_Timeout.RV R) (kvc Tryz.prog 12 Tryz.f81.results.toList (Tryz.f81.body.getD .skip) (api_Timeout.RV R) [([(0, [1, 0, 1]), (0, [1, 1])], fun σ w => dI .i64 (slotOf σ 0) fun id0_ => dB (slotOf σ 8) fun t8_ => sB1 id0_ t8_ w)] 2000) [(0, [])] [(0, .int .i64 id0)] w := by kernel_rfl
theorem api_Timeout.B0_sound {R : Int → World → Prop}  (id0 : Int) (w : World) (h : api_Timeout.B0 id0 w   R) :
    KW Tryz.prog 81 12 (api_Timeout.RV R) ([(0, [])].map (toItem (Tryz.f81.body.getD .skip))) [(0, .int .i64 id0)] w := by
  exact block_spec Tryz.func81 Tryz.mixed (stops_cons (fun σ w h => by
      obtain ⟨id0_, e0, h⟩ := dI_elim h
      obtain ⟨t8_, e1, h⟩ := dB_elim h
      exact (api_Timeout.B1_sound  id0_ t8_ w h).weaken (Sub.cons (Sub.cons (Sub.nil _) e1) e0)) stops_nil) (Eq.mp (api_Timeout.B0_eq id0 w   R (fun id0_ t8_ w => api_Timeout.B1 id0_ t8_ w  R)) h)
theorem api_Timeout.sound (id0 : Int) (w : World) (R : Int → World → Prop) (h : api_Timeout.B0 id0 w R) : api_Timeout.Call id0 w R := by
  have hc := calls_of_block (args := #[.int .i64 id0]) Tryz.func81 (body := (Tryz.f81.body.getD .skip)) (by kernel_rfl) (by kernel_rfl) (args_slot _) (api_Timeout.B0_sound id0 w h)
  exact hc.mono fun e w' he => by
    obtain ⟨v, rfl, hv⟩ := he
    exact api_Timeout.RV_elim hv
def rlogm_state_clone.B0 (s : Option Addr) (w : World)   (R : Option Addr → World → Prop) : Prop :=
  Pn s fun a =>
  LdI .i64 a w.drew fun x7 =>
  Pn s fun a_1 =>
  LdI .i64 (a_1.add 1) w.drew fun x11 =>
  Pn s fun a_2 =>
  LdI .i64 (a_2.add 2) w.drew fun x15 =>
  Pn s fun a_3 =>
  LdI .i64 (a_3.add 3) w.drew fun x19 =>
  Pn s fun a_4 =>
  LdS (a_4.add 4) w.drew fun x23 =>
  Pn s fun a_5 =>
  LdI .i64 (a_5.add 5) w.drew fun x27 =>
  New (.cells #[.int .i64 x7, .int .i64 x11, .int .i64 x15, .int .i64 x19, .string x23, .int .i64 x27, .int .i64 (0 : Int), .string (ByteArray.mk #[]), .int .i64 (0 : Int), .string (ByteArray.mk #[]), .int .i64 (0 : Int), .string (ByteArray.mk #[]), .int .i64 (0 : Int), .string (ByteArray.mk #[]), .int .i64 (0 : Int), .string (ByteArray.mk #[]), .int .i64 (0 : Int), .string (ByteArray.mk #[])] 143) w.drew fun b29 w1 =>
  Pn s fun a_6 =>
  LdI .i64 (a_6.add 6) w1 fun x34_0 =>
  LdS ((a_6.add 6).add 1) w1 fun x34_1 =>
  LdI .i64 ((a_6.add 6).add 2) w1 fun x34_2 =>
  LdS ((a_6.add 6).add 3) w1 fun x34_3 =>
  LdI .i64 ((a_6.add 6).add 4) w1 fun x34_4 =>
  LdS ((a_6.add 6).add 5) w1 fun x34_5 =>
  LdI .i64 ((a_6.add 6).add 6) w1 fun x34_6 =>
  LdS ((a_6.add 6).add 7) w1 fun x34_7 =>
  LdI .i64 ((a_6.add 6).add 8) w1 fun x34_8 =>
  LdS ((a_6.add 6).add 9) w1 fun x34_9 =>
  LdI .i64 ((a_6.add 6).add 10) w1 fun x34_10 =>
  LdS ((a_6.add 6).add 11) w1 fun x34_11 =>
  Sts [.int .i64 x34_0, .string x34_1, .int .i64 x34_2, .string x34_3, .int .i64 x34_4, .string x34_5, .int .i64 x34_6, .string x34_7, .int .i64 x34_8, .string x34_9, .int .i64 x34_10, .string x34_11] ⟨b29, 6, none⟩ 0 w1 fun w2 =>
  R (some ⟨b29, 0, none⟩) w2
theorem rlogm_state_clone.B0_eq (s : Option Addr) (w : World)   (R : Option Addr → World → Prop)  :
    (
  Pn s fun a =>
  LdI .i64 a w.drew fun x7 =>
  Pn s fun a_1 =>
  LdI .i64 (a_1.add 1) w.drew fun x11 =>
  Pn s fun a_2 =>
  LdI .i64 (a_2.add 2) w.drew fun x15 =>
  Pn s fun a_3 =>
  LdI .i64 (a_3.add 3) w.drew fun x19 =>
  Pn s fun a_4 =>
  LdS (a_4.add 4) w.drew fun x23 =>
  Pn s fun a_5 =>
  LdI .i64 (a_5.add 5) w.drew fun x27 =>
  New (.cells #[.int .i64 x7, .int .i64 x11, .int .i64 x15, .int .i64 x19, .string x23, .int .i64 x27, .int .i64 (0 : Int), .string (ByteArray.mk #[]), .int .i64 (0 : Int), .string (ByteArray.mk #[]), .int .i64 (0 : Int), .string (ByteArray.mk #[]), .int .i64 (0 : Int), .string (ByteArray.mk #[]), .int .i64 (0 : Int), .string (ByteArray.mk #[]), .int .i64 (0 : Int), .string (ByteArray.mk #[])] 143) w.drew fun b29 w1 =>
  Pn s fun a_6 =>
  LdI .i64 (a_6.add 6) w1 fun x34_0 =>
  LdS ((a_6.add 6).add 1) w1 fun x34_1 =>
  LdI .i64 ((a_6.add 6).add 2) w1 fun x34_2 =>
  LdS ((a_6.add 6).add 3) w1 fun x34_3 =>
  LdI .i64 ((a_6.add 6).add 4) w1 fun x34_4 =>
  LdS ((a_6.add 6).add 5) w1 fun x34_5 =>
  LdI .i64 ((a_6.add 6).add 6) w1 fun x34_6 =>
  LdS ((a_6.add 6).add 7) w1 fun x34_7 =>
  LdI .i64 ((a_6.add 6).add 8) w1 fun x34_8 =>
  LdS ((a_6.add 6).add 9) w1 fun x34_9 =>
  LdI .i64 ((a_6.add 6).add 10) w1 fun x34_10 =>
  LdS ((a_6.add 6).add 11) w1 fun x34_11 =>
  Sts [.int .i64 x34_0, .string x34_1, .int .i64 x34_2, .string x34_3, .int .i64 x34_4, .string x34_5, .int .i64 x34_6, .string x34_7, .int .i64 x34_8, .string x34_9, .int .i64 x34_10, .string x34_11] ⟨b29, 6, none⟩ 0 w1 fun w2 =>
  R (some ⟨b29, 0, none⟩) w2) = kstep Tryz.prog 38 Tryz.f82.results.toList (Tryz.f82.body.getD .skip) (rlogm_state_clone.RV R) (kvc Tryz.prog 38 Tryz.f82.results.toList (Tryz.f82.body.getD .skip) (rlogm_state_clone.RV R) [] 2000) [(0, [])] [(0, .pointer s)] w := by kernel_rfl
theorem rlogm_state_clone.B0_sound {R : Option Addr → World → Prop}  (s : Option Addr) (w : World) (h : rlogm_state_clone.B0 s w   R) :
    KW Tryz.prog 82 38 (rlogm_state_clone.RV R) ([(0, [])].map (toItem (Tryz.f82.body.getD .skip))) [(0, .pointer s)] w := by
  exact block_spec Tryz.func82 Tryz.mixed stops_nil (Eq.mp (rlogm_state_clone.B0_eq s w   R ) h)
theorem rlogm_state_clone.sound (s : Option Addr) (w : World) (R : Option Addr → World → Prop) (h : rlogm_state_clone.B0 s w R) : rlogm_state_clone.Call s w R := by
  have hc := calls_of_block (args := #[.pointer s]) Tryz.func82 (body := (Tryz.f82.body.getD .skip)) (by kernel_rfl) (by kernel_rfl) (args_slot _) (rlogm_state_clone.B0_sound s w h)
  exact hc.mono fun e w' he => by
    obtain ⟨v, rfl, hv⟩ := he
    exact rlogm_state_clone.RV_elim hv
def rlogm_Log_Term.B0 (l : Option Addr) (w : World)   (R : Int → World → Prop) : Prop :=
  Pn l fun a =>
  LdP a w fun x6 =>
  Pn x6 fun a_1 =>
  LdI .i64 a_1 w fun x9 =>
  R x9 w
theorem rlogm_Log_Term.B0_eq (l : Option Addr) (w : World)   (R : Int → World → Prop)  :
    (
  Pn l fun a =>
  LdP a w fun x6 =>
  Pn x6 fun a_1 =>
  LdI .i64 a_1 w fun x9 =>
  R x9 w) = kstep Tryz.prog 10 Tryz.f83.results.toList (Tryz.f83.body.getD .skip) (rlogm_Log_Term.RV R) (kvc Tryz.prog 10 Tryz.f83.results.toList (Tryz.f83.body.getD .skip) (rlogm_Log_Term.RV R) [] 2000) [(0, [])] [(0, .pointer l)] w := by kernel_rfl
theorem rlogm_Log_Term.B0_sound {R : Int → World → Prop}  (l : Option Addr) (w : World) (h : rlogm_Log_Term.B0 l w   R) :
    KW Tryz.prog 83 10 (rlogm_Log_Term.RV R) ([(0, [])].map (toItem (Tryz.f83.body.getD .skip))) [(0, .pointer l)] w := by
  exact block_spec Tryz.func83 Tryz.mixed stops_nil (Eq.mp (rlogm_Log_Term.B0_eq l w   R ) h)
theorem rlogm_Log_Term.sound (l : Option Addr) (w : World) (R : Int → World → Prop) (h : rlogm_Log_Term.B0 l w R) : rlogm_Log_Term.Call l w R := by
  have hc := calls_of_block (args := #[.pointer l]) Tryz.func83 (body := (Tryz.f83.body.getD .skip)) (by kernel_rfl) (by kernel_rfl) (args_slot _) (rlogm_Log_Term.B0_sound l w h)
  exact hc.mono fun e w' he => by
    obtain ⟨v, rfl, hv⟩ := he
    exact rlogm_Log_Term.RV_elim hv
def rlogm_Log_Vote.B0 (l : Option Addr) (w : World)   (R : Int → World → Prop) : Prop :=
  Pn l fun a =>
  LdP a w fun x6 =>
  Pn x6 fun a_1 =>
  LdI .i64 (a_1.add 1) w fun x9 =>
  R x9 w
theorem rlogm_Log_Vote.B0_eq (l : Option Addr) (w : World)   (R : Int → World → Prop)  :
    (
  Pn l fun a =>
  LdP a w fun x6 =>
  Pn x6 fun a_1 =>
  LdI .i64 (a_1.add 1) w fun x9 =>
  R x9 w) = kstep Tryz.prog 10 Tryz.f84.results.toList (Tryz.f84.body.getD .skip) (rlogm_Log_Vote.RV R) (kvc Tryz.prog 10 Tryz.f84.results.toList (Tryz.f84.body.getD .skip) (rlogm_Log_Vote.RV R) [] 2000) [(0, [])] [(0, .pointer l)] w := by kernel_rfl
theorem rlogm_Log_Vote.B0_sound {R : Int → World → Prop}  (l : Option Addr) (w : World) (h : rlogm_Log_Vote.B0 l w   R) :
    KW Tryz.prog 84 10 (rlogm_Log_Vote.RV R) ([(0, [])].map (toItem (Tryz.f84.body.getD .skip))) [(0, .pointer l)] w := by
  exact block_spec Tryz.func84 Tryz.mixed stops_nil (Eq.mp (rlogm_Log_Vote.B0_eq l w   R ) h)
theorem rlogm_Log_Vote.sound (l : Option Addr) (w : World) (R : Int → World → Prop) (h : rlogm_Log_Vote.B0 l w R) : rlogm_Log_Vote.Call l w R := by
  have hc := calls_of_block (args := #[.pointer l]) Tryz.func84 (body := (Tryz.f84.body.getD .skip)) (by kernel_rfl) (by kernel_rfl) (args_slot _) (rlogm_Log_Vote.B0_sound l w h)
  exact hc.mono fun e w' he => by
    obtain ⟨v, rfl, hv⟩ := he
    exact rlogm_Log_Vote.RV_elim hv
def electm_Elect_Restore.B1 (e : Option Addr) (term vote : Int) (t20 : Bool) (w : World)   (R : Int → World → Prop) : Prop :=
  Bm t20 (
    R (1 : Int) w) (
    Pn e fun a =>
    Sts [.int .i64 term] (a.add 1) 0 w fun w1 =>
    Pn e fun a_1 =>
    Sts [.int .i64 vote] (a_1.add 2) 0 w1 fun w2 =>
    Pn e fun a_2 =>
    Sts [.int .i64 (0 : Int)] (a_2.add 3) 0 w2 fun w3 =>
    Pn e fun a_3 =>
    Sts [.int .i64 (-1 : Int)] (a_3.add 4) 0 w3 fun w4 =>
    Pn e fun a_4 =>
    Sts [.int .i64 (0 : Int)] (a_4.add 5) 0 w4 fun w5 =>
    Pn e fun a_5 =>
    Sts [.bool false, .bool false, .bool false] (a_5.add 6) 0 w5 fun w6 =>
    R (0 : Int) w6)
theorem electm_Elect_Restore.B1_eq (e : Option Addr) (term vote : Int) (t20 : Bool) (w : World)   (R : Int → World → Prop)  :
    (
  Bm t20 (
    R (1 : Int) w) (
    Pn e fun a =>
    Sts [.int .i64 term] (a.add 1) 0 w fun w1 =>
    Pn e fun a_1 =>
    Sts [.int .i64 vote] (a_1.add 2) 0 w1 fun w2 =>
    Pn e fun a_2 =>
    Sts [.int .i64 (0 : Int)] (a_2.add 3) 0 w2 fun w3 =>
    Pn e fun a_3 =>
    Sts [.int .i64 (-1 : Int)] (a_3.add 4) 0 w3 fun w4 =>
    Pn e fun a_4 =>
    Sts [.int .i64 (0 : Int)] (a_4.add 5) 0 w4 fun w5 =>
    Pn e fun a_5 =>
    Sts [.bool false, .bool false, .bool false] (a_5.add 6) 0 w5 fun w6 =>
    R (0 : Int) w6)) = kstep Tryz.prog 42 Tryz.f85.results.toList (Tryz.f85.body.getD .skip) (electm_Elect_Restore.RV R) (kvc Tryz.prog 42 Tryz.f85.results.toList (Tryz.f85.body.getD .skip) (electm_Elect_Restore.RV R) [] 2000) [(0, [1, 0, 1]), (0, [1, 1])] [(0, .pointer e), (1, .int .i64 term), (2, .int .i64 vote), (20, .bool t20)] w := by kernel_rfl
theorem electm_Elect_Restore.B1_sound {R : Int → World → Prop}  (e : Option Addr) (term vote : Int) (t20 : Bool) (w : World) (h : electm_Elect_Restore.B1 e term vote t20 w   R) :
    KW Tryz.prog 85 42 (electm_Elect_Restore.RV R) ([(0, [1, 0, 1]), (0, [1, 1])].map (toItem (Tryz.f85.body.getD .skip))) [(0, .pointer e), (1, .int .i64 term), (2, .int .i64 vote), (20, .bool t20)] w := by
  exact block_spec Tryz.func85 Tryz.mixed stops_nil (Eq.mp (electm_Elect_Restore.B1_eq e term vote t20 w   R ) h)
def electm_Elect_Restore.B0 (e : Option Addr) (term vote : Int) (w : World)   (R : Int → World → Prop) : Prop :=
  Bm (decide (term < (0 : Int))) (
    electm_Elect_Restore.B1 e term vote true w  R) (
    Bm (decide (term > (72057594037927936 : Int))) (
      electm_Elect_Restore.B1 e term vote true w  R) (
      Bm (decide (vote < (-1 : Int))) (
        electm_Elect_Restore.B1 e term vote true w  R) (
        electm_Elect_Restore.B1 e term vote (decide (vote ≥ (3 : Int))) w  R)))
theorem electm_Elect_Restore.B0_eq (e : Option Addr) (term vote : Int) (w : World)   (R : Int → World → Prop) (sB1 : Option Addr → Int → Int → Bool → World → Prop) :
    (
  Bm (decide (term < (0 : Int))) (
    sB1 e term vote true w) (
    Bm (decide (term > (72057594037927936 : Int))) (
      sB1 e term vote true w) (
      Bm (decide (vote < (-1 : Int))) (
        sB1 e term vote true w) (
        sB1 e term vote (decide (vote ≥ (3 : Int))) w)))) = kstep Tryz.prog 42 Tryz.f85.results.toList (Tryz.f85.body.getD .skip) (electm_Elect_Restore.RV R) (kvc Tryz.prog 42 Tryz.f85.results.toList (Tryz.f85.body.getD .skip) (electm_Elect_Restore.RV R) [([(0, [1, 0, 1]), (0, [1, 1])], fun σ w => dP (slotOf σ 0) fun e_ => dI .i64 (slotOf σ 1) fun term_ => dI .i64 (slotOf σ 2) fun vote_ => dB (slotOf σ 20) fun t20_ => sB1 e_ term_ vote_ t20_ w)] 2000) [(0, [])] [(0, .pointer e), (1, .int .i64 term), (2, .int .i64 vote)] w := by kernel_rfl
theorem electm_Elect_Restore.B0_sound {R : Int → World → Prop}  (e : Option Addr) (term vote : Int) (w : World) (h : electm_Elect_Restore.B0 e term vote w   R) :
    KW Tryz.prog 85 42 (electm_Elect_Restore.RV R) ([(0, [])].map (toItem (Tryz.f85.body.getD .skip))) [(0, .pointer e), (1, .int .i64 term), (2, .int .i64 vote)] w := by
  exact block_spec Tryz.func85 Tryz.mixed (stops_cons (fun σ w h => by
      obtain ⟨e_, e0, h⟩ := dP_elim h
      obtain ⟨term_, e1, h⟩ := dI_elim h
      obtain ⟨vote_, e2, h⟩ := dI_elim h
      obtain ⟨t20_, e3, h⟩ := dB_elim h
      exact (electm_Elect_Restore.B1_sound  e_ term_ vote_ t20_ w h).weaken (Sub.cons (Sub.cons (Sub.cons (Sub.cons (Sub.nil _) e3) e2) e1) e0)) stops_nil) (Eq.mp (electm_Elect_Restore.B0_eq e term vote w   R (fun e_ term_ vote_ t20_ w => electm_Elect_Restore.B1 e_ term_ vote_ t20_ w  R)) h)
theorem electm_Elect_Restore.sound (e : Option Addr) (term vote : Int) (w : World) (R : Int → World → Prop) (h : electm_Elect_Restore.B0 e term vote w R) : electm_Elect_Restore.Call e term vote w R := by
  have hc := calls_of_block (args := #[.pointer e, .int .i64 term, .int .i64 vote]) Tryz.func85 (body := (Tryz.f85.body.getD .skip)) (by kernel_rfl) (by kernel_rfl) (args_slot _) (electm_Elect_Restore.B0_sound e term vote w h)
  exact hc.mono fun e w' he => by
    obtain ⟨v, rfl, hv⟩ := he
    exact electm_Elect_Restore.RV_elim hv
def rlogm_Log_Base.B0 (l : Option Addr) (w : World)   (R : Int → World → Prop) : Prop :=
  Pn l fun a =>
  LdP a w fun x6 =>
  Pn x6 fun a_1 =>
  LdI .i64 (a_1.add 2) w fun x9 =>
  R x9 w
theorem rlogm_Log_Base.B0_eq (l : Option Addr) (w : World)   (R : Int → World → Prop)  :
    (
  Pn l fun a =>
  LdP a w fun x6 =>
  Pn x6 fun a_1 =>
  LdI .i64 (a_1.add 2) w fun x9 =>
  R x9 w) = kstep Tryz.prog 10 Tryz.f86.results.toList (Tryz.f86.body.getD .skip) (rlogm_Log_Base.RV R) (kvc Tryz.prog 10 Tryz.f86.results.toList (Tryz.f86.body.getD .skip) (rlogm_Log_Base.RV R) [] 2000) [(0, [])] [(0, .pointer l)] w := by kernel_rfl
theorem rlogm_Log_Base.B0_sound {R : Int → World → Prop}  (l : Option Addr) (w : World) (h : rlogm_Log_Base.B0 l w   R) :
    KW Tryz.prog 86 10 (rlogm_Log_Base.RV R) ([(0, [])].map (toItem (Tryz.f86.body.getD .skip))) [(0, .pointer l)] w := by
  exact block_spec Tryz.func86 Tryz.mixed stops_nil (Eq.mp (rlogm_Log_Base.B0_eq l w   R ) h)
theorem rlogm_Log_Base.sound (l : Option Addr) (w : World) (R : Int → World → Prop) (h : rlogm_Log_Base.B0 l w R) : rlogm_Log_Base.Call l w R := by
  have hc := calls_of_block (args := #[.pointer l]) Tryz.func86 (body := (Tryz.f86.body.getD .skip)) (by kernel_rfl) (by kernel_rfl) (args_slot _) (rlogm_Log_Base.B0_sound l w h)
  exact hc.mono fun e w' he => by
    obtain ⟨v, rfl, hv⟩ := he
    exact rlogm_Log_Base.RV_elim hv
def rlog_Log_At.B0 (l : Option Addr) (i : Int) (w : World)   (R : Int → ByteArray → Int → World → Prop) : Prop :=
  New (.cells #[.int .i64 (0 : Int), .string (ByteArray.mk #[])] 103) w fun b4 w1 =>
  Pn l fun a =>
  LdI .i64 (a.add 3) w1 fun x11 =>
  Bm (decide (i ≤ x11)) (
    Sts [.int .i64 (0 : Int), .string (ByteArray.mk #[])] ⟨b4, 0, none⟩ 0 w1 fun w2 =>
    LdI .i64 ⟨b4, 0, none⟩ w2 fun r_0 =>
    LdS ⟨b4, 1, none⟩ w2 fun r_1 =>
    R r_0 r_1 (7 : Int) w2) (
    Pn l fun a_1 =>
    LdI .i64 (a_1.add 6) w1 fun x18 =>
    Bm (decide (i > x18)) (
      Sts [.int .i64 (0 : Int), .string (ByteArray.mk #[])] ⟨b4, 0, none⟩ 0 w1 fun w3 =>
      LdI .i64 ⟨b4, 0, none⟩ w3 fun r_0_1 =>
      LdS ⟨b4, 1, none⟩ w3 fun r_1_1 =>
      R r_0_1 r_1_1 (2 : Int) w3) (
      rlog_slotOf.Call i w1 fun r22 w4 =>
      Pn l fun a_2 =>
      (0 ≤ r22 ∧ r22 < ((6 : Nat) : Int)) ∧
      LdI .i64 (Addr.add (a_2.add 7) (r22.toNat * 1)) w4.drew fun x28 =>
      Pn l fun a_3 =>
      (0 ≤ r22 ∧ r22 < ((6 : Nat) : Int)) ∧
      LdS (Addr.add (a_3.add 13) (r22.toNat * 1)) w4.drew fun x34 =>
      Sts [.int .i64 x28, .string x34] ⟨b4, 0, none⟩ 0 w4.drew fun w5 =>
      LdI .i64 ⟨b4, 0, none⟩ w5 fun r_0_2 =>
      LdS ⟨b4, 1, none⟩ w5 fun r_1_2 =>
      R r_0_2 r_1_2 (0 : Int) w5))
theorem rlog_Log_At.B0_eq (l : Option Addr) (i : Int) (w : World)   (R : Int → ByteArray → Int → World → Prop)  :
    (
  New (.cells #[.int .i64 (0 : Int), .string (ByteArray.mk #[])] 103) w fun b4 w1 =>
  Pn l fun a =>
  LdI .i64 (a.add 3) w1 fun x11 =>
  Bm (decide (i ≤ x11)) (
    Sts [.int .i64 (0 : Int), .string (ByteArray.mk #[])] ⟨b4, 0, none⟩ 0 w1 fun w2 =>
    LdI .i64 ⟨b4, 0, none⟩ w2 fun r_0 =>
    LdS ⟨b4, 1, none⟩ w2 fun r_1 =>
    R r_0 r_1 (7 : Int) w2) (
    Pn l fun a_1 =>
    LdI .i64 (a_1.add 6) w1 fun x18 =>
    Bm (decide (i > x18)) (
      Sts [.int .i64 (0 : Int), .string (ByteArray.mk #[])] ⟨b4, 0, none⟩ 0 w1 fun w3 =>
      LdI .i64 ⟨b4, 0, none⟩ w3 fun r_0_1 =>
      LdS ⟨b4, 1, none⟩ w3 fun r_1_1 =>
      R r_0_1 r_1_1 (2 : Int) w3) (
      rlog_slotOf.Call i w1 fun r22 w4 =>
      Pn l fun a_2 =>
      (0 ≤ r22 ∧ r22 < ((6 : Nat) : Int)) ∧
      LdI .i64 (Addr.add (a_2.add 7) (r22.toNat * 1)) w4.drew fun x28 =>
      Pn l fun a_3 =>
      (0 ≤ r22 ∧ r22 < ((6 : Nat) : Int)) ∧
      LdS (Addr.add (a_3.add 13) (r22.toNat * 1)) w4.drew fun x34 =>
      Sts [.int .i64 x28, .string x34] ⟨b4, 0, none⟩ 0 w4.drew fun w5 =>
      LdI .i64 ⟨b4, 0, none⟩ w5 fun r_0_2 =>
      LdS ⟨b4, 1, none⟩ w5 fun r_1_2 =>
      R r_0_2 r_1_2 (0 : Int) w5))) = kstep Tryz.prog 36 Tryz.f87.results.toList (Tryz.f87.body.getD .skip) (rlog_Log_At.RV R) (kvc Tryz.prog 36 Tryz.f87.results.toList (Tryz.f87.body.getD .skip) (rlog_Log_At.RV R) [] 2000) [(0, [])] [(0, .pointer l), (1, .int .i64 i)] w := by kernel_rfl
theorem rlog_Log_At.B0_sound {R : Int → ByteArray → Int → World → Prop}  (l : Option Addr) (i : Int) (w : World) (h : rlog_Log_At.B0 l i w   R) :
    KW Tryz.prog 87 36 (rlog_Log_At.RV R) ([(0, [])].map (toItem (Tryz.f87.body.getD .skip))) [(0, .pointer l), (1, .int .i64 i)] w := by
  exact block_spec Tryz.func87 Tryz.mixed stops_nil (Eq.mp (rlog_Log_At.B0_eq l i w   R ) h)
theorem rlog_Log_At.sound (l : Option Addr) (i : Int) (w : World) (R : Int → ByteArray → Int → World → Prop) (h : rlog_Log_At.B0 l i w R) : rlog_Log_At.Call l i w R := by
  have hc := calls_of_block (args := #[.pointer l, .int .i64 i]) Tryz.func87 (body := (Tryz.f87.body.getD .skip)) (by kernel_rfl) (by kernel_rfl) (args_slot _) (rlog_Log_At.B0_sound l i w h)
  exact hc.mono fun e w' he => by
    obtain ⟨v, rfl, hv⟩ := he
    exact rlog_Log_At.RV_elim hv
def sync_Sync_View.L1b (s : Option Addr) (v : Nat) (p : Int) (w : World)  (N1 : Option Addr → Nat → Int → World → Prop) (R : Option Addr → World → Prop) : Prop :=
  Bm (decide (p < (3 : Int))) (
    Pn s fun a =>
    LdP (a.add 1) w.drew fun x64 =>
    elect_Elect_Got.Call x64 p w.drew fun r66 w1 =>
    (0 ≤ p ∧ p < ((3 : Nat) : Int)) ∧
    Sts [.bool r66] (Addr.add ⟨v, 6, none⟩ (p.toNat * 1)) 0 w1 fun w2 =>
    N1 s v (IntKind.i64.wrap (p + (1 : Int))) w2) (
    Pn s fun a_1 =>
    LdI .i64 (a_1.add 2) w fun x74 =>
    Sts [.int .i64 x74] ⟨v, 9, none⟩ 0 w fun w3 =>
    Pn s fun a_2 =>
    LdP a_2 w3 fun x81 =>
    rlog_Log_Base.Call x81 w3 fun r82 w4 =>
    Sts [.int .i64 r82] ⟨v, 10, none⟩ 0 w4 fun w5 =>
    Pn s fun a_3 =>
    LdP a_3 w5 fun x89 =>
    rlog_Log_BaseTerm.Call x89 w5 fun r90 w6 =>
    Sts [.int .i64 r90] ⟨v, 11, none⟩ 0 w6 fun w7 =>
    Pn s fun a_4 =>
    LdI .i64 (a_4.add 9) w7 fun x97 =>
    Sts [.int .i64 x97] ⟨v, 12, none⟩ 0 w7 fun w8 =>
    Pn s fun a_5 =>
    LdP a_5 w8 fun x104 =>
    rlog_Log_Snap.Call x104 w8 fun r105 w9 =>
    Sts [.string r105] ⟨v, 13, none⟩ 0 w9 fun w10 =>
    Pn s fun a_6 =>
    LdI .i64 (a_6.add 3) w10 fun x112_0 =>
    LdI .i64 ((a_6.add 3).add 1) w10 fun x112_1 =>
    LdI .i64 ((a_6.add 3).add 2) w10 fun x112_2 =>
    Sts [.int .i64 x112_0, .int .i64 x112_1, .int .i64 x112_2] ⟨v, 14, none⟩ 0 w10 fun w11 =>
    Pn s fun a_7 =>
    LdI .i64 (a_7.add 6) w11 fun x119_0 =>
    LdI .i64 ((a_7.add 6).add 1) w11 fun x119_1 =>
    LdI .i64 ((a_7.add 6).add 2) w11 fun x119_2 =>
    Sts [.int .i64 x119_0, .int .i64 x119_1, .int .i64 x119_2] ⟨v, 17, none⟩ 0 w11 fun w12 =>
    R (some ⟨v, 0, none⟩) w12)
theorem sync_Sync_View.L1b_eq (s : Option Addr) (v : Nat) (p : Int) (w : World)  (N1 : Option Addr → Nat → Int → World → Prop) (R : Option Addr → World → Prop)  :
    (
  Bm (decide (p < (3 : Int))) (
    Pn s fun a =>
    LdP (a.add 1) w.drew fun x64 =>
    elect_Elect_Got.Call x64 p w.drew fun r66 w1 =>
    (0 ≤ p ∧ p < ((3 : Nat) : Int)) ∧
    Sts [.bool r66] (Addr.add ⟨v, 6, none⟩ (p.toNat * 1)) 0 w1 fun w2 =>
    N1 s v (IntKind.i64.wrap (p + (1 : Int))) w2) (
    Pn s fun a_1 =>
    LdI .i64 (a_1.add 2) w fun x74 =>
    Sts [.int .i64 x74] ⟨v, 9, none⟩ 0 w fun w3 =>
    Pn s fun a_2 =>
    LdP a_2 w3 fun x81 =>
    rlog_Log_Base.Call x81 w3 fun r82 w4 =>
    Sts [.int .i64 r82] ⟨v, 10, none⟩ 0 w4 fun w5 =>
    Pn s fun a_3 =>
    LdP a_3 w5 fun x89 =>
    rlog_Log_BaseTerm.Call x89 w5 fun r90 w6 =>
    Sts [.int .i64 r90] ⟨v, 11, none⟩ 0 w6 fun w7 =>
    Pn s fun a_4 =>
    LdI .i64 (a_4.add 9) w7 fun x97 =>
    Sts [.int .i64 x97] ⟨v, 12, none⟩ 0 w7 fun w8 =>
    Pn s fun a_5 =>
    LdP a_5 w8 fun x104 =>
    rlog_Log_Snap.Call x104 w8 fun r105 w9 =>
    Sts [.string r105] ⟨v, 13, none⟩ 0 w9 fun w10 =>
    Pn s fun a_6 =>
    LdI .i64 (a_6.add 3) w10 fun x112_0 =>
    LdI .i64 ((a_6.add 3).add 1) w10 fun x112_1 =>
    LdI .i64 ((a_6.add 3).add 2) w10 fun x112_2 =>
    Sts [.int .i64 x112_0, .int .i64 x112_1, .int .i64 x112_2] ⟨v, 14, none⟩ 0 w10 fun w11 =>
    Pn s fun a_7 =>
    LdI .i64 (a_7.add 6) w11 fun x119_0 =>
    LdI .i64 ((a_7.add 6).add 1) w11 fun x119_1 =>
    LdI .i64 ((a_7.add 6).add 2) w11 fun x119_2 =>
    Sts [.int .i64 x119_0, .int .i64 x119_1, .int .i64 x119_2] ⟨v, 17, none⟩ 0 w11 fun w12 =>
    R (some ⟨v, 0, none⟩) w12)) = kstep Tryz.prog 123 Tryz.f88.results.toList (Tryz.f88.body.getD .skip) (sync_Sync_View.RV R) (kvc Tryz.prog 123 Tryz.f88.results.toList (Tryz.f88.body.getD .skip) (sync_Sync_View.RV R) [([(0, [1, 1, 1, 1, 1, 1, 1, 1, 0, 1, 0, 0]), (2, [1, 1, 1, 1, 1, 1, 1, 1, 0, 1, 0, 0]), (1, [0]), (0, [1, 1, 1, 1, 1, 1, 1, 1, 1])], fun σ w => dP (slotOf σ 0) fun s_ => dK (slotOf σ 3) fun v_ => dI .i64 (slotOf σ 4) fun p_ => N1 s_ v_ p_ w)] 2000) [(0, [1, 1, 1, 1, 1, 1, 1, 1, 0, 1, 0, 0]), (2, [1, 1, 1, 1, 1, 1, 1, 1, 0, 1, 0, 0]), (1, [0]), (0, [1, 1, 1, 1, 1, 1, 1, 1, 1])] [(0, .pointer s), (3, .pointer (some ⟨v, 0, none⟩)), (4, .int .i64 p)] w := by kernel_rfl
theorem sync_Sync_View.L1b_sound {R : Option Addr → World → Prop} {N1 : Option Addr → Nat → Int → World → Prop} (hN1 : ∀ s v p w, N1 s v p w → KW Tryz.prog 88 123 (sync_Sync_View.RV R) ([(0, [1, 1, 1, 1, 1, 1, 1, 1, 0, 1, 0, 0]), (2, [1, 1, 1, 1, 1, 1, 1, 1, 0, 1, 0, 0]), (1, [0]), (0, [1, 1, 1, 1, 1, 1, 1, 1, 1])].map (toItem (Tryz.f88.body.getD .skip))) [(0, .pointer s), (3, .pointer (some ⟨v, 0, none⟩)), (4, .int .i64 p)] w) (s : Option Addr) (v : Nat) (p : Int) (w : World) (h : sync_Sync_View.L1b s v p w  N1 R) :
    KW Tryz.prog 88 123 (sync_Sync_View.RV R) ([(0, [1, 1, 1, 1, 1, 1, 1, 1, 0, 1, 0, 0]), (2, [1, 1, 1, 1, 1, 1, 1, 1, 0, 1, 0, 0]), (1, [0]), (0, [1, 1, 1, 1, 1, 1, 1, 1, 1])].map (toItem (Tryz.f88.body.getD .skip))) [(0, .pointer s), (3, .pointer (some ⟨v, 0, none⟩)), (4, .int .i64 p)] w := by
  exact block_spec Tryz.func88 Tryz.mixed (stops_cons (fun σ w h => by
      obtain ⟨s_, e0, h⟩ := dP_elim h
      obtain ⟨v_, e1, h⟩ := dK_elim h
      obtain ⟨p_, e2, h⟩ := dI_elim h
      exact (hN1 s_ v_ p_ w h).weaken (Sub.cons (Sub.cons (Sub.cons (Sub.nil _) e2) e1) e0)) stops_nil) (Eq.mp (sync_Sync_View.L1b_eq s v p w  N1 R ) h)
def sync_Sync_View.L1 (s : Option Addr) (v : Nat) (p : Int) (w : World)  (R : Option Addr → World → Prop) : Prop :=
  ∃ (I : Nat → Option Addr → Nat → Int → World → Prop) (m : Nat), I m s v p w ∧ ∀ m s v p w, I m s v p w → sync_Sync_View.L1b s v p w  (fun s' v' p' w' => ∃ m', m' < m ∧ I m' s' v' p' w') R
theorem sync_Sync_View.L1_sound {R : Option Addr → World → Prop}  (s : Option Addr) (v : Nat) (p : Int) (w : World) (h : sync_Sync_View.L1 s v p w  R) :
    KW Tryz.prog 88 123 (sync_Sync_View.RV R) ([(0, [1, 1, 1, 1, 1, 1, 1, 1, 0, 1, 0, 0]), (2, [1, 1, 1, 1, 1, 1, 1, 1, 0, 1, 0, 0]), (1, [0]), (0, [1, 1, 1, 1, 1, 1, 1, 1, 1])].map (toItem (Tryz.f88.body.getD .skip))) [(0, .pointer s), (3, .pointer (some ⟨v, 0, none⟩)), (4, .int .i64 p)] w := by
  obtain ⟨I, m, hBase, hr⟩ := h
  refine KW.loop (fun m σ w => ∃ (s : Option Addr) (v : Nat) (p : Int), σ = [(0, .pointer s), (3, .pointer (some ⟨v, 0, none⟩)), (4, .int .i64 p)] ∧ I m s v p w) ?_ m _ w ⟨s, v, p, rfl, hBase⟩
  rintro m ih σ w ⟨s, v, p, rfl, hI⟩
  exact sync_Sync_View.L1b_sound  (N1 := fun s' v' p' w' => ∃ m', m' < m ∧ I m' s' v' p' w') (fun s' v' p' w' hx => by obtain ⟨m', hlt, hI'⟩ := hx; exact ih m' hlt _ w' ⟨s', v', p', rfl, hI'⟩) s v p w (hr m s v p w hI)
def sync_Sync_View.B0 (s : Option Addr) (w : World)   (R : Option Addr → World → Prop) : Prop :=
  New (.cells #[.int .i64 (0 : Int), .int .i64 (0 : Int), .int .i64 (0 : Int), .int .i64 (0 : Int), .int .i64 (0 : Int), .int .i64 (0 : Int), .bool false, .bool false, .bool false, .int .i64 (0 : Int), .int .i64 (0 : Int), .int .i64 (0 : Int), .int .i64 (0 : Int), .string (ByteArray.mk #[]), .int .i64 (0 : Int), .int .i64 (0 : Int), .int .i64 (0 : Int), .int .i64 (0 : Int), .int .i64 (0 : Int), .int .i64 (0 : Int)] 95) w fun b6 w1 =>
  Pn s fun a =>
  LdP (a.add 1) w1 fun x11 =>
  elect_Elect_Id.Call x11 w1 fun r12 w2 =>
  Sts [.int .i64 r12] ⟨b6, 0, none⟩ 0 w2 fun w3 =>
  Pn s fun a_1 =>
  LdP (a_1.add 1) w3 fun x19 =>
  elect_Elect_Term.Call x19 w3 fun r20 w4 =>
  Sts [.int .i64 r20] ⟨b6, 1, none⟩ 0 w4 fun w5 =>
  Pn s fun a_2 =>
  LdP (a_2.add 1) w5 fun x27 =>
  elect_Elect_Vote.Call x27 w5 fun r28 w6 =>
  Sts [.int .i64 r28] ⟨b6, 2, none⟩ 0 w6 fun w7 =>
  Pn s fun a_3 =>
  LdP (a_3.add 1) w7 fun x35 =>
  elect_Elect_Role.Call x35 w7 fun r36 w8 =>
  Sts [.int .i64 r36] ⟨b6, 3, none⟩ 0 w8 fun w9 =>
  Pn s fun a_4 =>
  LdP (a_4.add 1) w9 fun x43 =>
  elect_Elect_Leader.Call x43 w9 fun r44 w10 =>
  Sts [.int .i64 r44] ⟨b6, 4, none⟩ 0 w10 fun w11 =>
  Pn s fun a_5 =>
  LdP (a_5.add 1) w11 fun x51 =>
  elect_Elect_Clock.Call x51 w11 fun r52 w12 =>
  Sts [.int .i64 r52] ⟨b6, 5, none⟩ 0 w12 fun w13 =>
  sync_Sync_View.L1 s b6 (0 : Int) w13  R
theorem sync_Sync_View.B0_eq (s : Option Addr) (w : World)   (R : Option Addr → World → Prop) (sL1 : Option Addr → Nat → Int → World → Prop) :
    (
  New (.cells #[.int .i64 (0 : Int), .int .i64 (0 : Int), .int .i64 (0 : Int), .int .i64 (0 : Int), .int .i64 (0 : Int), .int .i64 (0 : Int), .bool false, .bool false, .bool false, .int .i64 (0 : Int), .int .i64 (0 : Int), .int .i64 (0 : Int), .int .i64 (0 : Int), .string (ByteArray.mk #[]), .int .i64 (0 : Int), .int .i64 (0 : Int), .int .i64 (0 : Int), .int .i64 (0 : Int), .int .i64 (0 : Int), .int .i64 (0 : Int)] 95) w fun b6 w1 =>
  Pn s fun a =>
  LdP (a.add 1) w1 fun x11 =>
  elect_Elect_Id.Call x11 w1 fun r12 w2 =>
  Sts [.int .i64 r12] ⟨b6, 0, none⟩ 0 w2 fun w3 =>
  Pn s fun a_1 =>
  LdP (a_1.add 1) w3 fun x19 =>
  elect_Elect_Term.Call x19 w3 fun r20 w4 =>
  Sts [.int .i64 r20] ⟨b6, 1, none⟩ 0 w4 fun w5 =>
  Pn s fun a_2 =>
  LdP (a_2.add 1) w5 fun x27 =>
  elect_Elect_Vote.Call x27 w5 fun r28 w6 =>
  Sts [.int .i64 r28] ⟨b6, 2, none⟩ 0 w6 fun w7 =>
  Pn s fun a_3 =>
  LdP (a_3.add 1) w7 fun x35 =>
  elect_Elect_Role.Call x35 w7 fun r36 w8 =>
  Sts [.int .i64 r36] ⟨b6, 3, none⟩ 0 w8 fun w9 =>
  Pn s fun a_4 =>
  LdP (a_4.add 1) w9 fun x43 =>
  elect_Elect_Leader.Call x43 w9 fun r44 w10 =>
  Sts [.int .i64 r44] ⟨b6, 4, none⟩ 0 w10 fun w11 =>
  Pn s fun a_5 =>
  LdP (a_5.add 1) w11 fun x51 =>
  elect_Elect_Clock.Call x51 w11 fun r52 w12 =>
  Sts [.int .i64 r52] ⟨b6, 5, none⟩ 0 w12 fun w13 =>
  sL1 s b6 (0 : Int) w13) = kstep Tryz.prog 123 Tryz.f88.results.toList (Tryz.f88.body.getD .skip) (sync_Sync_View.RV R) (kvc Tryz.prog 123 Tryz.f88.results.toList (Tryz.f88.body.getD .skip) (sync_Sync_View.RV R) [([(0, [1, 1, 1, 1, 1, 1, 1, 1, 0, 1, 0, 0]), (2, [1, 1, 1, 1, 1, 1, 1, 1, 0, 1, 0, 0]), (1, [0]), (0, [1, 1, 1, 1, 1, 1, 1, 1, 1])], fun σ w => dP (slotOf σ 0) fun s_ => dK (slotOf σ 3) fun v_ => dI .i64 (slotOf σ 4) fun p_ => sL1 s_ v_ p_ w)] 2000) [(0, [])] [(0, .pointer s)] w := by kernel_rfl
theorem sync_Sync_View.B0_sound {R : Option Addr → World → Prop}  (s : Option Addr) (w : World) (h : sync_Sync_View.B0 s w   R) :
    KW Tryz.prog 88 123 (sync_Sync_View.RV R) ([(0, [])].map (toItem (Tryz.f88.body.getD .skip))) [(0, .pointer s)] w := by
  exact block_spec Tryz.func88 Tryz.mixed (stops_cons (fun σ w h => by
      obtain ⟨s_, e0, h⟩ := dP_elim h
      obtain ⟨v_, e1, h⟩ := dK_elim h
      obtain ⟨p_, e2, h⟩ := dI_elim h
      exact (sync_Sync_View.L1_sound  s_ v_ p_ w h).weaken (Sub.cons (Sub.cons (Sub.cons (Sub.nil _) e2) e1) e0)) stops_nil) (Eq.mp (sync_Sync_View.B0_eq s w   R (fun s_ v_ p_ w => sync_Sync_View.L1 s_ v_ p_ w  R)) h)
theorem sync_Sync_View.sound (s : Option Addr) (w : World) (R : Option Addr → World → Prop) (h : sync_Sync_View.B0 s w R) : sync_Sync_View.Call s w R := by
  have hc := calls_of_block (args := #[.pointer s]) Tryz.func88 (body := (Tryz.f88.body.getD .skip)) (by kernel_rfl) (by kernel_rfl) (args_slot _) (sync_Sync_View.B0_sound s w h)
  exact hc.mono fun e w' he => by
    obtain ⟨v, rfl, hv⟩ := he
    exact sync_Sync_View.RV_elim hv
end Go.Proofs.Qxb6500433aGreat
