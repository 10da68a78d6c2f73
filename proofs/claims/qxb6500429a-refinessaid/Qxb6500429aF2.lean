import Derived.Test.Qxb6500429aSig
set_option maxRecDepth 100000
set_option linter.unusedVariables false
open Go.Vc
namespace Go.Proofs.Qxb6500429a
def kvlaw_AlikeKeys.L1b (x m0 : Option Addr) (n i : Int) (w : World)  (N1 : Option Addr → Option Addr → Int → Int → World → Prop) (R : Bool → World → Prop) : Prop :=
  Bm (decide (i ≤ n)) (
    kvlaw_SameKeyAt.Call x m0 i w fun r19 w1 =>
    Bm (!r19) (
      R false w1) (
      kvm_KV_KeyAt.Call m0 i w1 fun r24 w2 =>
      kvlaw_SameVal.Call x m0 r24 w2 fun r28 w3 =>
      Bm (!r28) (
        R false w3) (
        N1 x m0 n (IntKind.i64.wrap (i + (1 : Int))) w3))) (
    R true w)
theorem kvlaw_AlikeKeys.L1b_eq (x m0 : Option Addr) (n i : Int) (w : World)  (N1 : Option Addr → Option Addr → Int → Int → World → Prop) (R : Bool → World → Prop)  :
    (
  Bm (decide (i ≤ n)) (
    kvlaw_SameKeyAt.Call x m0 i w fun r19 w1 =>
    Bm (!r19) (
      R false w1) (
      kvm_KV_KeyAt.Call m0 i w1 fun r24 w2 =>
      kvlaw_SameVal.Call x m0 r24 w2 fun r28 w3 =>
      Bm (!r28) (
        R false w3) (
        N1 x m0 n (IntKind.i64.wrap (i + (1 : Int))) w3))) (
    R true w)) = kstep Try.prog 31 Try.f18.results.toList (Try.f18.body.getD .skip) (kvlaw_AlikeKeys.RV R) (kvc Try.prog 31 Try.f18.results.toList (Try.f18.body.getD .skip) (kvlaw_AlikeKeys.RV R) [([(0, [1, 1, 0, 1, 0, 0]), (2, [1, 1, 0, 1, 0, 0]), (1, [0]), (0, [1, 1, 1])], fun σ w => dP (slotOf σ 0) fun x_ => dP (slotOf σ 1) fun m0_ => dI .i64 (slotOf σ 5) fun n_ => dI .i64 (slotOf σ 6) fun i_ => N1 x_ m0_ n_ i_ w)] 2000) [(0, [1, 1, 0, 1, 0, 0]), (2, [1, 1, 0, 1, 0, 0]), (1, [0]), (0, [1, 1, 1])] [(0, .pointer x), (1, .pointer m0), (5, .int .i64 n), (6, .int .i64 i)] w := by kernel_rfl
theorem kvlaw_AlikeKeys.L1b_sound {R : Bool → World → Prop} {N1 : Option Addr → Option Addr → Int → Int → World → Prop} (hN1 : ∀ x m0 n i w, N1 x m0 n i w → KW Try.prog 18 31 (kvlaw_AlikeKeys.RV R) ([(0, [1, 1, 0, 1, 0, 0]), (2, [1, 1, 0, 1, 0, 0]), (1, [0]), (0, [1, 1, 1])].map (toItem (Try.f18.body.getD .skip))) [(0, .pointer x), (1, .pointer m0), (5, .int .i64 n), (6, .int .i64 i)] w) (x m0 : Option Addr) (n i : Int) (w : World) (h : kvlaw_AlikeKeys.L1b x m0 n i w  N1 R) :
    KW Try.prog 18 31 (kvlaw_AlikeKeys.RV R) ([(0, [1, 1, 0, 1, 0, 0]), (2, [1, 1, 0, 1, 0, 0]), (1, [0]), (0, [1, 1, 1])].map (toItem (Try.f18.body.getD .skip))) [(0, .pointer x), (1, .pointer m0), (5, .int .i64 n), (6, .int .i64 i)] w := by
  exact block_spec Try.func18 Try.mixed (stops_cons (fun σ w h => by
      obtain ⟨x_, e0, h⟩ := dP_elim h
      obtain ⟨m0_, e1, h⟩ := dP_elim h
      obtain ⟨n_, e2, h⟩ := dI_elim h
      obtain ⟨i_, e3, h⟩ := dI_elim h
      exact (hN1 x_ m0_ n_ i_ w h).weaken (Sub.cons (Sub.cons (Sub.cons (Sub.cons (Sub.nil _) e3) e2) e1) e0)) stops_nil) (Eq.mp (kvlaw_AlikeKeys.L1b_eq x m0 n i w  N1 R ) h)
def kvlaw_AlikeKeys.L1 (x m0 : Option Addr) (n i : Int) (w : World)  (R : Bool → World → Prop) : Prop :=
  ∃ (I : Nat → Option Addr → Option Addr → Int → Int → World → Prop) (m : Nat), I m x m0 n i w ∧ ∀ m x m0 n i w, I m x m0 n i w → kvlaw_AlikeKeys.L1b x m0 n i w  (fun x' m0' n' i' w' => ∃ m', m' < m ∧ I m' x' m0' n' i' w') R
theorem kvlaw_AlikeKeys.L1_sound {R : Bool → World → Prop}  (x m0 : Option Addr) (n i : Int) (w : World) (h : kvlaw_AlikeKeys.L1 x m0 n i w  R) :
    KW Try.prog 18 31 (kvlaw_AlikeKeys.RV R) ([(0, [1, 1, 0, 1, 0, 0]), (2, [1, 1, 0, 1, 0, 0]), (1, [0]), (0, [1, 1, 1])].map (toItem (Try.f18.body.getD .skip))) [(0, .pointer x), (1, .pointer m0), (5, .int .i64 n), (6, .int .i64 i)] w := by
  obtain ⟨I, m, hBase, hr⟩ := h
  refine KW.loop (fun m σ w => ∃ (x m0 : Option Addr) (n i : Int), σ = [(0, .pointer x), (1, .pointer m0), (5, .int .i64 n), (6, .int .i64 i)] ∧ I m x m0 n i w) ?_ m _ w ⟨x, m0, n, i, rfl, hBase⟩
  rintro m ih σ w ⟨x, m0, n, i, rfl, hI⟩
  exact kvlaw_AlikeKeys.L1b_sound  (N1 := fun x' m0' n' i' w' => ∃ m', m' < m ∧ I m' x' m0' n' i' w') (fun x' m0' n' i' w' hx => by obtain ⟨m', hlt, hI'⟩ := hx; exact ih m' hlt _ w' ⟨x', m0', n', i', rfl, hI'⟩) x m0 n i w (hr m x m0 n i w hI)
def kvlaw_AlikeKeys.B0 (x m0 : Option Addr) (w : World)   (R : Bool → World → Prop) : Prop :=
  kvm_KV_Len.Call m0 w fun r10 w1 =>
  kvlaw_AlikeKeys.L1 x m0 r10 (-1 : Int) w1  R
theorem kvlaw_AlikeKeys.B0_eq (x m0 : Option Addr) (w : World)   (R : Bool → World → Prop) (sL1 : Option Addr → Option Addr → Int → Int → World → Prop) :
    (
  kvm_KV_Len.Call m0 w fun r10 w1 =>
  sL1 x m0 r10 (-1 : Int) w1) = kstep Try.prog 31 Try.f18.results.toList (Try.f18.body.getD .skip) (kvlaw_AlikeKeys.RV R) (kvc Try.prog 31 Try.f18.results.toList (Try.f18.body.getD .skip) (kvlaw_AlikeKeys.RV R) [([(0, [1, 1, 0, 1, 0, 0]), (2, [1, 1, 0, 1, 0, 0]), (1, [0]), (0, [1, 1, 1])], fun σ w => dP (slotOf σ 0) fun x_ => dP (slotOf σ 1) fun m0_ => dI .i64 (slotOf σ 5) fun n_ => dI .i64 (slotOf σ 6) fun i_ => sL1 x_ m0_ n_ i_ w)] 2000) [(0, [])] [(0, .pointer x), (1, .pointer m0)] w := by kernel_rfl
theorem kvlaw_AlikeKeys.B0_sound {R : Bool → World → Prop}  (x m0 : Option Addr) (w : World) (h : kvlaw_AlikeKeys.B0 x m0 w   R) :
    KW Try.prog 18 31 (kvlaw_AlikeKeys.RV R) ([(0, [])].map (toItem (Try.f18.body.getD .skip))) [(0, .pointer x), (1, .pointer m0)] w := by
  exact block_spec Try.func18 Try.mixed (stops_cons (fun σ w h => by
      obtain ⟨x_, e0, h⟩ := dP_elim h
      obtain ⟨m0_, e1, h⟩ := dP_elim h
      obtain ⟨n_, e2, h⟩ := dI_elim h
      obtain ⟨i_, e3, h⟩ := dI_elim h
      exact (kvlaw_AlikeKeys.L1_sound  x_ m0_ n_ i_ w h).weaken (Sub.cons (Sub.cons (Sub.cons (Sub.cons (Sub.nil _) e3) e2) e1) e0)) stops_nil) (Eq.mp (kvlaw_AlikeKeys.B0_eq x m0 w   R (fun x_ m0_ n_ i_ w => kvlaw_AlikeKeys.L1 x_ m0_ n_ i_ w  R)) h)
theorem kvlaw_AlikeKeys.sound (x m0 : Option Addr) (w : World) (R : Bool → World → Prop) (h : kvlaw_AlikeKeys.B0 x m0 w R) : kvlaw_AlikeKeys.Call x m0 w R := by
  have hc := calls_of_block (args := #[.pointer x, .pointer m0]) Try.func18 (body := (Try.f18.body.getD .skip)) (by kernel_rfl) (by kernel_rfl) (args_slot _) (kvlaw_AlikeKeys.B0_sound x m0 w h)
  exact hc.mono fun e w' he => by
    obtain ⟨v, rfl, hv⟩ := he
    exact kvlaw_AlikeKeys.RV_elim hv
def kvlaw_SameVal.B0 (x m0 : Option Addr) (key : ByteArray) (w : World)   (R : Bool → World → Prop) : Prop :=
  kv_KV_Val.Call x key w fun r14_0 r14_1 w1 =>
  kvm_KV_Val.Call m0 key w1 fun r20_0 r20_1 w2 =>
  Bm (r14_0.toList == r20_0.toList) (
    R (r14_1 == r20_1) w2) (
    R false w2)
theorem kvlaw_SameVal.B0_eq (x m0 : Option Addr) (key : ByteArray) (w : World)   (R : Bool → World → Prop)  :
    (
  kv_KV_Val.Call x key w fun r14_0 r14_1 w1 =>
  kvm_KV_Val.Call m0 key w1 fun r20_0 r20_1 w2 =>
  Bm (r14_0.toList == r20_0.toList) (
    R (r14_1 == r20_1) w2) (
    R false w2)) = kstep Try.prog 31 Try.f19.results.toList (Try.f19.body.getD .skip) (kvlaw_SameVal.RV R) (kvc Try.prog 31 Try.f19.results.toList (Try.f19.body.getD .skip) (kvlaw_SameVal.RV R) [] 2000) [(0, [])] [(0, .pointer x), (1, .pointer m0), (2, .string key)] w := by kernel_rfl
theorem kvlaw_SameVal.B0_sound {R : Bool → World → Prop}  (x m0 : Option Addr) (key : ByteArray) (w : World) (h : kvlaw_SameVal.B0 x m0 key w   R) :
    KW Try.prog 19 31 (kvlaw_SameVal.RV R) ([(0, [])].map (toItem (Try.f19.body.getD .skip))) [(0, .pointer x), (1, .pointer m0), (2, .string key)] w := by
  exact block_spec Try.func19 Try.mixed stops_nil (Eq.mp (kvlaw_SameVal.B0_eq x m0 key w   R ) h)
theorem kvlaw_SameVal.sound (x m0 : Option Addr) (key : ByteArray) (w : World) (R : Bool → World → Prop) (h : kvlaw_SameVal.B0 x m0 key w R) : kvlaw_SameVal.Call x m0 key w R := by
  have hc := calls_of_block (args := #[.pointer x, .pointer m0, .string key]) Try.func19 (body := (Try.f19.body.getD .skip)) (by kernel_rfl) (by kernel_rfl) (args_slot _) (kvlaw_SameVal.B0_sound x m0 key w h)
  exact hc.mono fun e w' he => by
    obtain ⟨v, rfl, hv⟩ := he
    exact kvlaw_SameVal.RV_elim hv
def kvlaw_SameSess.B0 (x m0 : Option Addr) (client : Int) (w : World)   (R : Bool → World → Prop) : Prop :=
  kv_KV_Sess.Call x client w fun r14_0 r14_1_0 r14_1_1 w1 =>
  New (.cells #[.int .i64 (0 : Int), .string (ByteArray.mk #[])] 54) w1 fun a_ w2 =>
  Sts [.int .i64 r14_1_0, .string r14_1_1] ⟨a_, 0, none⟩ 0 w2 fun w3 =>
  kvm_KV_Sess.Call m0 client w3 fun r20_0 r20_1_0 r20_1_1 w4 =>
  New (.cells #[.int .i64 (0 : Int), .string (ByteArray.mk #[])] 54) w4 fun b_ w5 =>
  Sts [.int .i64 r20_1_0, .string r20_1_1] ⟨b_, 0, none⟩ 0 w5 fun w6 =>
  Bm (r14_0 == r20_0) (
    LdI .i64 ⟨a_, 0, none⟩ w6 fun x28 =>
    LdI .i64 ⟨b_, 0, none⟩ w6 fun x30 =>
    Bm (x28 == x30) (
      LdS ⟨a_, 1, none⟩ w6 fun x35 =>
      LdS ⟨b_, 1, none⟩ w6 fun x37 =>
      R (x35.toList == x37.toList) w6) (
      R false w6)) (
    R false w6)
theorem kvlaw_SameSess.B0_eq (x m0 : Option Addr) (client : Int) (w : World)   (R : Bool → World → Prop)  :
    (
  kv_KV_Sess.Call x client w fun r14_0 r14_1_0 r14_1_1 w1 =>
  New (.cells #[.int .i64 (0 : Int), .string (ByteArray.mk #[])] 54) w1 fun a_ w2 =>
  Sts [.int .i64 r14_1_0, .string r14_1_1] ⟨a_, 0, none⟩ 0 w2 fun w3 =>
  kvm_KV_Sess.Call m0 client w3 fun r20_0 r20_1_0 r20_1_1 w4 =>
  New (.cells #[.int .i64 (0 : Int), .string (ByteArray.mk #[])] 54) w4 fun b_ w5 =>
  Sts [.int .i64 r20_1_0, .string r20_1_1] ⟨b_, 0, none⟩ 0 w5 fun w6 =>
  Bm (r14_0 == r20_0) (
    LdI .i64 ⟨a_, 0, none⟩ w6 fun x28 =>
    LdI .i64 ⟨b_, 0, none⟩ w6 fun x30 =>
    Bm (x28 == x30) (
      LdS ⟨a_, 1, none⟩ w6 fun x35 =>
      LdS ⟨b_, 1, none⟩ w6 fun x37 =>
      R (x35.toList == x37.toList) w6) (
      R false w6)) (
    R false w6)) = kstep Try.prog 40 Try.f20.results.toList (Try.f20.body.getD .skip) (kvlaw_SameSess.RV R) (kvc Try.prog 40 Try.f20.results.toList (Try.f20.body.getD .skip) (kvlaw_SameSess.RV R) [] 2000) [(0, [])] [(0, .pointer x), (1, .pointer m0), (2, .int .i64 client)] w := by kernel_rfl
theorem kvlaw_SameSess.B0_sound {R : Bool → World → Prop}  (x m0 : Option Addr) (client : Int) (w : World) (h : kvlaw_SameSess.B0 x m0 client w   R) :
    KW Try.prog 20 40 (kvlaw_SameSess.RV R) ([(0, [])].map (toItem (Try.f20.body.getD .skip))) [(0, .pointer x), (1, .pointer m0), (2, .int .i64 client)] w := by
  exact block_spec Try.func20 Try.mixed stops_nil (Eq.mp (kvlaw_SameSess.B0_eq x m0 client w   R ) h)
theorem kvlaw_SameSess.sound (x m0 : Option Addr) (client : Int) (w : World) (R : Bool → World → Prop) (h : kvlaw_SameSess.B0 x m0 client w R) : kvlaw_SameSess.Call x m0 client w R := by
  have hc := calls_of_block (args := #[.pointer x, .pointer m0, .int .i64 client]) Try.func20 (body := (Try.f20.body.getD .skip)) (by kernel_rfl) (by kernel_rfl) (args_slot _) (kvlaw_SameSess.B0_sound x m0 client w h)
  exact hc.mono fun e w' he => by
    obtain ⟨v, rfl, hv⟩ := he
    exact kvlaw_SameSess.RV_elim hv
def kv_table_sorted.B2 (t : Option Addr) (t2 at0 : Nat) (n i j : Int) (w : World) (N1 : Option Addr → Nat → Nat → Int → Int → World → Prop)  (R : Int → Int → Int → Int → World → Prop) : Prop :=
  (0 ≤ j ∧ j < ((4 : Nat) : Int)) ∧
  Sts [.int .i64 i] (Addr.add ⟨at0, 0, none⟩ (j.toNat * 1)) 0 w fun w1 =>
  N1 t t2 at0 (IntKind.i64.wrap (n + (1 : Int))) (IntKind.i64.wrap (i + (1 : Int))) w1
theorem kv_table_sorted.B2_eq (t : Option Addr) (t2 at0 : Nat) (n i j : Int) (w : World) (N1 : Option Addr → Nat → Nat → Int → Int → World → Prop)  (R : Int → Int → Int → Int → World → Prop)  :
    (
  (0 ≤ j ∧ j < ((4 : Nat) : Int)) ∧
  Sts [.int .i64 i] (Addr.add ⟨at0, 0, none⟩ (j.toNat * 1)) 0 w fun w1 =>
  N1 t t2 at0 (IntKind.i64.wrap (n + (1 : Int))) (IntKind.i64.wrap (i + (1 : Int))) w1) = kstep Try.prog 62 Try.f21.results.toList (Try.f21.body.getD .skip) (kv_table_sorted.RV R) (kvc Try.prog 62 Try.f21.results.toList (Try.f21.body.getD .skip) (kv_table_sorted.RV R) [([(0, [1, 1, 1, 0, 1, 0, 0]), (2, [1, 1, 1, 0, 1, 0, 0]), (1, [0]), (0, [1, 1, 1, 1])], fun σ w => dP (slotOf σ 0) fun t_ => dK (slotOf σ 2) fun t2_ => dK (slotOf σ 3) fun at0_ => dI .i64 (slotOf σ 4) fun n_ => dI .i64 (slotOf σ 5) fun i_ => N1 t_ t2_ at0_ n_ i_ w)] 2000) [(0, [1, 1, 1, 0, 1, 0, 0, 1, 0, 0, 1, 1, 1, 1]), (1, [1]), (0, [1, 1, 1, 0, 1, 0, 0, 1, 1]), (2, [1, 1, 1, 0, 1, 0, 0]), (1, [0]), (0, [1, 1, 1, 1])] [(0, .pointer t), (2, .pointer (some ⟨t2, 0, none⟩)), (3, .pointer (some ⟨at0, 0, none⟩)), (4, .int .i64 n), (5, .int .i64 i), (7, .int .i64 j)] w := by kernel_rfl
theorem kv_table_sorted.B2_sound {R : Int → Int → Int → Int → World → Prop} {N1 : Option Addr → Nat → Nat → Int → Int → World → Prop} (hN1 : ∀ t t2 at0 n i w, N1 t t2 at0 n i w → KW Try.prog 21 62 (kv_table_sorted.RV R) ([(0, [1, 1, 1, 0, 1, 0, 0]), (2, [1, 1, 1, 0, 1, 0, 0]), (1, [0]), (0, [1, 1, 1, 1])].map (toItem (Try.f21.body.getD .skip))) [(0, .pointer t), (2, .pointer (some ⟨t2, 0, none⟩)), (3, .pointer (some ⟨at0, 0, none⟩)), (4, .int .i64 n), (5, .int .i64 i)] w) (t : Option Addr) (t2 at0 : Nat) (n i j : Int) (w : World) (h : kv_table_sorted.B2 t t2 at0 n i j w N1  R) :
    KW Try.prog 21 62 (kv_table_sorted.RV R) ([(0, [1, 1, 1, 0, 1, 0, 0, 1, 0, 0, 1, 1, 1, 1]), (1, [1]), (0, [1, 1, 1, 0, 1, 0, 0, 1, 1]), (2, [1, 1, 1, 0, 1, 0, 0]), (1, [0]), (0, [1, 1, 1, 1])].map (toItem (Try.f21.body.getD .skip))) [(0, .pointer t), (2, .pointer (some ⟨t2, 0, none⟩)), (3, .pointer (some ⟨at0, 0, none⟩)), (4, .int .i64 n), (5, .int .i64 i), (7, .int .i64 j)] w := by
  exact block_spec Try.func21 Try.mixed (stops_cons (fun σ w h => by
      obtain ⟨t_, e0, h⟩ := dP_elim h
      obtain ⟨t2_, e1, h⟩ := dK_elim h
      obtain ⟨at0_, e2, h⟩ := dK_elim h
      obtain ⟨n_, e3, h⟩ := dI_elim h
      obtain ⟨i_, e4, h⟩ := dI_elim h
      exact (hN1 t_ t2_ at0_ n_ i_ w h).weaken (Sub.cons (Sub.cons (Sub.cons (Sub.cons (Sub.cons (Sub.nil _) e4) e3) e2) e1) e0)) stops_nil) (Eq.mp (kv_table_sorted.B2_eq t t2 at0 n i j w N1  R ) h)
def kv_table_sorted.L2b (t : Option Addr) (t2 at0 : Nat) (n i : Int) (key : ByteArray) (j : Int) (w : World) (N1 : Option Addr → Nat → Nat → Int → Int → World → Prop) (N2 : Option Addr → Nat → Nat → Int → Int → ByteArray → Int → World → Prop) (R : Int → Int → Int → Int → World → Prop) : Prop :=
  Bm (decide (j > (0 : Int))) (
    (0 ≤ (IntKind.i64.wrap (j - (1 : Int))) ∧ (IntKind.i64.wrap (j - (1 : Int))) < ((4 : Nat) : Int)) ∧
    LdI .i64 (Addr.add ⟨at0, 0, none⟩ ((IntKind.i64.wrap (j - (1 : Int))).toNat * 1)) w.drew fun x39 =>
    Pn t fun a =>
    (0 ≤ x39 ∧ x39 < ((8 : Nat) : Int)) ∧
    LdI .i64 (Addr.add a (x39.toNat * 8)) w.drew fun x43_0 =>
    LdI .i64 ((Addr.add a (x39.toNat * 8)).add 1) w.drew fun x43_1 =>
    LdI .u8 ((Addr.add a (x39.toNat * 8)).add 2) w.drew fun x43_2 =>
    LdI .u8 ((Addr.add a (x39.toNat * 8)).add 3) w.drew fun x43_3 =>
    LdI .i64 ((Addr.add a (x39.toNat * 8)).add 4) w.drew fun x43_4 =>
    LdI .u8 ((Addr.add a (x39.toNat * 8)).add 5) w.drew fun x43_5 =>
    LdI .u8 ((Addr.add a (x39.toNat * 8)).add 6) w.drew fun x43_6 =>
    LdI .u8 ((Addr.add a (x39.toNat * 8)).add 7) w.drew fun x43_7 =>
    kv_keyOf.Call x43_0 x43_1 x43_2 x43_3 x43_4 x43_5 x43_6 x43_7 w.drew fun r44 w1 =>
    Bm (Op.bytesLess r44.toList key.toList) (
      kv_table_sorted.B2 t t2 at0 n i j w1 N1 R) (
      (0 ≤ (IntKind.i64.wrap (j - (1 : Int))) ∧ (IntKind.i64.wrap (j - (1 : Int))) < ((4 : Nat) : Int)) ∧
      LdI .i64 (Addr.add ⟨at0, 0, none⟩ ((IntKind.i64.wrap (j - (1 : Int))).toNat * 1)) w1 fun x52 =>
      (0 ≤ j ∧ j < ((4 : Nat) : Int)) ∧
      Sts [.int .i64 x52] (Addr.add ⟨at0, 0, none⟩ (j.toNat * 1)) 0 w1 fun w2 =>
      N2 t t2 at0 n i key (IntKind.i64.wrap (j - (1 : Int))) w2)) (
    kv_table_sorted.B2 t t2 at0 n i j w N1 R)
theorem kv_table_sorted.L2b_eq (t : Option Addr) (t2 at0 : Nat) (n i : Int) (key : ByteArray) (j : Int) (w : World) (N1 : Option Addr → Nat → Nat → Int → Int → World → Prop) (N2 : Option Addr → Nat → Nat → Int → Int → ByteArray → Int → World → Prop) (R : Int → Int → Int → Int → World → Prop) (sB2 : Option Addr → Nat → Nat → Int → Int → Int → World → Prop) :
    (
  Bm (decide (j > (0 : Int))) (
    (0 ≤ (IntKind.i64.wrap (j - (1 : Int))) ∧ (IntKind.i64.wrap (j - (1 : Int))) < ((4 : Nat) : Int)) ∧
    LdI .i64 (Addr.add ⟨at0, 0, none⟩ ((IntKind.i64.wrap (j - (1 : Int))).toNat * 1)) w.drew fun x39 =>
    Pn t fun a =>
    (0 ≤ x39 ∧ x39 < ((8 : Nat) : Int)) ∧
    LdI .i64 (Addr.add a (x39.toNat * 8)) w.drew fun x43_0 =>
    LdI .i64 ((Addr.add a (x39.toNat * 8)).add 1) w.drew fun x43_1 =>
    LdI .u8 ((Addr.add a (x39.toNat * 8)).add 2) w.drew fun x43_2 =>
    LdI .u8 ((Addr.add a (x39.toNat * 8)).add 3) w.drew fun x43_3 =>
    LdI .i64 ((Addr.add a (x39.toNat * 8)).add 4) w.drew fun x43_4 =>
    LdI .u8 ((Addr.add a (x39.toNat * 8)).add 5) w.drew fun x43_5 =>
    LdI .u8 ((Addr.add a (x39.toNat * 8)).add 6) w.drew fun x43_6 =>
    LdI .u8 ((Addr.add a (x39.toNat * 8)).add 7) w.drew fun x43_7 =>
    kv_keyOf.Call x43_0 x43_1 x43_2 x43_3 x43_4 x43_5 x43_6 x43_7 w.drew fun r44 w1 =>
    Bm (Op.bytesLess r44.toList key.toList) (
      sB2 t t2 at0 n i j w1) (
      (0 ≤ (IntKind.i64.wrap (j - (1 : Int))) ∧ (IntKind.i64.wrap (j - (1 : Int))) < ((4 : Nat) : Int)) ∧
      LdI .i64 (Addr.add ⟨at0, 0, none⟩ ((IntKind.i64.wrap (j - (1 : Int))).toNat * 1)) w1 fun x52 =>
      (0 ≤ j ∧ j < ((4 : Nat) : Int)) ∧
      Sts [.int .i64 x52] (Addr.add ⟨at0, 0, none⟩ (j.toNat * 1)) 0 w1 fun w2 =>
      N2 t t2 at0 n i key (IntKind.i64.wrap (j - (1 : Int))) w2)) (
    sB2 t t2 at0 n i j w)) = kstep Try.prog 62 Try.f21.results.toList (Try.f21.body.getD .skip) (kv_table_sorted.RV R) (kvc Try.prog 62 Try.f21.results.toList (Try.f21.body.getD .skip) (kv_table_sorted.RV R) [([(0, [1, 1, 1, 0, 1, 0, 0, 1, 0, 0, 1, 1, 1, 1]), (1, [1]), (0, [1, 1, 1, 0, 1, 0, 0, 1, 1]), (2, [1, 1, 1, 0, 1, 0, 0]), (1, [0]), (0, [1, 1, 1, 1])], fun σ w => dP (slotOf σ 0) fun t_ => dK (slotOf σ 2) fun t2_ => dK (slotOf σ 3) fun at0_ => dI .i64 (slotOf σ 4) fun n_ => dI .i64 (slotOf σ 5) fun i_ => dI .i64 (slotOf σ 7) fun j_ => sB2 t_ t2_ at0_ n_ i_ j_ w),
    ([(0, [1, 1, 1, 0, 1, 0, 0, 1, 0, 0, 1, 1, 1, 0, 0, 0]), (2, [1, 1, 1, 0, 1, 0, 0, 1, 0, 0, 1, 1, 1, 0, 0, 0]), (1, [2]), (0, [1, 1, 1, 0, 1, 0, 0, 1, 0, 0, 1, 1, 1, 1]), (1, [1]), (0, [1, 1, 1, 0, 1, 0, 0, 1, 1]), (2, [1, 1, 1, 0, 1, 0, 0]), (1, [0]), (0, [1, 1, 1, 1])], fun σ w => dP (slotOf σ 0) fun t_ => dK (slotOf σ 2) fun t2_ => dK (slotOf σ 3) fun at0_ => dI .i64 (slotOf σ 4) fun n_ => dI .i64 (slotOf σ 5) fun i_ => dS (slotOf σ 6) fun key_ => dI .i64 (slotOf σ 7) fun j_ => N2 t_ t2_ at0_ n_ i_ key_ j_ w)] 2000) [(0, [1, 1, 1, 0, 1, 0, 0, 1, 0, 0, 1, 1, 1, 0, 0, 0]), (2, [1, 1, 1, 0, 1, 0, 0, 1, 0, 0, 1, 1, 1, 0, 0, 0]), (1, [2]), (0, [1, 1, 1, 0, 1, 0, 0, 1, 0, 0, 1, 1, 1, 1]), (1, [1]), (0, [1, 1, 1, 0, 1, 0, 0, 1, 1]), (2, [1, 1, 1, 0, 1, 0, 0]), (1, [0]), (0, [1, 1, 1, 1])] [(0, .pointer t), (2, .pointer (some ⟨t2, 0, none⟩)), (3, .pointer (some ⟨at0, 0, none⟩)), (4, .int .i64 n), (5, .int .i64 i), (6, .string key), (7, .int .i64 j)] w := by kernel_rfl
theorem kv_table_sorted.L2b_sound {R : Int → Int → Int → Int → World → Prop} {N1 : Option Addr → Nat → Nat → Int → Int → World → Prop} (hN1 : ∀ t t2 at0 n i w, N1 t t2 at0 n i w → KW Try.prog 21 62 (kv_table_sorted.RV R) ([(0, [1, 1, 1, 0, 1, 0, 0]), (2, [1, 1, 1, 0, 1, 0, 0]), (1, [0]), (0, [1, 1, 1, 1])].map (toItem (Try.f21.body.getD .skip))) [(0, .pointer t), (2, .pointer (some ⟨t2, 0, none⟩)), (3, .pointer (some ⟨at0, 0, none⟩)), (4, .int .i64 n), (5, .int .i64 i)] w) {N2 : Option Addr → Nat → Nat → Int → Int → ByteArray → Int → World → Prop} (hN2 : ∀ t t2 at0 n i key j w, N2 t t2 at0 n i key j w → KW Try.prog 21 62 (kv_table_sorted.RV R) ([(0, [1, 1, 1, 0, 1, 0, 0, 1, 0, 0, 1, 1, 1, 0, 0, 0]), (2, [1, 1, 1, 0, 1, 0, 0, 1, 0, 0, 1, 1, 1, 0, 0, 0]), (1, [2]), (0, [1, 1, 1, 0, 1, 0, 0, 1, 0, 0, 1, 1, 1, 1]), (1, [1]), (0, [1, 1, 1, 0, 1, 0, 0, 1, 1]), (2, [1, 1, 1, 0, 1, 0, 0]), (1, [0]), (0, [1, 1, 1, 1])].map (toItem (Try.f21.body.getD .skip))) [(0, .pointer t), (2, .pointer (some ⟨t2, 0, none⟩)), (3, .pointer (some ⟨at0, 0, none⟩)), (4, .int .i64 n), (5, .int .i64 i), (6, .string key), (7, .int .i64 j)] w) (t : Option Addr) (t2 at0 : Nat) (n i : Int) (key : ByteArray) (j : Int) (w : World) (h : kv_table_sorted.L2b t t2 at0 n i key j w N1 N2 R) :
    KW Try.prog 21 62 (kv_table_sorted.RV R) ([(0, [1, 1, 1, 0, 1, 0, 0, 1, 0, 0, 1, 1, 1, 0, 0, 0]), (2, [1, 1, 1, 0, 1, 0, 0, 1, 0, 0, 1, 1, 1, 0, 0, 0]), (1, [2]), (0, [1, 1, 1, 0, 1, 0, 0, 1, 0, 0, 1, 1, 1, 1]), (1, [1]), (0, [1, 1, 1, 0, 1, 0, 0, 1, 1]), (2, [1, 1, 1, 0, 1, 0, 0]), (1, [0]), (0, [1, 1, 1, 1])].map (toItem (Try.f21.body.getD .skip))) [(0, .pointer t), (2, .pointer (some ⟨t2, 0, none⟩)), (3, .pointer (some ⟨at0, 0, none⟩)), (4, .int .i64 n), (5, .int .i64 i), (6, .string key), (7, .int .i64 j)] w := by
  exact block_spec Try.func21 Try.mixed (stops_cons (fun σ w h => by
      obtain ⟨t_, e0, h⟩ := dP_elim h
      obtain ⟨t2_, e1, h⟩ := dK_elim h
      obtain ⟨at0_, e2, h⟩ := dK_elim h
      obtain ⟨n_, e3, h⟩ := dI_elim h
      obtain ⟨i_, e4, h⟩ := dI_elim h
      obtain ⟨j_, e5, h⟩ := dI_elim h
      exact (kv_table_sorted.B2_sound hN1 t_ t2_ at0_ n_ i_ j_ w h).weaken (Sub.cons (Sub.cons (Sub.cons (Sub.cons (Sub.cons (Sub.cons (Sub.nil _) e5) e4) e3) e2) e1) e0)) (stops_cons (fun σ w h => by
      obtain ⟨t_, e0, h⟩ := dP_elim h
      obtain ⟨t2_, e1, h⟩ := dK_elim h
      obtain ⟨at0_, e2, h⟩ := dK_elim h
      obtain ⟨n_, e3, h⟩ := dI_elim h
      obtain ⟨i_, e4, h⟩ := dI_elim h
      obtain ⟨key_, e5, h⟩ := dS_elim h
      obtain ⟨j_, e6, h⟩ := dI_elim h
      exact (hN2 t_ t2_ at0_ n_ i_ key_ j_ w h).weaken (Sub.cons (Sub.cons (Sub.cons (Sub.cons (Sub.cons (Sub.cons (Sub.cons (Sub.nil _) e6) e5) e4) e3) e2) e1) e0)) stops_nil)) (Eq.mp (kv_table_sorted.L2b_eq t t2 at0 n i key j w N1 N2 R (fun t_ t2_ at0_ n_ i_ j_ w => kv_table_sorted.B2 t_ t2_ at0_ n_ i_ j_ w N1 R)) h)
def kv_table_sorted.L2 (t : Option Addr) (t2 at0 : Nat) (n i : Int) (key : ByteArray) (j : Int) (w : World) (N1 : Option Addr → Nat → Nat → Int → Int → World → Prop) (R : Int → Int → Int → Int → World → Prop) : Prop :=
  ∃ (I : Nat → Option Addr → Nat → Nat → Int → Int → ByteArray → Int → World → Prop) (m : Nat), I m t t2 at0 n i key j w ∧ ∀ m t t2 at0 n i key j w, I m t t2 at0 n i key j w → kv_table_sorted.L2b t t2 at0 n i key j w N1 (fun t' t2' at0' n' i' key' j' w' => ∃ m', m' < m ∧ I m' t' t2' at0' n' i' key' j' w') R
theorem kv_table_sorted.L2_sound {R : Int → Int → Int → Int → World → Prop} {N1 : Option Addr → Nat → Nat → Int → Int → World → Prop} (hN1 : ∀ t t2 at0 n i w, N1 t t2 at0 n i w → KW Try.prog 21 62 (kv_table_sorted.RV R) ([(0, [1, 1, 1, 0, 1, 0, 0]), (2, [1, 1, 1, 0, 1, 0, 0]), (1, [0]), (0, [1, 1, 1, 1])].map (toItem (Try.f21.body.getD .skip))) [(0, .pointer t), (2, .pointer (some ⟨t2, 0, none⟩)), (3, .pointer (some ⟨at0, 0, none⟩)), (4, .int .i64 n), (5, .int .i64 i)] w) (t : Option Addr) (t2 at0 : Nat) (n i : Int) (key : ByteArray) (j : Int) (w : World) (h : kv_table_sorted.L2 t t2 at0 n i key j w N1 R) :
    KW Try.prog 21 62 (kv_table_sorted.RV R) ([(0, [1, 1, 1, 0, 1, 0, 0, 1, 0, 0, 1, 1, 1, 0, 0, 0]), (2, [1, 1, 1, 0, 1, 0, 0, 1, 0, 0, 1, 1, 1, 0, 0, 0]), (1, [2]), (0, [1, 1, 1, 0, 1, 0, 0, 1, 0, 0, 1, 1, 1, 1]), (1, [1]), (0, [1, 1, 1, 0, 1, 0, 0, 1, 1]), (2, [1, 1, 1, 0, 1, 0, 0]), (1, [0]), (0, [1, 1, 1, 1])].map (toItem (Try.f21.body.getD .skip))) [(0, .pointer t), (2, .pointer (some ⟨t2, 0, none⟩)), (3, .pointer (some ⟨at0, 0, none⟩)), (4, .int .i64 n), (5, .int .i64 i), (6, .string key), (7, .int .i64 j)] w := by
  obtain ⟨I, m, hBase, hr⟩ := h
  refine KW.loop (fun m σ w => ∃ (t : Option Addr) (t2 at0 : Nat) (n i : Int) (key : ByteArray) (j : Int), σ = [(0, .pointer t), (2, .pointer (some ⟨t2, 0, none⟩)), (3, .pointer (some ⟨at0, 0, none⟩)), (4, .int .i64 n), (5, .int .i64 i), (6, .string key), (7, .int .i64 j)] ∧ I m t t2 at0 n i key j w) ?_ m _ w ⟨t, t2, at0, n, i, key, j, rfl, hBase⟩
  rintro m ih σ w ⟨t, t2, at0, n, i, key, j, rfl, hI⟩
  exact kv_table_sorted.L2b_sound hN1 (N2 := fun t' t2' at0' n' i' key' j' w' => ∃ m', m' < m ∧ I m' t' t2' at0' n' i' key' j' w') (fun t' t2' at0' n' i' key' j' w' hx => by obtain ⟨m', hlt, hI'⟩ := hx; exact ih m' hlt _ w' ⟨t', t2', at0', n', i', key', j', rfl, hI'⟩) t t2 at0 n i key j w (hr m t t2 at0 n i key j w hI)
def kv_table_sorted.B1 (t : Option Addr) (t2 at0 : Nat) (n i : Int) (t24 : Bool) (w : World) (N1 : Option Addr → Nat → Nat → Int → Int → World → Prop)  (R : Int → Int → Int → Int → World → Prop) : Prop :=
  Bm t24 (
    N1 t t2 at0 n (IntKind.i64.wrap (i + (1 : Int))) w) (
    Pn t fun a =>
    (0 ≤ i ∧ i < ((8 : Nat) : Int)) ∧
    LdI .i64 (Addr.add a (i.toNat * 8)) w fun x30_0 =>
    LdI .i64 ((Addr.add a (i.toNat * 8)).add 1) w fun x30_1 =>
    LdI .u8 ((Addr.add a (i.toNat * 8)).add 2) w fun x30_2 =>
    LdI .u8 ((Addr.add a (i.toNat * 8)).add 3) w fun x30_3 =>
    LdI .i64 ((Addr.add a (i.toNat * 8)).add 4) w fun x30_4 =>
    LdI .u8 ((Addr.add a (i.toNat * 8)).add 5) w fun x30_5 =>
    LdI .u8 ((Addr.add a (i.toNat * 8)).add 6) w fun x30_6 =>
    LdI .u8 ((Addr.add a (i.toNat * 8)).add 7) w fun x30_7 =>
    kv_keyOf.Call x30_0 x30_1 x30_2 x30_3 x30_4 x30_5 x30_6 x30_7 w fun r31 w1 =>
    kv_table_sorted.L2 t t2 at0 n i r31 n w1 N1 R)
theorem kv_table_sorted.B1_eq (t : Option Addr) (t2 at0 : Nat) (n i : Int) (t24 : Bool) (w : World) (N1 : Option Addr → Nat → Nat → Int → Int → World → Prop)  (R : Int → Int → Int → Int → World → Prop) (sL2 : Option Addr → Nat → Nat → Int → Int → ByteArray → Int → World → Prop) :
    (
  Bm t24 (
    N1 t t2 at0 n (IntKind.i64.wrap (i + (1 : Int))) w) (
    Pn t fun a =>
    (0 ≤ i ∧ i < ((8 : Nat) : Int)) ∧
    LdI .i64 (Addr.add a (i.toNat * 8)) w fun x30_0 =>
    LdI .i64 ((Addr.add a (i.toNat * 8)).add 1) w fun x30_1 =>
    LdI .u8 ((Addr.add a (i.toNat * 8)).add 2) w fun x30_2 =>
    LdI .u8 ((Addr.add a (i.toNat * 8)).add 3) w fun x30_3 =>
    LdI .i64 ((Addr.add a (i.toNat * 8)).add 4) w fun x30_4 =>
    LdI .u8 ((Addr.add a (i.toNat * 8)).add 5) w fun x30_5 =>
    LdI .u8 ((Addr.add a (i.toNat * 8)).add 6) w fun x30_6 =>
    LdI .u8 ((Addr.add a (i.toNat * 8)).add 7) w fun x30_7 =>
    kv_keyOf.Call x30_0 x30_1 x30_2 x30_3 x30_4 x30_5 x30_6 x30_7 w fun r31 w1 =>
    sL2 t t2 at0 n i r31 n w1)) = kstep Try.prog 62 Try.f21.results.toList (Try.f21.body.getD .skip) (kv_table_sorted.RV R) (kvc Try.prog 62 Try.f21.results.toList (Try.f21.body.getD .skip) (kv_table_sorted.RV R) [([(0, [1, 1, 1, 0, 1, 0, 0]), (2, [1, 1, 1, 0, 1, 0, 0]), (1, [0]), (0, [1, 1, 1, 1])], fun σ w => dP (slotOf σ 0) fun t_ => dK (slotOf σ 2) fun t2_ => dK (slotOf σ 3) fun at0_ => dI .i64 (slotOf σ 4) fun n_ => dI .i64 (slotOf σ 5) fun i_ => N1 t_ t2_ at0_ n_ i_ w),
    ([(0, [1, 1, 1, 0, 1, 0, 0, 1, 0, 0, 1, 1, 1, 0, 0, 0]), (2, [1, 1, 1, 0, 1, 0, 0, 1, 0, 0, 1, 1, 1, 0, 0, 0]), (1, [2]), (0, [1, 1, 1, 0, 1, 0, 0, 1, 0, 0, 1, 1, 1, 1]), (1, [1]), (0, [1, 1, 1, 0, 1, 0, 0, 1, 1]), (2, [1, 1, 1, 0, 1, 0, 0]), (1, [0]), (0, [1, 1, 1, 1])], fun σ w => dP (slotOf σ 0) fun t_ => dK (slotOf σ 2) fun t2_ => dK (slotOf σ 3) fun at0_ => dI .i64 (slotOf σ 4) fun n_ => dI .i64 (slotOf σ 5) fun i_ => dS (slotOf σ 6) fun key_ => dI .i64 (slotOf σ 7) fun j_ => sL2 t_ t2_ at0_ n_ i_ key_ j_ w)] 2000) [(0, [1, 1, 1, 0, 1, 0, 0, 1, 0, 0, 0, 1]), (0, [1, 1, 1, 0, 1, 0, 0, 1, 0, 0, 1]), (1, [1]), (0, [1, 1, 1, 0, 1, 0, 0, 1, 1]), (2, [1, 1, 1, 0, 1, 0, 0]), (1, [0]), (0, [1, 1, 1, 1])] [(0, .pointer t), (2, .pointer (some ⟨t2, 0, none⟩)), (3, .pointer (some ⟨at0, 0, none⟩)), (4, .int .i64 n), (5, .int .i64 i), (24, .bool t24)] w := by kernel_rfl
theorem kv_table_sorted.B1_sound {R : Int → Int → Int → Int → World → Prop} {N1 : Option Addr → Nat → Nat → Int → Int → World → Prop} (hN1 : ∀ t t2 at0 n i w, N1 t t2 at0 n i w → KW Try.prog 21 62 (kv_table_sorted.RV R) ([(0, [1, 1, 1, 0, 1, 0, 0]), (2, [1, 1, 1, 0, 1, 0, 0]), (1, [0]), (0, [1, 1, 1, 1])].map (toItem (Try.f21.body.getD .skip))) [(0, .pointer t), (2, .pointer (some ⟨t2, 0, none⟩)), (3, .pointer (some ⟨at0, 0, none⟩)), (4, .int .i64 n), (5, .int .i64 i)] w) (t : Option Addr) (t2 at0 : Nat) (n i : Int) (t24 : Bool) (w : World) (h : kv_table_sorted.B1 t t2 at0 n i t24 w N1  R) :
    KW Try.prog 21 62 (kv_table_sorted.RV R) ([(0, [1, 1, 1, 0, 1, 0, 0, 1, 0, 0, 0, 1]), (0, [1, 1, 1, 0, 1, 0, 0, 1, 0, 0, 1]), (1, [1]), (0, [1, 1, 1, 0, 1, 0, 0, 1, 1]), (2, [1, 1, 1, 0, 1, 0, 0]), (1, [0]), (0, [1, 1, 1, 1])].map (toItem (Try.f21.body.getD .skip))) [(0, .pointer t), (2, .pointer (some ⟨t2, 0, none⟩)), (3, .pointer (some ⟨at0, 0, none⟩)), (4, .int .i64 n), (5, .int .i64 i), (24, .bool t24)] w := by
  exact block_spec Try.func21 Try.mixed (stops_cons (fun σ w h => by
      obtain ⟨t_, e0, h⟩ := dP_elim h
      obtain ⟨t2_, e1, h⟩ := dK_elim h
      obtain ⟨at0_, e2, h⟩ := dK_elim h
      obtain ⟨n_, e3, h⟩ := dI_elim h
      obtain ⟨i_, e4, h⟩ := dI_elim h
      exact (hN1 t_ t2_ at0_ n_ i_ w h).weaken (Sub.cons (Sub.cons (Sub.cons (Sub.cons (Sub.cons (Sub.nil _) e4) e3) e2) e1) e0)) (stops_cons (fun σ w h => by
      obtain ⟨t_, e0, h⟩ := dP_elim h
      obtain ⟨t2_, e1, h⟩ := dK_elim h
      obtain ⟨at0_, e2, h⟩ := dK_elim h
      obtain ⟨n_, e3, h⟩ := dI_elim h
      obtain ⟨i_, e4, h⟩ := dI_elim h
      obtain ⟨key_, e5, h⟩ := dS_elim h
      obtain ⟨j_, e6, h⟩ := dI_elim h
      exact (kv_table_sorted.L2_sound hN1 t_ t2_ at0_ n_ i_ key_ j_ w h).weaken (Sub.cons (Sub.cons (Sub.cons (Sub.cons (Sub.cons (Sub.cons (Sub.cons (Sub.nil _) e6) e5) e4) e3) e2) e1) e0)) stops_nil)) (Eq.mp (kv_table_sorted.B1_eq t t2 at0 n i t24 w N1  R (fun t_ t2_ at0_ n_ i_ key_ j_ w => kv_table_sorted.L2 t_ t2_ at0_ n_ i_ key_ j_ w N1 R)) h)
def kv_table_sorted.L1b (t : Option Addr) (t2 at0 : Nat) (n i : Int) (w : World)  (N1 : Option Addr → Nat → Nat → Int → Int → World → Prop) (R : Int → Int → Int → Int → World → Prop) : Prop :=
  Bm (decide (i < (8 : Int))) (
    Pn t fun a =>
    (0 ≤ i ∧ i < ((8 : Nat) : Int)) ∧
    LdI .i64 (Addr.add a (i.toNat * 8)) w fun x19 =>
    Bm (x19 != (1 : Int)) (
      kv_table_sorted.B1 t t2 at0 n i true w N1 R) (
      kv_table_sorted.B1 t t2 at0 n i (decide (n ≥ (4 : Int))) w N1 R)) (
    LdI .i64 ⟨at0, 0, none⟩ w fun x61_0 =>
    LdI .i64 ⟨at0, 1, none⟩ w fun x61_1 =>
    LdI .i64 ⟨at0, 2, none⟩ w fun x61_2 =>
    LdI .i64 ⟨at0, 3, none⟩ w fun x61_3 =>
    Sts [.int .i64 x61_0, .int .i64 x61_1, .int .i64 x61_2, .int .i64 x61_3] ⟨t2, 0, none⟩ 0 w fun w1 =>
    LdI .i64 ⟨t2, 0, none⟩ w1 fun r_0 =>
    LdI .i64 ⟨t2, 1, none⟩ w1 fun r_1 =>
    LdI .i64 ⟨t2, 2, none⟩ w1 fun r_2 =>
    LdI .i64 ⟨t2, 3, none⟩ w1 fun r_3 =>
    R r_0 r_1 r_2 r_3 w1)
theorem kv_table_sorted.L1b_eq (t : Option Addr) (t2 at0 : Nat) (n i : Int) (w : World)  (N1 : Option Addr → Nat → Nat → Int → Int → World → Prop) (R : Int → Int → Int → Int → World → Prop) (sB1 : Option Addr → Nat → Nat → Int → Int → Bool → World → Prop) :
    (
  Bm (decide (i < (8 : Int))) (
    Pn t fun a =>
    (0 ≤ i ∧ i < ((8 : Nat) : Int)) ∧
    LdI .i64 (Addr.add a (i.toNat * 8)) w fun x19 =>
    Bm (x19 != (1 : Int)) (
      sB1 t t2 at0 n i true w) (
      sB1 t t2 at0 n i (decide (n ≥ (4 : Int))) w)) (
    LdI .i64 ⟨at0, 0, none⟩ w fun x61_0 =>
    LdI .i64 ⟨at0, 1, none⟩ w fun x61_1 =>
    LdI .i64 ⟨at0, 2, none⟩ w fun x61_2 =>
    LdI .i64 ⟨at0, 3, none⟩ w fun x61_3 =>
    Sts [.int .i64 x61_0, .int .i64 x61_1, .int .i64 x61_2, .int .i64 x61_3] ⟨t2, 0, none⟩ 0 w fun w1 =>
    LdI .i64 ⟨t2, 0, none⟩ w1 fun r_0 =>
    LdI .i64 ⟨t2, 1, none⟩ w1 fun r_1 =>
    LdI .i64 ⟨t2, 2, none⟩ w1 fun r_2 =>
    LdI .i64 ⟨t2, 3, none⟩ w1 fun r_3 =>
    R r_0 r_1 r_2 r_3 w1)) = kstep Try.prog 62 Try.f21.results.toList (Try.f21.body.getD .skip) (kv_table_sorted.RV R) (kvc Try.prog 62 Try.f21.results.toList (Try.f21.body.getD .skip) (kv_table_sorted.RV R) [([(0, [1, 1, 1, 0, 1, 0, 0, 1, 0, 0, 0, 1]), (0, [1, 1, 1, 0, 1, 0, 0, 1, 0, 0, 1]), (1, [1]), (0, [1, 1, 1, 0, 1, 0, 0, 1, 1]), (2, [1, 1, 1, 0, 1, 0, 0]), (1, [0]), (0, [1, 1, 1, 1])], fun σ w => dP (slotOf σ 0) fun t_ => dK (slotOf σ 2) fun t2_ => dK (slotOf σ 3) fun at0_ => dI .i64 (slotOf σ 4) fun n_ => dI .i64 (slotOf σ 5) fun i_ => dB (slotOf σ 24) fun t24_ => sB1 t_ t2_ at0_ n_ i_ t24_ w)] 2000) [(0, [1, 1, 1, 0, 1, 0, 0]), (2, [1, 1, 1, 0, 1, 0, 0]), (1, [0]), (0, [1, 1, 1, 1])] [(0, .pointer t), (2, .pointer (some ⟨t2, 0, none⟩)), (3, .pointer (some ⟨at0, 0, none⟩)), (4, .int .i64 n), (5, .int .i64 i)] w := by kernel_rfl
theorem kv_table_sorted.L1b_sound {R : Int → Int → Int → Int → World → Prop} {N1 : Option Addr → Nat → Nat → Int → Int → World → Prop} (hN1 : ∀ t t2 at0 n i w, N1 t t2 at0 n i w → KW Try.prog 21 62 (kv_table_sorted.RV R) ([(0, [1, 1, 1, 0, 1, 0, 0]), (2, [1, 1, 1, 0, 1, 0, 0]), (1, [0]), (0, [1, 1, 1, 1])].map (toItem (Try.f21.body.getD .skip))) [(0, .pointer t), (2, .pointer (some ⟨t2, 0, none⟩)), (3, .pointer (some ⟨at0, 0, none⟩)), (4, .int .i64 n), (5, .int .i64 i)] w) (t : Option Addr) (t2 at0 : Nat) (n i : Int) (w : World) (h : kv_table_sorted.L1b t t2 at0 n i w  N1 R) :
    KW Try.prog 21 62 (kv_table_sorted.RV R) ([(0, [1, 1, 1, 0, 1, 0, 0]), (2, [1, 1, 1, 0, 1, 0, 0]), (1, [0]), (0, [1, 1, 1, 1])].map (toItem (Try.f21.body.getD .skip))) [(0, .pointer t), (2, .pointer (some ⟨t2, 0, none⟩)), (3, .pointer (some ⟨at0, 0, none⟩)), (4, .int .i64 n), (5, .int .i64 i)] w := by
  exact block_spec Try.func21 Try.mixed (stops_cons (fun σ w h => by
      obtain ⟨t_, e0, h⟩ := dP_elim h
      obtain ⟨t2_, e1, h⟩ := dK_elim h
      obtain ⟨at0_, e2, h⟩ := dK_elim h
      obtain ⟨n_, e3, h⟩ := dI_elim h
      obtain ⟨i_, e4, h⟩ := dI_elim h
      obtain ⟨t24_, e5, h⟩ := dB_elim h
      exact (kv_table_sorted.B1_sound hN1 t_ t2_ at0_ n_ i_ t24_ w h).weaken (Sub.cons (Sub.cons (Sub.cons (Sub.cons (Sub.cons (Sub.cons (Sub.nil _) e5) e4) e3) e2) e1) e0)) stops_nil) (Eq.mp (kv_table_sorted.L1b_eq t t2 at0 n i w  N1 R (fun t_ t2_ at0_ n_ i_ t24_ w => kv_table_sorted.B1 t_ t2_ at0_ n_ i_ t24_ w N1 R)) h)
def kv_table_sorted.L1 (t : Option Addr) (t2 at0 : Nat) (n i : Int) (w : World)  (R : Int → Int → Int → Int → World → Prop) : Prop :=
  ∃ (I : Nat → Option Addr → Nat → Nat → Int → Int → World → Prop) (m : Nat), I m t t2 at0 n i w ∧ ∀ m t t2 at0 n i w, I m t t2 at0 n i w → kv_table_sorted.L1b t t2 at0 n i w  (fun t' t2' at0' n' i' w' => ∃ m', m' < m ∧ I m' t' t2' at0' n' i' w') R
theorem kv_table_sorted.L1_sound {R : Int → Int → Int → Int → World → Prop}  (t : Option Addr) (t2 at0 : Nat) (n i : Int) (w : World) (h : kv_table_sorted.L1 t t2 at0 n i w  R) :
    KW Try.prog 21 62 (kv_table_sorted.RV R) ([(0, [1, 1, 1, 0, 1, 0, 0]), (2, [1, 1, 1, 0, 1, 0, 0]), (1, [0]), (0, [1, 1, 1, 1])].map (toItem (Try.f21.body.getD .skip))) [(0, .pointer t), (2, .pointer (some ⟨t2, 0, none⟩)), (3, .pointer (some ⟨at0, 0, none⟩)), (4, .int .i64 n), (5, .int .i64 i)] w := by
  obtain ⟨I, m, hBase, hr⟩ := h
  refine KW.loop (fun m σ w => ∃ (t : Option Addr) (t2 at0 : Nat) (n i : Int), σ = [(0, .pointer t), (2, .pointer (some ⟨t2, 0, none⟩)), (3, .pointer (some ⟨at0, 0, none⟩)), (4, .int .i64 n), (5, .int .i64 i)] ∧ I m t t2 at0 n i w) ?_ m _ w ⟨t, t2, at0, n, i, rfl, hBase⟩
  rintro m ih σ w ⟨t, t2, at0, n, i, rfl, hI⟩
  exact kv_table_sorted.L1b_sound  (N1 := fun t' t2' at0' n' i' w' => ∃ m', m' < m ∧ I m' t' t2' at0' n' i' w') (fun t' t2' at0' n' i' w' hx => by obtain ⟨m', hlt, hI'⟩ := hx; exact ih m' hlt _ w' ⟨t', t2', at0', n', i', rfl, hI'⟩) t t2 at0 n i w (hr m t t2 at0 n i w hI)
def kv_table_sorted.B0 (t : Option Addr) (w : World)   (R : Int → Int → Int → Int → World → Prop) : Prop :=
  New (.cells #[.int .i64 (0 : Int), .int .i64 (0 : Int), .int .i64 (0 : Int), .int .i64 (0 : Int)] 61) w fun b2 w1 =>
  New (.cells #[.int .i64 (0 : Int), .int .i64 (0 : Int), .int .i64 (0 : Int), .int .i64 (0 : Int)] 61) w1 fun at0_ w2 =>
  kv_table_sorted.L1 t b2 at0_ (0 : Int) (0 : Int) w2  R
theorem kv_table_sorted.B0_eq (t : Option Addr) (w : World)   (R : Int → Int → Int → Int → World → Prop) (sL1 : Option Addr → Nat → Nat → Int → Int → World → Prop) :
    (
  New (.cells #[.int .i64 (0 : Int), .int .i64 (0 : Int), .int .i64 (0 : Int), .int .i64 (0 : Int)] 61) w fun b2 w1 =>
  New (.cells #[.int .i64 (0 : Int), .int .i64 (0 : Int), .int .i64 (0 : Int), .int .i64 (0 : Int)] 61) w1 fun at0_ w2 =>
  sL1 t b2 at0_ (0 : Int) (0 : Int) w2) = kstep Try.prog 62 Try.f21.results.toList (Try.f21.body.getD .skip) (kv_table_sorted.RV R) (kvc Try.prog 62 Try.f21.results.toList (Try.f21.body.getD .skip) (kv_table_sorted.RV R) [([(0, [1, 1, 1, 0, 1, 0, 0]), (2, [1, 1, 1, 0, 1, 0, 0]), (1, [0]), (0, [1, 1, 1, 1])], fun σ w => dP (slotOf σ 0) fun t_ => dK (slotOf σ 2) fun t2_ => dK (slotOf σ 3) fun at0_ => dI .i64 (slotOf σ 4) fun n_ => dI .i64 (slotOf σ 5) fun i_ => sL1 t_ t2_ at0_ n_ i_ w)] 2000) [(0, [])] [(0, .pointer t)] w := by kernel_rfl
theorem kv_table_sorted.B0_sound {R : Int → Int → Int → Int → World → Prop}  (t : Option Addr) (w : World) (h : kv_table_sorted.B0 t w   R) :
    KW Try.prog 21 62 (kv_table_sorted.RV R) ([(0, [])].map (toItem (Try.f21.body.getD .skip))) [(0, .pointer t)] w := by
  exact block_spec Try.func21 Try.mixed (stops_cons (fun σ w h => by
      obtain ⟨t_, e0, h⟩ := dP_elim h
      obtain ⟨t2_, e1, h⟩ := dK_elim h
      obtain ⟨at0_, e2, h⟩ := dK_elim h
      obtain ⟨n_, e3, h⟩ := dI_elim h
      obtain ⟨i_, e4, h⟩ := dI_elim h
      exact (kv_table_sorted.L1_sound  t_ t2_ at0_ n_ i_ w h).weaken (Sub.cons (Sub.cons (Sub.cons (Sub.cons (Sub.cons (Sub.nil _) e4) e3) e2) e1) e0)) stops_nil) (Eq.mp (kv_table_sorted.B0_eq t w   R (fun t_ t2_ at0_ n_ i_ w => kv_table_sorted.L1 t_ t2_ at0_ n_ i_ w  R)) h)
theorem kv_table_sorted.sound (t : Option Addr) (w : World) (R : Int → Int → Int → Int → World → Prop) (h : kv_table_sorted.B0 t w R) : kv_table_sorted.Call t w R := by
  have hc := calls_of_block (args := #[.pointer t]) Try.func21 (body := (Try.f21.body.getD .skip)) (by kernel_rfl) (by kernel_rfl) (args_slot _) (kv_table_sorted.B0_sound t w h)
  exact hc.mono fun e w' he => by
    obtain ⟨v, rfl, hv⟩ := he
    exact kv_table_sorted.RV_elim hv
def kv_keyOf.B1 (c : Nat) (b_b : Option Addr) (b_l b_c : Nat) (i : Int) (t13 : Bool) (w : World) (N1 : Nat → Option Addr → Nat → Nat → Int → World → Prop)  (R : ByteArray → World → Prop) : Prop :=
  Bm t13 (
    (0 ≤ i ∧ i < ((2 : Nat) : Int)) ∧
    LdI .u8 (Addr.add ⟨c, 2, none⟩ (i.toNat * 1)) w fun x20 =>
    New (.cells #[.int .u8 x20] 5) w fun b21 w1 =>
    Append 5 (.int .u8 (0 : Int)) 1 1 b_b b_l b_c (some ⟨b21, 0, none⟩) 1 w1 fun b22 c22 w2 =>
    N1 c b22 (b_l + 1) c22 (IntKind.i64.wrap (i + (1 : Int))) w2) (
    ToStr b_b b_l w fun s24 =>
    R s24 w)
theorem kv_keyOf.B1_eq (c : Nat) (b_b : Option Addr) (b_l b_c : Nat) (i : Int) (t13 : Bool) (w : World) (N1 : Nat → Option Addr → Nat → Nat → Int → World → Prop)  (R : ByteArray → World → Prop)  :
    (
  Bm t13 (
    (0 ≤ i ∧ i < ((2 : Nat) : Int)) ∧
    LdI .u8 (Addr.add ⟨c, 2, none⟩ (i.toNat * 1)) w fun x20 =>
    New (.cells #[.int .u8 x20] 5) w fun b21 w1 =>
    Append 5 (.int .u8 (0 : Int)) 1 1 b_b b_l b_c (some ⟨b21, 0, none⟩) 1 w1 fun b22 c22 w2 =>
    N1 c b22 (b_l + 1) c22 (IntKind.i64.wrap (i + (1 : Int))) w2) (
    ToStr b_b b_l w fun s24 =>
    R s24 w)) = kstep Try.prog 25 Try.f22.results.toList (Try.f22.body.getD .skip) (kv_keyOf.RV R) (kvc Try.prog 25 Try.f22.results.toList (Try.f22.body.getD .skip) (kv_keyOf.RV R) [([(0, [1, 1, 0, 1, 0, 0]), (2, [1, 1, 0, 1, 0, 0]), (1, [0]), (0, [1, 1, 1])], fun σ w => dK (slotOf σ 1) fun c_ => dL (slotOf σ 3) fun b_b_ b_l_ b_c_ => dI .i64 (slotOf σ 4) fun i_ => N1 c_ b_b_ b_l_ b_c_ i_ w)] 2000) [(0, [1, 1, 0, 1, 0, 0, 0, 1]), (0, [1, 1, 0, 1, 0, 0, 1]), (2, [1, 1, 0, 1, 0, 0]), (1, [0]), (0, [1, 1, 1])] [(1, .pointer (some ⟨c, 0, none⟩)), (3, .slice b_b b_l b_c), (4, .int .i64 i), (13, .bool t13)] w := by kernel_rfl
theorem kv_keyOf.B1_sound {R : ByteArray → World → Prop} {N1 : Nat → Option Addr → Nat → Nat → Int → World → Prop} (hN1 : ∀ c b_b b_l b_c i w, N1 c b_b b_l b_c i w → KW Try.prog 22 25 (kv_keyOf.RV R) ([(0, [1, 1, 0, 1, 0, 0]), (2, [1, 1, 0, 1, 0, 0]), (1, [0]), (0, [1, 1, 1])].map (toItem (Try.f22.body.getD .skip))) [(1, .pointer (some ⟨c, 0, none⟩)), (3, .slice b_b b_l b_c), (4, .int .i64 i)] w) (c : Nat) (b_b : Option Addr) (b_l b_c : Nat) (i : Int) (t13 : Bool) (w : World) (h : kv_keyOf.B1 c b_b b_l b_c i t13 w N1  R) :
    KW Try.prog 22 25 (kv_keyOf.RV R) ([(0, [1, 1, 0, 1, 0, 0, 0, 1]), (0, [1, 1, 0, 1, 0, 0, 1]), (2, [1, 1, 0, 1, 0, 0]), (1, [0]), (0, [1, 1, 1])].map (toItem (Try.f22.body.getD .skip))) [(1, .pointer (some ⟨c, 0, none⟩)), (3, .slice b_b b_l b_c), (4, .int .i64 i), (13, .bool t13)] w := by
  exact block_spec Try.func22 Try.mixed (stops_cons (fun σ w h => by
      obtain ⟨c_, e0, h⟩ := dK_elim h
      obtain ⟨b_b_, b_l_, b_c_, e1, h⟩ := dL_elim h
      obtain ⟨i_, e2, h⟩ := dI_elim h
      exact (hN1 c_ b_b_ b_l_ b_c_ i_ w h).weaken (Sub.cons (Sub.cons (Sub.cons (Sub.nil _) e2) e1) e0)) stops_nil) (Eq.mp (kv_keyOf.B1_eq c b_b b_l b_c i t13 w N1  R ) h)
def kv_keyOf.L1b (c : Nat) (b_b : Option Addr) (b_l b_c : Nat) (i : Int) (w : World)  (N1 : Nat → Option Addr → Nat → Nat → Int → World → Prop) (R : ByteArray → World → Prop) : Prop :=
  LdI .i64 ⟨c, 1, none⟩ w fun x8 =>
  Bm (decide (i < x8)) (
    kv_keyOf.B1 c b_b b_l b_c i (decide (i < (2 : Int))) w N1 R) (
    kv_keyOf.B1 c b_b b_l b_c i false w N1 R)
theorem kv_keyOf.L1b_eq (c : Nat) (b_b : Option Addr) (b_l b_c : Nat) (i : Int) (w : World)  (N1 : Nat → Option Addr → Nat → Nat → Int → World → Prop) (R : ByteArray → World → Prop) (sB1 : Nat → Option Addr → Nat → Nat → Int → Bool → World → Prop) :
    (
  LdI .i64 ⟨c, 1, none⟩ w fun x8 =>
  Bm (decide (i < x8)) (
    sB1 c b_b b_l b_c i (decide (i < (2 : Int))) w) (
    sB1 c b_b b_l b_c i false w)) = kstep Try.prog 25 Try.f22.results.toList (Try.f22.body.getD .skip) (kv_keyOf.RV R) (kvc Try.prog 25 Try.f22.results.toList (Try.f22.body.getD .skip) (kv_keyOf.RV R) [([(0, [1, 1, 0, 1, 0, 0, 0, 1]), (0, [1, 1, 0, 1, 0, 0, 1]), (2, [1, 1, 0, 1, 0, 0]), (1, [0]), (0, [1, 1, 1])], fun σ w => dK (slotOf σ 1) fun c_ => dL (slotOf σ 3) fun b_b_ b_l_ b_c_ => dI .i64 (slotOf σ 4) fun i_ => dB (slotOf σ 13) fun t13_ => sB1 c_ b_b_ b_l_ b_c_ i_ t13_ w)] 2000) [(0, [1, 1, 0, 1, 0, 0]), (2, [1, 1, 0, 1, 0, 0]), (1, [0]), (0, [1, 1, 1])] [(1, .pointer (some ⟨c, 0, none⟩)), (3, .slice b_b b_l b_c), (4, .int .i64 i)] w := by kernel_rfl
theorem kv_keyOf.L1b_sound {R : ByteArray → World → Prop} {N1 : Nat → Option Addr → Nat → Nat → Int → World → Prop} (hN1 : ∀ c b_b b_l b_c i w, N1 c b_b b_l b_c i w → KW Try.prog 22 25 (kv_keyOf.RV R) ([(0, [1, 1, 0, 1, 0, 0]), (2, [1, 1, 0, 1, 0, 0]), (1, [0]), (0, [1, 1, 1])].map (toItem (Try.f22.body.getD .skip))) [(1, .pointer (some ⟨c, 0, none⟩)), (3, .slice b_b b_l b_c), (4, .int .i64 i)] w) (c : Nat) (b_b : Option Addr) (b_l b_c : Nat) (i : Int) (w : World) (h : kv_keyOf.L1b c b_b b_l b_c i w  N1 R) :
    KW Try.prog 22 25 (kv_keyOf.RV R) ([(0, [1, 1, 0, 1, 0, 0]), (2, [1, 1, 0, 1, 0, 0]), (1, [0]), (0, [1, 1, 1])].map (toItem (Try.f22.body.getD .skip))) [(1, .pointer (some ⟨c, 0, none⟩)), (3, .slice b_b b_l b_c), (4, .int .i64 i)] w := by
  exact block_spec Try.func22 Try.mixed (stops_cons (fun σ w h => by
      obtain ⟨c_, e0, h⟩ := dK_elim h
      obtain ⟨b_b_, b_l_, b_c_, e1, h⟩ := dL_elim h
      obtain ⟨i_, e2, h⟩ := dI_elim h
      obtain ⟨t13_, e3, h⟩ := dB_elim h
      exact (kv_keyOf.B1_sound hN1 c_ b_b_ b_l_ b_c_ i_ t13_ w h).weaken (Sub.cons (Sub.cons (Sub.cons (Sub.cons (Sub.nil _) e3) e2) e1) e0)) stops_nil) (Eq.mp (kv_keyOf.L1b_eq c b_b b_l b_c i w  N1 R (fun c_ b_b_ b_l_ b_c_ i_ t13_ w => kv_keyOf.B1 c_ b_b_ b_l_ b_c_ i_ t13_ w N1 R)) h)
def kv_keyOf.L1 (c : Nat) (b_b : Option Addr) (b_l b_c : Nat) (i : Int) (w : World)  (R : ByteArray → World → Prop) : Prop :=
  ∃ (I : Nat → Nat → Option Addr → Nat → Nat → Int → World → Prop) (m : Nat), I m c b_b b_l b_c i w ∧ ∀ m c b_b b_l b_c i w, I m c b_b b_l b_c i w → kv_keyOf.L1b c b_b b_l b_c i w  (fun c' b_b' b_l' b_c' i' w' => ∃ m', m' < m ∧ I m' c' b_b' b_l' b_c' i' w') R
theorem kv_keyOf.L1_sound {R : ByteArray → World → Prop}  (c : Nat) (b_b : Option Addr) (b_l b_c : Nat) (i : Int) (w : World) (h : kv_keyOf.L1 c b_b b_l b_c i w  R) :
    KW Try.prog 22 25 (kv_keyOf.RV R) ([(0, [1, 1, 0, 1, 0, 0]), (2, [1, 1, 0, 1, 0, 0]), (1, [0]), (0, [1, 1, 1])].map (toItem (Try.f22.body.getD .skip))) [(1, .pointer (some ⟨c, 0, none⟩)), (3, .slice b_b b_l b_c), (4, .int .i64 i)] w := by
  obtain ⟨I, m, hBase, hr⟩ := h
  refine KW.loop (fun m σ w => ∃ (c : Nat) (b_b : Option Addr) (b_l b_c : Nat) (i : Int), σ = [(1, .pointer (some ⟨c, 0, none⟩)), (3, .slice b_b b_l b_c), (4, .int .i64 i)] ∧ I m c b_b b_l b_c i w) ?_ m _ w ⟨c, b_b, b_l, b_c, i, rfl, hBase⟩
  rintro m ih σ w ⟨c, b_b, b_l, b_c, i, rfl, hI⟩
  exact kv_keyOf.L1b_sound  (N1 := fun c' b_b' b_l' b_c' i' w' => ∃ m', m' < m ∧ I m' c' b_b' b_l' b_c' i' w') (fun c' b_b' b_l' b_c' i' w' hx => by obtain ⟨m', hlt, hI'⟩ := hx; exact ih m' hlt _ w' ⟨c', b_b', b_l', b_c', i', rfl, hI'⟩) c b_b b_l b_c i w (hr m c b_b b_l b_c i w hI)
def kv_keyOf.B0 (c_0 c_1 c_2 c_3 c_4 c_5 c_6 c_7 : Int) (w : World)   (R : ByteArray → World → Prop) : Prop :=
  New (.cells #[.int .i64 c_0, .int .i64 c_1, .int .u8 c_2, .int .u8 c_3, .int .i64 c_4, .int .u8 c_5, .int .u8 c_6, .int .u8 c_7] 42) w fun c_ w1 =>
  Make 5 (.int .u8 (0 : Int)) 1 1 (0 : Int) (2 : Int) w1 fun b5 w2 =>
  kv_keyOf.L1 c_ (some ⟨b5, 0, none⟩) 0 2 (0 : Int) w2  R
theorem kv_keyOf.B0_eq (c_0 c_1 c_2 c_3 c_4 c_5 c_6 c_7 : Int) (w : World)   (R : ByteArray → World → Prop) (sL1 : Nat → Option Addr → Nat → Nat → Int → World → Prop) :
    (
  New (.cells #[.int .i64 c_0, .int .i64 c_1, .int .u8 c_2, .int .u8 c_3, .int .i64 c_4, .int .u8 c_5, .int .u8 c_6, .int .u8 c_7] 42) w fun c_ w1 =>
  Make 5 (.int .u8 (0 : Int)) 1 1 (0 : Int) (2 : Int) w1 fun b5 w2 =>
  sL1 c_ (some ⟨b5, 0, none⟩) 0 2 (0 : Int) w2) = kstep Try.prog 25 Try.f22.results.toList (Try.f22.body.getD .skip) (kv_keyOf.RV R) (kvc Try.prog 25 Try.f22.results.toList (Try.f22.body.getD .skip) (kv_keyOf.RV R) [([(0, [1, 1, 0, 1, 0, 0]), (2, [1, 1, 0, 1, 0, 0]), (1, [0]), (0, [1, 1, 1])], fun σ w => dK (slotOf σ 1) fun c_ => dL (slotOf σ 3) fun b_b_ b_l_ b_c_ => dI .i64 (slotOf σ 4) fun i_ => sL1 c_ b_b_ b_l_ b_c_ i_ w)] 2000) [(0, [])] [(0, .agg #[.int .i64 c_0, .int .i64 c_1, .int .u8 c_2, .int .u8 c_3, .int .i64 c_4, .int .u8 c_5, .int .u8 c_6, .int .u8 c_7])] w := by kernel_rfl
theorem kv_keyOf.B0_sound {R : ByteArray → World → Prop}  (c_0 c_1 c_2 c_3 c_4 c_5 c_6 c_7 : Int) (w : World) (h : kv_keyOf.B0 c_0 c_1 c_2 c_3 c_4 c_5 c_6 c_7 w   R) :
    KW Try.prog 22 25 (kv_keyOf.RV R) ([(0, [])].map (toItem (Try.f22.body.getD .skip))) [(0, .agg #[.int .i64 c_0, .int .i64 c_1, .int .u8 c_2, .int .u8 c_3, .int .i64 c_4, .int .u8 c_5, .int .u8 c_6, .int .u8 c_7])] w := by
  exact block_spec Try.func22 Try.mixed (stops_cons (fun σ w h => by
      obtain ⟨c_, e0, h⟩ := dK_elim h
      obtain ⟨b_b_, b_l_, b_c_, e1, h⟩ := dL_elim h
      obtain ⟨i_, e2, h⟩ := dI_elim h
      exact (kv_keyOf.L1_sound  c_ b_b_ b_l_ b_c_ i_ w h).weaken (Sub.cons (Sub.cons (Sub.cons (Sub.nil _) e2) e1) e0)) stops_nil) (Eq.mp (kv_keyOf.B0_eq c_0 c_1 c_2 c_3 c_4 c_5 c_6 c_7 w   R (fun c_ b_b_ b_l_ b_c_ i_ w => kv_keyOf.L1 c_ b_b_ b_l_ b_c_ i_ w  R)) h)
theorem kv_keyOf.sound (c_0 c_1 c_2 c_3 c_4 c_5 c_6 c_7 : Int) (w : World) (R : ByteArray → World → Prop) (h : kv_keyOf.B0 c_0 c_1 c_2 c_3 c_4 c_5 c_6 c_7 w R) : kv_keyOf.Call c_0 c_1 c_2 c_3 c_4 c_5 c_6 c_7 w R := by
  have hc := calls_of_block (args := #[.agg #[.int .i64 c_0, .int .i64 c_1, .int .u8 c_2, .int .u8 c_3, .int .i64 c_4, .int .u8 c_5, .int .u8 c_6, .int .u8 c_7]]) Try.func22 (body := (Try.f22.body.getD .skip)) (by kernel_rfl) (by kernel_rfl) (args_slot _) (kv_keyOf.B0_sound c_0 c_1 c_2 c_3 c_4 c_5 c_6 c_7 w h)
  exact hc.mono fun e w' he => by
    obtain ⟨v, rfl, hv⟩ := he
    exact kv_keyOf.RV_elim hv
def kv_appendStr.L1b (b_b : Option Addr) (b_l b_c : Nat) (s : ByteArray) (i : Int) (w : World)  (N1 : Option Addr → Nat → Nat → ByteArray → Int → World → Prop) (R : Option Addr → Nat → Nat → World → Prop) : Prop :=
  Bm (decide (i < ((s.size : Nat) : Int))) (
    (0 ≤ i ∧ i < ((s.size : Nat) : Int)) ∧
    New (.cells #[.int .u8 (byteAt s i)] 5) w fun b22 w1 =>
    Append 5 (.int .u8 (0 : Int)) 1 1 b_b b_l b_c (some ⟨b22, 0, none⟩) 1 w1 fun b23 c23 w2 =>
    N1 b23 (b_l + 1) c23 s (IntKind.i64.wrap (i + (1 : Int))) w2) (
    R b_b b_l b_c w)
theorem kv_appendStr.L1b_eq (b_b : Option Addr) (b_l b_c : Nat) (s : ByteArray) (i : Int) (w : World)  (N1 : Option Addr → Nat → Nat → ByteArray → Int → World → Prop) (R : Option Addr → Nat → Nat → World → Prop)  :
    (
  Bm (decide (i < ((s.size : Nat) : Int))) (
    (0 ≤ i ∧ i < ((s.size : Nat) : Int)) ∧
    New (.cells #[.int .u8 (byteAt s i)] 5) w fun b22 w1 =>
    Append 5 (.int .u8 (0 : Int)) 1 1 b_b b_l b_c (some ⟨b22, 0, none⟩) 1 w1 fun b23 c23 w2 =>
    N1 b23 (b_l + 1) c23 s (IntKind.i64.wrap (i + (1 : Int))) w2) (
    R b_b b_l b_c w)) = kstep Try.prog 25 Try.f23.results.toList (Try.f23.body.getD .skip) (kv_appendStr.RV R) (kvc Try.prog 25 Try.f23.results.toList (Try.f23.body.getD .skip) (kv_appendStr.RV R) [([(0, [1, 1, 0, 1, 0, 0]), (2, [1, 1, 0, 1, 0, 0]), (1, [0]), (0, [1, 1, 1])], fun σ w => dL (slotOf σ 0) fun b_b_ b_l_ b_c_ => dS (slotOf σ 1) fun s_ => dI .i64 (slotOf σ 5) fun i_ => N1 b_b_ b_l_ b_c_ s_ i_ w)] 2000) [(0, [1, 1, 0, 1, 0, 0]), (2, [1, 1, 0, 1, 0, 0]), (1, [0]), (0, [1, 1, 1])] [(0, .slice b_b b_l b_c), (1, .string s), (5, .int .i64 i)] w := by kernel_rfl
theorem kv_appendStr.L1b_sound {R : Option Addr → Nat → Nat → World → Prop} {N1 : Option Addr → Nat → Nat → ByteArray → Int → World → Prop} (hN1 : ∀ b_b b_l b_c s i w, N1 b_b b_l b_c s i w → KW Try.prog 23 25 (kv_appendStr.RV R) ([(0, [1, 1, 0, 1, 0, 0]), (2, [1, 1, 0, 1, 0, 0]), (1, [0]), (0, [1, 1, 1])].map (toItem (Try.f23.body.getD .skip))) [(0, .slice b_b b_l b_c), (1, .string s), (5, .int .i64 i)] w) (b_b : Option Addr) (b_l b_c : Nat) (s : ByteArray) (i : Int) (w : World) (h : kv_appendStr.L1b b_b b_l b_c s i w  N1 R) :
    KW Try.prog 23 25 (kv_appendStr.RV R) ([(0, [1, 1, 0, 1, 0, 0]), (2, [1, 1, 0, 1, 0, 0]), (1, [0]), (0, [1, 1, 1])].map (toItem (Try.f23.body.getD .skip))) [(0, .slice b_b b_l b_c), (1, .string s), (5, .int .i64 i)] w := by
  exact block_spec Try.func23 Try.mixed (stops_cons (fun σ w h => by
      obtain ⟨b_b_, b_l_, b_c_, e0, h⟩ := dL_elim h
      obtain ⟨s_, e1, h⟩ := dS_elim h
      obtain ⟨i_, e2, h⟩ := dI_elim h
      exact (hN1 b_b_ b_l_ b_c_ s_ i_ w h).weaken (Sub.cons (Sub.cons (Sub.cons (Sub.nil _) e2) e1) e0)) stops_nil) (Eq.mp (kv_appendStr.L1b_eq b_b b_l b_c s i w  N1 R ) h)
def kv_appendStr.L1 (b_b : Option Addr) (b_l b_c : Nat) (s : ByteArray) (i : Int) (w : World)  (R : Option Addr → Nat → Nat → World → Prop) : Prop :=
  ∃ (I : Nat → Option Addr → Nat → Nat → ByteArray → Int → World → Prop) (m : Nat), I m b_b b_l b_c s i w ∧ ∀ m b_b b_l b_c s i w, I m b_b b_l b_c s i w → kv_appendStr.L1b b_b b_l b_c s i w  (fun b_b' b_l' b_c' s' i' w' => ∃ m', m' < m ∧ I m' b_b' b_l' b_c' s' i' w') R
theorem kv_appendStr.L1_sound {R : Option Addr → Nat → Nat → World → Prop}  (b_b : Option Addr) (b_l b_c : Nat) (s : ByteArray) (i : Int) (w : World) (h : kv_appendStr.L1 b_b b_l b_c s i w  R) :
    KW Try.prog 23 25 (kv_appendStr.RV R) ([(0, [1, 1, 0, 1, 0, 0]), (2, [1, 1, 0, 1, 0, 0]), (1, [0]), (0, [1, 1, 1])].map (toItem (Try.f23.body.getD .skip))) [(0, .slice b_b b_l b_c), (1, .string s), (5, .int .i64 i)] w := by
  obtain ⟨I, m, hBase, hr⟩ := h
  refine KW.loop (fun m σ w => ∃ (b_b : Option Addr) (b_l b_c : Nat) (s : ByteArray) (i : Int), σ = [(0, .slice b_b b_l b_c), (1, .string s), (5, .int .i64 i)] ∧ I m b_b b_l b_c s i w) ?_ m _ w ⟨b_b, b_l, b_c, s, i, rfl, hBase⟩
  rintro m ih σ w ⟨b_b, b_l, b_c, s, i, rfl, hI⟩
  exact kv_appendStr.L1b_sound  (N1 := fun b_b' b_l' b_c' s' i' w' => ∃ m', m' < m ∧ I m' b_b' b_l' b_c' s' i' w') (fun b_b' b_l' b_c' s' i' w' hx => by obtain ⟨m', hlt, hI'⟩ := hx; exact ih m' hlt _ w' ⟨b_b', b_l', b_c', s', i', rfl, hI'⟩) b_b b_l b_c s i w (hr m b_b b_l b_c s i w hI)
def kv_appendStr.B0 (b_b : Option Addr) (b_l b_c : Nat) (s : ByteArray) (w : World)   (R : Option Addr → Nat → Nat → World → Prop) : Prop :=
  New (.cells #[.int .u8 (IntKind.u8.wrap ((s.size : Nat) : Int))] 5) w fun b10 w1 =>
  Append 5 (.int .u8 (0 : Int)) 1 1 b_b b_l b_c (some ⟨b10, 0, none⟩) 1 w1 fun b11 c11 w2 =>
  kv_appendStr.L1 b11 (b_l + 1) c11 s (0 : Int) w2  R
theorem kv_appendStr.B0_eq (b_b : Option Addr) (b_l b_c : Nat) (s : ByteArray) (w : World)   (R : Option Addr → Nat → Nat → World → Prop) (sL1 : Option Addr → Nat → Nat → ByteArray → Int → World → Prop) :
    (
  New (.cells #[.int .u8 (IntKind.u8.wrap ((s.size : Nat) : Int))] 5) w fun b10 w1 =>
  Append 5 (.int .u8 (0 : Int)) 1 1 b_b b_l b_c (some ⟨b10, 0, none⟩) 1 w1 fun b11 c11 w2 =>
  sL1 b11 (b_l + 1) c11 s (0 : Int) w2) = kstep Try.prog 25 Try.f23.results.toList (Try.f23.body.getD .skip) (kv_appendStr.RV R) (kvc Try.prog 25 Try.f23.results.toList (Try.f23.body.getD .skip) (kv_appendStr.RV R) [([(0, [1, 1, 0, 1, 0, 0]), (2, [1, 1, 0, 1, 0, 0]), (1, [0]), (0, [1, 1, 1])], fun σ w => dL (slotOf σ 0) fun b_b_ b_l_ b_c_ => dS (slotOf σ 1) fun s_ => dI .i64 (slotOf σ 5) fun i_ => sL1 b_b_ b_l_ b_c_ s_ i_ w)] 2000) [(0, [])] [(0, .slice b_b b_l b_c), (1, .string s)] w := by kernel_rfl
theorem kv_appendStr.B0_sound {R : Option Addr → Nat → Nat → World → Prop}  (b_b : Option Addr) (b_l b_c : Nat) (s : ByteArray) (w : World) (h : kv_appendStr.B0 b_b b_l b_c s w   R) :
    KW Try.prog 23 25 (kv_appendStr.RV R) ([(0, [])].map (toItem (Try.f23.body.getD .skip))) [(0, .slice b_b b_l b_c), (1, .string s)] w := by
  exact block_spec Try.func23 Try.mixed (stops_cons (fun σ w h => by
      obtain ⟨b_b_, b_l_, b_c_, e0, h⟩ := dL_elim h
      obtain ⟨s_, e1, h⟩ := dS_elim h
      obtain ⟨i_, e2, h⟩ := dI_elim h
      exact (kv_appendStr.L1_sound  b_b_ b_l_ b_c_ s_ i_ w h).weaken (Sub.cons (Sub.cons (Sub.cons (Sub.nil _) e2) e1) e0)) stops_nil) (Eq.mp (kv_appendStr.B0_eq b_b b_l b_c s w   R (fun b_b_ b_l_ b_c_ s_ i_ w => kv_appendStr.L1 b_b_ b_l_ b_c_ s_ i_ w  R)) h)
theorem kv_appendStr.sound (b_b : Option Addr) (b_l b_c : Nat) (s : ByteArray) (w : World) (R : Option Addr → Nat → Nat → World → Prop) (h : kv_appendStr.B0 b_b b_l b_c s w R) : kv_appendStr.Call b_b b_l b_c s w R := by
  have hc := calls_of_block (args := #[.slice b_b b_l b_c, .string s]) Try.func23 (body := (Try.f23.body.getD .skip)) (by kernel_rfl) (by kernel_rfl) (args_slot _) (kv_appendStr.B0_sound b_b b_l b_c s w h)
  exact hc.mono fun e w' he => by
    obtain ⟨v, rfl, hv⟩ := he
    exact kv_appendStr.RV_elim hv
def kv_valOf.B1 (c : Nat) (b_b : Option Addr) (b_l b_c : Nat) (i : Int) (t13 : Bool) (w : World) (N1 : Nat → Option Addr → Nat → Nat → Int → World → Prop)  (R : ByteArray → World → Prop) : Prop :=
  Bm t13 (
    (0 ≤ i ∧ i < ((3 : Nat) : Int)) ∧
    LdI .u8 (Addr.add ⟨c, 5, none⟩ (i.toNat * 1)) w fun x20 =>
    New (.cells #[.int .u8 x20] 5) w fun b21 w1 =>
    Append 5 (.int .u8 (0 : Int)) 1 1 b_b b_l b_c (some ⟨b21, 0, none⟩) 1 w1 fun b22 c22 w2 =>
    N1 c b22 (b_l + 1) c22 (IntKind.i64.wrap (i + (1 : Int))) w2) (
    ToStr b_b b_l w fun s24 =>
    R s24 w)
theorem kv_valOf.B1_eq (c : Nat) (b_b : Option Addr) (b_l b_c : Nat) (i : Int) (t13 : Bool) (w : World) (N1 : Nat → Option Addr → Nat → Nat → Int → World → Prop)  (R : ByteArray → World → Prop)  :
    (
  Bm t13 (
    (0 ≤ i ∧ i < ((3 : Nat) : Int)) ∧
    LdI .u8 (Addr.add ⟨c, 5, none⟩ (i.toNat * 1)) w fun x20 =>
    New (.cells #[.int .u8 x20] 5) w fun b21 w1 =>
    Append 5 (.int .u8 (0 : Int)) 1 1 b_b b_l b_c (some ⟨b21, 0, none⟩) 1 w1 fun b22 c22 w2 =>
    N1 c b22 (b_l + 1) c22 (IntKind.i64.wrap (i + (1 : Int))) w2) (
    ToStr b_b b_l w fun s24 =>
    R s24 w)) = kstep Try.prog 25 Try.f24.results.toList (Try.f24.body.getD .skip) (kv_valOf.RV R) (kvc Try.prog 25 Try.f24.results.toList (Try.f24.body.getD .skip) (kv_valOf.RV R) [([(0, [1, 1, 0, 1, 0, 0]), (2, [1, 1, 0, 1, 0, 0]), (1, [0]), (0, [1, 1, 1])], fun σ w => dK (slotOf σ 1) fun c_ => dL (slotOf σ 3) fun b_b_ b_l_ b_c_ => dI .i64 (slotOf σ 4) fun i_ => N1 c_ b_b_ b_l_ b_c_ i_ w)] 2000) [(0, [1, 1, 0, 1, 0, 0, 0, 1]), (0, [1, 1, 0, 1, 0, 0, 1]), (2, [1, 1, 0, 1, 0, 0]), (1, [0]), (0, [1, 1, 1])] [(1, .pointer (some ⟨c, 0, none⟩)), (3, .slice b_b b_l b_c), (4, .int .i64 i), (13, .bool t13)] w := by kernel_rfl
theorem kv_valOf.B1_sound {R : ByteArray → World → Prop} {N1 : Nat → Option Addr → Nat → Nat → Int → World → Prop} (hN1 : ∀ c b_b b_l b_c i w, N1 c b_b b_l b_c i w → KW Try.prog 24 25 (kv_valOf.RV R) ([(0, [1, 1, 0, 1, 0, 0]), (2, [1, 1, 0, 1, 0, 0]), (1, [0]), (0, [1, 1, 1])].map (toItem (Try.f24.body.getD .skip))) [(1, .pointer (some ⟨c, 0, none⟩)), (3, .slice b_b b_l b_c), (4, .int .i64 i)] w) (c : Nat) (b_b : Option Addr) (b_l b_c : Nat) (i : Int) (t13 : Bool) (w : World) (h : kv_valOf.B1 c b_b b_l b_c i t13 w N1  R) :
    KW Try.prog 24 25 (kv_valOf.RV R) ([(0, [1, 1, 0, 1, 0, 0, 0, 1]), (0, [1, 1, 0, 1, 0, 0, 1]), (2, [1, 1, 0, 1, 0, 0]), (1, [0]), (0, [1, 1, 1])].map (toItem (Try.f24.body.getD .skip))) [(1, .pointer (some ⟨c, 0, none⟩)), (3, .slice b_b b_l b_c), (4, .int .i64 i), (13, .bool t13)] w := by
  exact block_spec Try.func24 Try.mixed (stops_cons (fun σ w h => by
      obtain ⟨c_, e0, h⟩ := dK_elim h
      obtain ⟨b_b_, b_l_, b_c_, e1, h⟩ := dL_elim h
      obtain ⟨i_, e2, h⟩ := dI_elim h
      exact (hN1 c_ b_b_ b_l_ b_c_ i_ w h).weaken (Sub.cons (Sub.cons (Sub.cons (Sub.nil _) e2) e1) e0)) stops_nil) (Eq.mp (kv_valOf.B1_eq c b_b b_l b_c i t13 w N1  R ) h)
def kv_valOf.L1b (c : Nat) (b_b : Option Addr) (b_l b_c : Nat) (i : Int) (w : World)  (N1 : Nat → Option Addr → Nat → Nat → Int → World → Prop) (R : ByteArray → World → Prop) : Prop :=
  LdI .i64 ⟨c, 4, none⟩ w fun x8 =>
  Bm (decide (i < x8)) (
    kv_valOf.B1 c b_b b_l b_c i (decide (i < (3 : Int))) w N1 R) (
    kv_valOf.B1 c b_b b_l b_c i false w N1 R)
theorem kv_valOf.L1b_eq (c : Nat) (b_b : Option Addr) (b_l b_c : Nat) (i : Int) (w : World)  (N1 : Nat → Option Addr → Nat → Nat → Int → World → Prop) (R : ByteArray → World → Prop) (sB1 : Nat → Option Addr → Nat → Nat → Int → Bool → World → Prop) :
    (
  LdI .i64 ⟨c, 4, none⟩ w fun x8 =>
  Bm (decide (i < x8)) (
    sB1 c b_b b_l b_c i (decide (i < (3 : Int))) w) (
    sB1 c b_b b_l b_c i false w)) = kstep Try.prog 25 Try.f24.results.toList (Try.f24.body.getD .skip) (kv_valOf.RV R) (kvc Try.prog 25 Try.f24.results.toList (Try.f24.body.getD .skip) (kv_valOf.RV R) [([(0, [1, 1, 0, 1, 0, 0, 0, 1]), (0, [1, 1, 0, 1, 0, 0, 1]), (2, [1, 1, 0, 1, 0, 0]), (1, [0]), (0, [1, 1, 1])], fun σ w => dK (slotOf σ 1) fun c_ => dL (slotOf σ 3) fun b_b_ b_l_ b_c_ => dI .i64 (slotOf σ 4) fun i_ => dB (slotOf σ 13) fun t13_ => sB1 c_ b_b_ b_l_ b_c_ i_ t13_ w)] 2000) [(0, [1, 1, 0, 1, 0, 0]), (2, [1, 1, 0, 1, 0, 0]), (1, [0]), (0, [1, 1, 1])] [(1, .pointer (some ⟨c, 0, none⟩)), (3, .slice b_b b_l b_c), (4, .int .i64 i)] w := by kernel_rfl
theorem kv_valOf.L1b_sound {R : ByteArray → World → Prop} {N1 : Nat → Option Addr → Nat → Nat → Int → World → Prop} (hN1 : ∀ c b_b b_l b_c i w, N1 c b_b b_l b_c i w → KW Try.prog 24 25 (kv_valOf.RV R) ([(0, [1, 1, 0, 1, 0, 0]), (2, [1, 1, 0, 1, 0, 0]), (1, [0]), (0, [1, 1, 1])].map (toItem (Try.f24.body.getD .skip))) [(1, .pointer (some ⟨c, 0, none⟩)), (3, .slice b_b b_l b_c), (4, .int .i64 i)] w) (c : Nat) (b_b : Option Addr) (b_l b_c : Nat) (i : Int) (w : World) (h : kv_valOf.L1b c b_b b_l b_c i w  N1 R) :
    KW Try.prog 24 25 (kv_valOf.RV R) ([(0, [1, 1, 0, 1, 0, 0]), (2, [1, 1, 0, 1, 0, 0]), (1, [0]), (0, [1, 1, 1])].map (toItem (Try.f24.body.getD .skip))) [(1, .pointer (some ⟨c, 0, none⟩)), (3, .slice b_b b_l b_c), (4, .int .i64 i)] w := by
  exact block_spec Try.func24 Try.mixed (stops_cons (fun σ w h => by
      obtain ⟨c_, e0, h⟩ := dK_elim h
      obtain ⟨b_b_, b_l_, b_c_, e1, h⟩ := dL_elim h
      obtain ⟨i_, e2, h⟩ := dI_elim h
      obtain ⟨t13_, e3, h⟩ := dB_elim h
      exact (kv_valOf.B1_sound hN1 c_ b_b_ b_l_ b_c_ i_ t13_ w h).weaken (Sub.cons (Sub.cons (Sub.cons (Sub.cons (Sub.nil _) e3) e2) e1) e0)) stops_nil) (Eq.mp (kv_valOf.L1b_eq c b_b b_l b_c i w  N1 R (fun c_ b_b_ b_l_ b_c_ i_ t13_ w => kv_valOf.B1 c_ b_b_ b_l_ b_c_ i_ t13_ w N1 R)) h)
def kv_valOf.L1 (c : Nat) (b_b : Option Addr) (b_l b_c : Nat) (i : Int) (w : World)  (R : ByteArray → World → Prop) : Prop :=
  ∃ (I : Nat → Nat → Option Addr → Nat → Nat → Int → World → Prop) (m : Nat), I m c b_b b_l b_c i w ∧ ∀ m c b_b b_l b_c i w, I m c b_b b_l b_c i w → kv_valOf.L1b c b_b b_l b_c i w  (fun c' b_b' b_l' b_c' i' w' => ∃ m', m' < m ∧ I m' c' b_b' b_l' b_c' i' w') R
theorem kv_valOf.L1_sound {R : ByteArray → World → Prop}  (c : Nat) (b_b : Option Addr) (b_l b_c : Nat) (i : Int) (w : World) (h : kv_valOf.L1 c b_b b_l b_c i w  R) :
    KW Try.prog 24 25 (kv_valOf.RV R) ([(0, [1, 1, 0, 1, 0, 0]), (2, [1, 1, 0, 1, 0, 0]), (1, [0]), (0, [1, 1, 1])].map (toItem (Try.f24.body.getD .skip))) [(1, .pointer (some ⟨c, 0, none⟩)), (3, .slice b_b b_l b_c), (4, .int .i64 i)] w := by
  obtain ⟨I, m, hBase, hr⟩ := h
  refine KW.loop (fun m σ w => ∃ (c : Nat) (b_b : Option Addr) (b_l b_c : Nat) (i : Int), σ = [(1, .pointer (some ⟨c, 0, none⟩)), (3, .slice b_b b_l b_c), (4, .int .i64 i)] ∧ I m c b_b b_l b_c i w) ?_ m _ w ⟨c, b_b, b_l, b_c, i, rfl, hBase⟩
  rintro m ih σ w ⟨c, b_b, b_l, b_c, i, rfl, hI⟩
  exact kv_valOf.L1b_sound  (N1 := fun c' b_b' b_l' b_c' i' w' => ∃ m', m' < m ∧ I m' c' b_b' b_l' b_c' i' w') (fun c' b_b' b_l' b_c' i' w' hx => by obtain ⟨m', hlt, hI'⟩ := hx; exact ih m' hlt _ w' ⟨c', b_b', b_l', b_c', i', rfl, hI'⟩) c b_b b_l b_c i w (hr m c b_b b_l b_c i w hI)
def kv_valOf.B0 (c_0 c_1 c_2 c_3 c_4 c_5 c_6 c_7 : Int) (w : World)   (R : ByteArray → World → Prop) : Prop :=
  New (.cells #[.int .i64 c_0, .int .i64 c_1, .int .u8 c_2, .int .u8 c_3, .int .i64 c_4, .int .u8 c_5, .int .u8 c_6, .int .u8 c_7] 42) w fun c_ w1 =>
  Make 5 (.int .u8 (0 : Int)) 1 1 (0 : Int) (3 : Int) w1 fun b5 w2 =>
  kv_valOf.L1 c_ (some ⟨b5, 0, none⟩) 0 3 (0 : Int) w2  R
theorem kv_valOf.B0_eq (c_0 c_1 c_2 c_3 c_4 c_5 c_6 c_7 : Int) (w : World)   (R : ByteArray → World → Prop) (sL1 : Nat → Option Addr → Nat → Nat → Int → World → Prop) :
    (
  New (.cells #[.int .i64 c_0, .int .i64 c_1, .int .u8 c_2, .int .u8 c_3, .int .i64 c_4, .int .u8 c_5, .int .u8 c_6, .int .u8 c_7] 42) w fun c_ w1 =>
  Make 5 (.int .u8 (0 : Int)) 1 1 (0 : Int) (3 : Int) w1 fun b5 w2 =>
  sL1 c_ (some ⟨b5, 0, none⟩) 0 3 (0 : Int) w2) = kstep Try.prog 25 Try.f24.results.toList (Try.f24.body.getD .skip) (kv_valOf.RV R) (kvc Try.prog 25 Try.f24.results.toList (Try.f24.body.getD .skip) (kv_valOf.RV R) [([(0, [1, 1, 0, 1, 0, 0]), (2, [1, 1, 0, 1, 0, 0]), (1, [0]), (0, [1, 1, 1])], fun σ w => dK (slotOf σ 1) fun c_ => dL (slotOf σ 3) fun b_b_ b_l_ b_c_ => dI .i64 (slotOf σ 4) fun i_ => sL1 c_ b_b_ b_l_ b_c_ i_ w)] 2000) [(0, [])] [(0, .agg #[.int .i64 c_0, .int .i64 c_1, .int .u8 c_2, .int .u8 c_3, .int .i64 c_4, .int .u8 c_5, .int .u8 c_6, .int .u8 c_7])] w := by kernel_rfl
theorem kv_valOf.B0_sound {R : ByteArray → World → Prop}  (c_0 c_1 c_2 c_3 c_4 c_5 c_6 c_7 : Int) (w : World) (h : kv_valOf.B0 c_0 c_1 c_2 c_3 c_4 c_5 c_6 c_7 w   R) :
    KW Try.prog 24 25 (kv_valOf.RV R) ([(0, [])].map (toItem (Try.f24.body.getD .skip))) [(0, .agg #[.int .i64 c_0, .int .i64 c_1, .int .u8 c_2, .int .u8 c_3, .int .i64 c_4, .int .u8 c_5, .int .u8 c_6, .int .u8 c_7])] w := by
  exact block_spec Try.func24 Try.mixed (stops_cons (fun σ w h => by
      obtain ⟨c_, e0, h⟩ := dK_elim h
      obtain ⟨b_b_, b_l_, b_c_, e1, h⟩ := dL_elim h
      obtain ⟨i_, e2, h⟩ := dI_elim h
      exact (kv_valOf.L1_sound  c_ b_b_ b_l_ b_c_ i_ w h).weaken (Sub.cons (Sub.cons (Sub.cons (Sub.nil _) e2) e1) e0)) stops_nil) (Eq.mp (kv_valOf.B0_eq c_0 c_1 c_2 c_3 c_4 c_5 c_6 c_7 w   R (fun c_ b_b_ b_l_ b_c_ i_ w => kv_valOf.L1 c_ b_b_ b_l_ b_c_ i_ w  R)) h)
theorem kv_valOf.sound (c_0 c_1 c_2 c_3 c_4 c_5 c_6 c_7 : Int) (w : World) (R : ByteArray → World → Prop) (h : kv_valOf.B0 c_0 c_1 c_2 c_3 c_4 c_5 c_6 c_7 w R) : kv_valOf.Call c_0 c_1 c_2 c_3 c_4 c_5 c_6 c_7 w R := by
  have hc := calls_of_block (args := #[.agg #[.int .i64 c_0, .int .i64 c_1, .int .u8 c_2, .int .u8 c_3, .int .i64 c_4, .int .u8 c_5, .int .u8 c_6, .int .u8 c_7]]) Try.func24 (body := (Try.f24.body.getD .skip)) (by kernel_rfl) (by kernel_rfl) (args_slot _) (kv_valOf.B0_sound c_0 c_1 c_2 c_3 c_4 c_5 c_6 c_7 w h)
  exact hc.mono fun e w' he => by
    obtain ⟨v, rfl, hv⟩ := he
    exact kv_valOf.RV_elim hv
end Go.Proofs.Qxb6500429a
