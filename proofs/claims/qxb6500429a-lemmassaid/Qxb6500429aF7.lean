import Derived.Test.Qxb6500429aSig
set_option maxRecDepth 100000
set_option linter.unusedVariables false
open Go.Vc
namespace Go.Proofs.Qxb6500429a
def kv_table_find.B1 (t : Option Addr) (key : ByteArray) (i n : Int) (w : World) (N1 : Option Addr → ByteArray → Int → Int → World → Prop)  (R : Int → World → Prop) : Prop :=
  kv_next.Call i w fun r33 w1 =>
  N1 t key r33 (IntKind.i64.wrap (n + (1 : Int))) w1
theorem kv_table_find.B1_eq (t : Option Addr) (key : ByteArray) (i n : Int) (w : World) (N1 : Option Addr → ByteArray → Int → Int → World → Prop)  (R : Int → World → Prop)  :
    (
  kv_next.Call i w fun r33 w1 =>
  N1 t key r33 (IntKind.i64.wrap (n + (1 : Int))) w1) = kstep Try.prog 34 Try.f60.results.toList (Try.f60.body.getD .skip) (kv_table_find.RV R) (kvc Try.prog 34 Try.f60.results.toList (Try.f60.body.getD .skip) (kv_table_find.RV R) [([(0, [1, 1, 0, 1, 0, 0]), (2, [1, 1, 0, 1, 0, 0]), (1, [0]), (0, [1, 1, 1])], fun σ w => dP (slotOf σ 0) fun t_ => dS (slotOf σ 1) fun key_ => dI .i64 (slotOf σ 5) fun i_ => dI .i64 (slotOf σ 6) fun n_ => N1 t_ key_ i_ n_ w)] 2000) [(0, [1, 1, 0, 1, 0, 0, 1, 0, 0, 1, 1, 1]), (1, [1]), (0, [1, 1, 0, 1, 0, 0, 1, 1]), (2, [1, 1, 0, 1, 0, 0]), (1, [0]), (0, [1, 1, 1])] [(0, .pointer t), (1, .string key), (5, .int .i64 i), (6, .int .i64 n)] w := by kernel_rfl
theorem kv_table_find.B1_sound {R : Int → World → Prop} {N1 : Option Addr → ByteArray → Int → Int → World → Prop} (hN1 : ∀ t key i n w, N1 t key i n w → KW Try.prog 60 34 (kv_table_find.RV R) ([(0, [1, 1, 0, 1, 0, 0]), (2, [1, 1, 0, 1, 0, 0]), (1, [0]), (0, [1, 1, 1])].map (toItem (Try.f60.body.getD .skip))) [(0, .pointer t), (1, .string key), (5, .int .i64 i), (6, .int .i64 n)] w) (t : Option Addr) (key : ByteArray) (i n : Int) (w : World) (h : kv_table_find.B1 t key i n w N1  R) :
    KW Try.prog 60 34 (kv_table_find.RV R) ([(0, [1, 1, 0, 1, 0, 0, 1, 0, 0, 1, 1, 1]), (1, [1]), (0, [1, 1, 0, 1, 0, 0, 1, 1]), (2, [1, 1, 0, 1, 0, 0]), (1, [0]), (0, [1, 1, 1])].map (toItem (Try.f60.body.getD .skip))) [(0, .pointer t), (1, .string key), (5, .int .i64 i), (6, .int .i64 n)] w := by
  exact block_spec Try.func60 Try.mixed (stops_cons (fun σ w h => by
      obtain ⟨t_, e0, h⟩ := dP_elim h
      obtain ⟨key_, e1, h⟩ := dS_elim h
      obtain ⟨i_, e2, h⟩ := dI_elim h
      obtain ⟨n_, e3, h⟩ := dI_elim h
      exact (hN1 t_ key_ i_ n_ w h).weaken (Sub.cons (Sub.cons (Sub.cons (Sub.cons (Sub.nil _) e3) e2) e1) e0)) stops_nil) (Eq.mp (kv_table_find.B1_eq t key i n w N1  R ) h)
def kv_table_find.L1b (t : Option Addr) (key : ByteArray) (i n : Int) (w : World)  (N1 : Option Addr → ByteArray → Int → Int → World → Prop) (R : Int → World → Prop) : Prop :=
  Bm (decide (n < (8 : Int))) (
    Pn t fun a =>
    (0 ≤ i ∧ i < ((8 : Nat) : Int)) ∧
    LdI .i64 (Addr.add a (i.toNat * 8)) w fun x20_0 =>
    LdI .i64 ((Addr.add a (i.toNat * 8)).add 1) w fun x20_1 =>
    LdI .u8 ((Addr.add a (i.toNat * 8)).add 2) w fun x20_2 =>
    LdI .u8 ((Addr.add a (i.toNat * 8)).add 3) w fun x20_3 =>
    LdI .i64 ((Addr.add a (i.toNat * 8)).add 4) w fun x20_4 =>
    LdI .u8 ((Addr.add a (i.toNat * 8)).add 5) w fun x20_5 =>
    LdI .u8 ((Addr.add a (i.toNat * 8)).add 6) w fun x20_6 =>
    LdI .u8 ((Addr.add a (i.toNat * 8)).add 7) w fun x20_7 =>
    New (.cells #[.int .i64 (0 : Int), .int .i64 (0 : Int), .int .u8 (0 : Int), .int .u8 (0 : Int), .int .i64 (0 : Int), .int .u8 (0 : Int), .int .u8 (0 : Int), .int .u8 (0 : Int)] 42) w fun c_ w1 =>
    Sts [.int .i64 x20_0, .int .i64 x20_1, .int .u8 x20_2, .int .u8 x20_3, .int .i64 x20_4, .int .u8 x20_5, .int .u8 x20_6, .int .u8 x20_7] ⟨c_, 0, none⟩ 0 w1 fun w2 =>
    LdI .i64 ⟨c_, 0, none⟩ w2 fun x22 =>
    Bm (x22 == (0 : Int)) (
      R (-1 : Int) w2) (
      LdI .i64 ⟨c_, 0, none⟩ w2 fun x25 =>
      Bm (x25 == (1 : Int)) (
        LdI .i64 ⟨c_, 0, none⟩ w2 fun x27_0 =>
        LdI .i64 ⟨c_, 1, none⟩ w2 fun x27_1 =>
        LdI .u8 ⟨c_, 2, none⟩ w2 fun x27_2 =>
        LdI .u8 ⟨c_, 3, none⟩ w2 fun x27_3 =>
        LdI .i64 ⟨c_, 4, none⟩ w2 fun x27_4 =>
        LdI .u8 ⟨c_, 5, none⟩ w2 fun x27_5 =>
        LdI .u8 ⟨c_, 6, none⟩ w2 fun x27_6 =>
        LdI .u8 ⟨c_, 7, none⟩ w2 fun x27_7 =>
        kv_keyIs.Call x27_0 x27_1 x27_2 x27_3 x27_4 x27_5 x27_6 x27_7 key w2 fun r29 w3 =>
        Bm r29 (
          R i w3) (
          kv_table_find.B1 t key i n w3 N1 R)) (
        kv_table_find.B1 t key i n w2 N1 R))) (
    R (-1 : Int) w)
theorem kv_table_find.L1b_eq (t : Option Addr) (key : ByteArray) (i n : Int) (w : World)  (N1 : Option Addr → ByteArray → Int → Int → World → Prop) (R : Int → World → Prop) (sB1 : Option Addr → ByteArray → Int → Int → World → Prop) :
    (
  Bm (decide (n < (8 : Int))) (
    Pn t fun a =>
    (0 ≤ i ∧ i < ((8 : Nat) : Int)) ∧
    LdI .i64 (Addr.add a (i.toNat * 8)) w fun x20_0 =>
    LdI .i64 ((Addr.add a (i.toNat * 8)).add 1) w fun x20_1 =>
    LdI .u8 ((Addr.add a (i.toNat * 8)).add 2) w fun x20_2 =>
    LdI .u8 ((Addr.add a (i.toNat * 8)).add 3) w fun x20_3 =>
    LdI .i64 ((Addr.add a (i.toNat * 8)).add 4) w fun x20_4 =>
    LdI .u8 ((Addr.add a (i.toNat * 8)).add 5) w fun x20_5 =>
    LdI .u8 ((Addr.add a (i.toNat * 8)).add 6) w fun x20_6 =>
    LdI .u8 ((Addr.add a (i.toNat * 8)).add 7) w fun x20_7 =>
    New (.cells #[.int .i64 (0 : Int), .int .i64 (0 : Int), .int .u8 (0 : Int), .int .u8 (0 : Int), .int .i64 (0 : Int), .int .u8 (0 : Int), .int .u8 (0 : Int), .int .u8 (0 : Int)] 42) w fun c_ w1 =>
    Sts [.int .i64 x20_0, .int .i64 x20_1, .int .u8 x20_2, .int .u8 x20_3, .int .i64 x20_4, .int .u8 x20_5, .int .u8 x20_6, .int .u8 x20_7] ⟨c_, 0, none⟩ 0 w1 fun w2 =>
    LdI .i64 ⟨c_, 0, none⟩ w2 fun x22 =>
    Bm (x22 == (0 : Int)) (
      R (-1 : Int) w2) (
      LdI .i64 ⟨c_, 0, none⟩ w2 fun x25 =>
      Bm (x25 == (1 : Int)) (
        LdI .i64 ⟨c_, 0, none⟩ w2 fun x27_0 =>
        LdI .i64 ⟨c_, 1, none⟩ w2 fun x27_1 =>
        LdI .u8 ⟨c_, 2, none⟩ w2 fun x27_2 =>
        LdI .u8 ⟨c_, 3, none⟩ w2 fun x27_3 =>
        LdI .i64 ⟨c_, 4, none⟩ w2 fun x27_4 =>
        LdI .u8 ⟨c_, 5, none⟩ w2 fun x27_5 =>
        LdI .u8 ⟨c_, 6, none⟩ w2 fun x27_6 =>
        LdI .u8 ⟨c_, 7, none⟩ w2 fun x27_7 =>
        kv_keyIs.Call x27_0 x27_1 x27_2 x27_3 x27_4 x27_5 x27_6 x27_7 key w2 fun r29 w3 =>
        Bm r29 (
          R i w3) (
          sB1 t key i n w3)) (
        sB1 t key i n w2))) (
    R (-1 : Int) w)) = kstep Try.prog 34 Try.f60.results.toList (Try.f60.body.getD .skip) (kv_table_find.RV R) (kvc Try.prog 34 Try.f60.results.toList (Try.f60.body.getD .skip) (kv_table_find.RV R) [([(0, [1, 1, 0, 1, 0, 0, 1, 0, 0, 1, 1, 1]), (1, [1]), (0, [1, 1, 0, 1, 0, 0, 1, 1]), (2, [1, 1, 0, 1, 0, 0]), (1, [0]), (0, [1, 1, 1])], fun σ w => dP (slotOf σ 0) fun t_ => dS (slotOf σ 1) fun key_ => dI .i64 (slotOf σ 5) fun i_ => dI .i64 (slotOf σ 6) fun n_ => sB1 t_ key_ i_ n_ w)] 2000) [(0, [1, 1, 0, 1, 0, 0]), (2, [1, 1, 0, 1, 0, 0]), (1, [0]), (0, [1, 1, 1])] [(0, .pointer t), (1, .string key), (5, .int .i64 i), (6, .int .i64 n)] w := by kernel_rfl
theorem kv_table_find.L1b_sound {R : Int → World → Prop} {N1 : Option Addr → ByteArray → Int → Int → World → Prop} (hN1 : ∀ t key i n w, N1 t key i n w → KW Try.prog 60 34 (kv_table_find.RV R) ([(0, [1, 1, 0, 1, 0, 0]), (2, [1, 1, 0, 1, 0, 0]), (1, [0]), (0, [1, 1, 1])].map (toItem (Try.f60.body.getD .skip))) [(0, .pointer t), (1, .string key), (5, .int .i64 i), (6, .int .i64 n)] w) (t : Option Addr) (key : ByteArray) (i n : Int) (w : World) (h : kv_table_find.L1b t key i n w  N1 R) :
    KW Try.prog 60 34 (kv_table_find.RV R) ([(0, [1, 1, 0, 1, 0, 0]), (2, [1, 1, 0, 1, 0, 0]), (1, [0]), (0, [1, 1, 1])].map (toItem (Try.f60.body.getD .skip))) [(0, .pointer t), (1, .string key), (5, .int .i64 i), (6, .int .i64 n)] w := by
  exact block_spec Try.func60 Try.mixed (stops_cons (fun σ w h => by
      obtain ⟨t_, e0, h⟩ := dP_elim h
      obtain ⟨key_, e1, h⟩ := dS_elim h
      obtain ⟨i_, e2, h⟩ := dI_elim h
      obtain ⟨n_, e3, h⟩ := dI_elim h
      exact (kv_table_find.B1_sound hN1 t_ key_ i_ n_ w h).weaken (Sub.cons (Sub.cons (Sub.cons (Sub.cons (Sub.nil _) e3) e2) e1) e0)) stops_nil) (Eq.mp (kv_table_find.L1b_eq t key i n w  N1 R (fun t_ key_ i_ n_ w => kv_table_find.B1 t_ key_ i_ n_ w N1 R)) h)
def kv_table_find.L1 (t : Option Addr) (key : ByteArray) (i n : Int) (w : World)  (R : Int → World → Prop) : Prop :=
  ∃ (I : Nat → Option Addr → ByteArray → Int → Int → World → Prop) (m : Nat), I m t key i n w ∧ ∀ m t key i n w, I m t key i n w → kv_table_find.L1b t key i n w  (fun t' key' i' n' w' => ∃ m', m' < m ∧ I m' t' key' i' n' w') R
theorem kv_table_find.L1_sound {R : Int → World → Prop}  (t : Option Addr) (key : ByteArray) (i n : Int) (w : World) (h : kv_table_find.L1 t key i n w  R) :
    KW Try.prog 60 34 (kv_table_find.RV R) ([(0, [1, 1, 0, 1, 0, 0]), (2, [1, 1, 0, 1, 0, 0]), (1, [0]), (0, [1, 1, 1])].map (toItem (Try.f60.body.getD .skip))) [(0, .pointer t), (1, .string key), (5, .int .i64 i), (6, .int .i64 n)] w := by
  obtain ⟨I, m, hBase, hr⟩ := h
  refine KW.loop (fun m σ w => ∃ (t : Option Addr) (key : ByteArray) (i n : Int), σ = [(0, .pointer t), (1, .string key), (5, .int .i64 i), (6, .int .i64 n)] ∧ I m t key i n w) ?_ m _ w ⟨t, key, i, n, rfl, hBase⟩
  rintro m ih σ w ⟨t, key, i, n, rfl, hI⟩
  exact kv_table_find.L1b_sound  (N1 := fun t' key' i' n' w' => ∃ m', m' < m ∧ I m' t' key' i' n' w') (fun t' key' i' n' w' hx => by obtain ⟨m', hlt, hI'⟩ := hx; exact ih m' hlt _ w' ⟨t', key', i', n', rfl, hI'⟩) t key i n w (hr m t key i n w hI)
def kv_table_find.B0 (t : Option Addr) (key : ByteArray) (w : World)   (R : Int → World → Prop) : Prop :=
  kv_hash.Call key w fun r10 w1 =>
  kv_table_find.L1 t key r10 (0 : Int) w1  R
theorem kv_table_find.B0_eq (t : Option Addr) (key : ByteArray) (w : World)   (R : Int → World → Prop) (sL1 : Option Addr → ByteArray → Int → Int → World → Prop) :
    (
  kv_hash.Call key w fun r10 w1 =>
  sL1 t key r10 (0 : Int) w1) = kstep Try.prog 34 Try.f60.results.toList (Try.f60.body.getD .skip) (kv_table_find.RV R) (kvc Try.prog 34 Try.f60.results.toList (Try.f60.body.getD .skip) (kv_table_find.RV R) [([(0, [1, 1, 0, 1, 0, 0]), (2, [1, 1, 0, 1, 0, 0]), (1, [0]), (0, [1, 1, 1])], fun σ w => dP (slotOf σ 0) fun t_ => dS (slotOf σ 1) fun key_ => dI .i64 (slotOf σ 5) fun i_ => dI .i64 (slotOf σ 6) fun n_ => sL1 t_ key_ i_ n_ w)] 2000) [(0, [])] [(0, .pointer t), (1, .string key)] w := by kernel_rfl
theorem kv_table_find.B0_sound {R : Int → World → Prop}  (t : Option Addr) (key : ByteArray) (w : World) (h : kv_table_find.B0 t key w   R) :
    KW Try.prog 60 34 (kv_table_find.RV R) ([(0, [])].map (toItem (Try.f60.body.getD .skip))) [(0, .pointer t), (1, .string key)] w := by
  exact block_spec Try.func60 Try.mixed (stops_cons (fun σ w h => by
      obtain ⟨t_, e0, h⟩ := dP_elim h
      obtain ⟨key_, e1, h⟩ := dS_elim h
      obtain ⟨i_, e2, h⟩ := dI_elim h
      obtain ⟨n_, e3, h⟩ := dI_elim h
      exact (kv_table_find.L1_sound  t_ key_ i_ n_ w h).weaken (Sub.cons (Sub.cons (Sub.cons (Sub.cons (Sub.nil _) e3) e2) e1) e0)) stops_nil) (Eq.mp (kv_table_find.B0_eq t key w   R (fun t_ key_ i_ n_ w => kv_table_find.L1 t_ key_ i_ n_ w  R)) h)
theorem kv_table_find.sound (t : Option Addr) (key : ByteArray) (w : World) (R : Int → World → Prop) (h : kv_table_find.B0 t key w R) : kv_table_find.Call t key w R := by
  have hc := calls_of_block (args := #[.pointer t, .string key]) Try.func60 (body := (Try.f60.body.getD .skip)) (by kernel_rfl) (by kernel_rfl) (args_slot _) (kv_table_find.B0_sound t key w h)
  exact hc.mono fun e w' he => by
    obtain ⟨v, rfl, hv⟩ := he
    exact kv_table_find.RV_elim hv
def kvm_KV_find.L1b (k : Option Addr) (key : ByteArray) (i : Int) (w : World)  (N1 : Option Addr → ByteArray → Int → World → Prop) (R : Int → World → Prop) : Prop :=
  Pn k fun a =>
  LdI .i64 a w fun x10 =>
  Bm (decide (i < x10)) (
    Pn k fun a_1 =>
    (0 ≤ i ∧ i < ((4 : Nat) : Int)) ∧
    LdS (Addr.add (a_1.add 1) (i.toNat * 1)) w fun x19 =>
    Bm (x19.toList == key.toList) (
      R i w) (
      N1 k key (IntKind.i64.wrap (i + (1 : Int))) w)) (
    R (-1 : Int) w)
theorem kvm_KV_find.L1b_eq (k : Option Addr) (key : ByteArray) (i : Int) (w : World)  (N1 : Option Addr → ByteArray → Int → World → Prop) (R : Int → World → Prop)  :
    (
  Pn k fun a =>
  LdI .i64 a w fun x10 =>
  Bm (decide (i < x10)) (
    Pn k fun a_1 =>
    (0 ≤ i ∧ i < ((4 : Nat) : Int)) ∧
    LdS (Addr.add (a_1.add 1) (i.toNat * 1)) w fun x19 =>
    Bm (x19.toList == key.toList) (
      R i w) (
      N1 k key (IntKind.i64.wrap (i + (1 : Int))) w)) (
    R (-1 : Int) w)) = kstep Try.prog 23 Try.f61.results.toList (Try.f61.body.getD .skip) (kvm_KV_find.RV R) (kvc Try.prog 23 Try.f61.results.toList (Try.f61.body.getD .skip) (kvm_KV_find.RV R) [([(0, [1, 0, 1, 0, 0]), (2, [1, 0, 1, 0, 0]), (1, [0]), (0, [1, 1])], fun σ w => dP (slotOf σ 0) fun k_ => dS (slotOf σ 1) fun key_ => dI .i64 (slotOf σ 5) fun i_ => N1 k_ key_ i_ w)] 2000) [(0, [1, 0, 1, 0, 0]), (2, [1, 0, 1, 0, 0]), (1, [0]), (0, [1, 1])] [(0, .pointer k), (1, .string key), (5, .int .i64 i)] w := by kernel_rfl
theorem kvm_KV_find.L1b_sound {R : Int → World → Prop} {N1 : Option Addr → ByteArray → Int → World → Prop} (hN1 : ∀ k key i w, N1 k key i w → KW Try.prog 61 23 (kvm_KV_find.RV R) ([(0, [1, 0, 1, 0, 0]), (2, [1, 0, 1, 0, 0]), (1, [0]), (0, [1, 1])].map (toItem (Try.f61.body.getD .skip))) [(0, .pointer k), (1, .string key), (5, .int .i64 i)] w) (k : Option Addr) (key : ByteArray) (i : Int) (w : World) (h : kvm_KV_find.L1b k key i w  N1 R) :
    KW Try.prog 61 23 (kvm_KV_find.RV R) ([(0, [1, 0, 1, 0, 0]), (2, [1, 0, 1, 0, 0]), (1, [0]), (0, [1, 1])].map (toItem (Try.f61.body.getD .skip))) [(0, .pointer k), (1, .string key), (5, .int .i64 i)] w := by
  exact block_spec Try.func61 Try.mixed (stops_cons (fun σ w h => by
      obtain ⟨k_, e0, h⟩ := dP_elim h
      obtain ⟨key_, e1, h⟩ := dS_elim h
      obtain ⟨i_, e2, h⟩ := dI_elim h
      exact (hN1 k_ key_ i_ w h).weaken (Sub.cons (Sub.cons (Sub.cons (Sub.nil _) e2) e1) e0)) stops_nil) (Eq.mp (kvm_KV_find.L1b_eq k key i w  N1 R ) h)
def kvm_KV_find.L1 (k : Option Addr) (key : ByteArray) (i : Int) (w : World)  (R : Int → World → Prop) : Prop :=
  ∃ (I : Nat → Option Addr → ByteArray → Int → World → Prop) (m : Nat), I m k key i w ∧ ∀ m k key i w, I m k key i w → kvm_KV_find.L1b k key i w  (fun k' key' i' w' => ∃ m', m' < m ∧ I m' k' key' i' w') R
theorem kvm_KV_find.L1_sound {R : Int → World → Prop}  (k : Option Addr) (key : ByteArray) (i : Int) (w : World) (h : kvm_KV_find.L1 k key i w  R) :
    KW Try.prog 61 23 (kvm_KV_find.RV R) ([(0, [1, 0, 1, 0, 0]), (2, [1, 0, 1, 0, 0]), (1, [0]), (0, [1, 1])].map (toItem (Try.f61.body.getD .skip))) [(0, .pointer k), (1, .string key), (5, .int .i64 i)] w := by
  obtain ⟨I, m, hBase, hr⟩ := h
  refine KW.loop (fun m σ w => ∃ (k : Option Addr) (key : ByteArray) (i : Int), σ = [(0, .pointer k), (1, .string key), (5, .int .i64 i)] ∧ I m k key i w) ?_ m _ w ⟨k, key, i, rfl, hBase⟩
  rintro m ih σ w ⟨k, key, i, rfl, hI⟩
  exact kvm_KV_find.L1b_sound  (N1 := fun k' key' i' w' => ∃ m', m' < m ∧ I m' k' key' i' w') (fun k' key' i' w' hx => by obtain ⟨m', hlt, hI'⟩ := hx; exact ih m' hlt _ w' ⟨k', key', i', rfl, hI'⟩) k key i w (hr m k key i w hI)
def kvm_KV_find.B0 (k : Option Addr) (key : ByteArray) (w : World)   (R : Int → World → Prop) : Prop :=
  kvm_KV_find.L1 k key (0 : Int) w  R
theorem kvm_KV_find.B0_eq (k : Option Addr) (key : ByteArray) (w : World)   (R : Int → World → Prop) (sL1 : Option Addr → ByteArray → Int → World → Prop) :
    (
  sL1 k key (0 : Int) w) = kstep Try.prog 23 Try.f61.results.toList (Try.f61.body.getD .skip) (kvm_KV_find.RV R) (kvc Try.prog 23 Try.f61.results.toList (Try.f61.body.getD .skip) (kvm_KV_find.RV R) [([(0, [1, 0, 1, 0, 0]), (2, [1, 0, 1, 0, 0]), (1, [0]), (0, [1, 1])], fun σ w => dP (slotOf σ 0) fun k_ => dS (slotOf σ 1) fun key_ => dI .i64 (slotOf σ 5) fun i_ => sL1 k_ key_ i_ w)] 2000) [(0, [])] [(0, .pointer k), (1, .string key)] w := by kernel_rfl
theorem kvm_KV_find.B0_sound {R : Int → World → Prop}  (k : Option Addr) (key : ByteArray) (w : World) (h : kvm_KV_find.B0 k key w   R) :
    KW Try.prog 61 23 (kvm_KV_find.RV R) ([(0, [])].map (toItem (Try.f61.body.getD .skip))) [(0, .pointer k), (1, .string key)] w := by
  exact block_spec Try.func61 Try.mixed (stops_cons (fun σ w h => by
      obtain ⟨k_, e0, h⟩ := dP_elim h
      obtain ⟨key_, e1, h⟩ := dS_elim h
      obtain ⟨i_, e2, h⟩ := dI_elim h
      exact (kvm_KV_find.L1_sound  k_ key_ i_ w h).weaken (Sub.cons (Sub.cons (Sub.cons (Sub.nil _) e2) e1) e0)) stops_nil) (Eq.mp (kvm_KV_find.B0_eq k key w   R (fun k_ key_ i_ w => kvm_KV_find.L1 k_ key_ i_ w  R)) h)
theorem kvm_KV_find.sound (k : Option Addr) (key : ByteArray) (w : World) (R : Int → World → Prop) (h : kvm_KV_find.B0 k key w R) : kvm_KV_find.Call k key w R := by
  have hc := calls_of_block (args := #[.pointer k, .string key]) Try.func61 (body := (Try.f61.body.getD .skip)) (by kernel_rfl) (by kernel_rfl) (args_slot _) (kvm_KV_find.B0_sound k key w h)
  exact hc.mono fun e w' he => by
    obtain ⟨v, rfl, hv⟩ := he
    exact kvm_KV_find.RV_elim hv
def kv_table_room.B1 (t : Option Addr) (i n : Int) (t20 : Bool) (w : World) (N1 : Option Addr → Int → Int → World → Prop)  (R : Int → World → Prop) : Prop :=
  Bm t20 (
    kv_next.Call i w fun r24 w1 =>
    N1 t r24 (IntKind.i64.wrap (n + (1 : Int))) w1) (
    R i w)
theorem kv_table_room.B1_eq (t : Option Addr) (i n : Int) (t20 : Bool) (w : World) (N1 : Option Addr → Int → Int → World → Prop)  (R : Int → World → Prop)  :
    (
  Bm t20 (
    kv_next.Call i w fun r24 w1 =>
    N1 t r24 (IntKind.i64.wrap (n + (1 : Int))) w1) (
    R i w)) = kstep Try.prog 26 Try.f62.results.toList (Try.f62.body.getD .skip) (kv_table_room.RV R) (kvc Try.prog 26 Try.f62.results.toList (Try.f62.body.getD .skip) (kv_table_room.RV R) [([(0, [1, 1, 0, 1, 0, 0]), (2, [1, 1, 0, 1, 0, 0]), (1, [0]), (0, [1, 1, 1])], fun σ w => dP (slotOf σ 0) fun t_ => dI .i64 (slotOf σ 5) fun i_ => dI .i64 (slotOf σ 6) fun n_ => N1 t_ i_ n_ w)] 2000) [(0, [1, 1, 0, 1, 0, 0, 0, 1]), (0, [1, 1, 0, 1, 0, 0, 1]), (2, [1, 1, 0, 1, 0, 0]), (1, [0]), (0, [1, 1, 1])] [(0, .pointer t), (5, .int .i64 i), (6, .int .i64 n), (20, .bool t20)] w := by kernel_rfl
theorem kv_table_room.B1_sound {R : Int → World → Prop} {N1 : Option Addr → Int → Int → World → Prop} (hN1 : ∀ t i n w, N1 t i n w → KW Try.prog 62 26 (kv_table_room.RV R) ([(0, [1, 1, 0, 1, 0, 0]), (2, [1, 1, 0, 1, 0, 0]), (1, [0]), (0, [1, 1, 1])].map (toItem (Try.f62.body.getD .skip))) [(0, .pointer t), (5, .int .i64 i), (6, .int .i64 n)] w) (t : Option Addr) (i n : Int) (t20 : Bool) (w : World) (h : kv_table_room.B1 t i n t20 w N1  R) :
    KW Try.prog 62 26 (kv_table_room.RV R) ([(0, [1, 1, 0, 1, 0, 0, 0, 1]), (0, [1, 1, 0, 1, 0, 0, 1]), (2, [1, 1, 0, 1, 0, 0]), (1, [0]), (0, [1, 1, 1])].map (toItem (Try.f62.body.getD .skip))) [(0, .pointer t), (5, .int .i64 i), (6, .int .i64 n), (20, .bool t20)] w := by
  exact block_spec Try.func62 Try.mixed (stops_cons (fun σ w h => by
      obtain ⟨t_, e0, h⟩ := dP_elim h
      obtain ⟨i_, e1, h⟩ := dI_elim h
      obtain ⟨n_, e2, h⟩ := dI_elim h
      exact (hN1 t_ i_ n_ w h).weaken (Sub.cons (Sub.cons (Sub.cons (Sub.nil _) e2) e1) e0)) stops_nil) (Eq.mp (kv_table_room.B1_eq t i n t20 w N1  R ) h)
def kv_table_room.L1b (t : Option Addr) (i n : Int) (w : World)  (N1 : Option Addr → Int → Int → World → Prop) (R : Int → World → Prop) : Prop :=
  Bm (decide (n < (8 : Int))) (
    Pn t fun a =>
    (0 ≤ i ∧ i < ((8 : Nat) : Int)) ∧
    LdI .i64 (Addr.add a (i.toNat * 8)) w fun x18 =>
    kv_table_room.B1 t i n (x18 == (1 : Int)) w N1 R) (
    kv_table_room.B1 t i n false w N1 R)
theorem kv_table_room.L1b_eq (t : Option Addr) (i n : Int) (w : World)  (N1 : Option Addr → Int → Int → World → Prop) (R : Int → World → Prop) (sB1 : Option Addr → Int → Int → Bool → World → Prop) :
    (
  Bm (decide (n < (8 : Int))) (
    Pn t fun a =>
    (0 ≤ i ∧ i < ((8 : Nat) : Int)) ∧
    LdI .i64 (Addr.add a (i.toNat * 8)) w fun x18 =>
    sB1 t i n (x18 == (1 : Int)) w) (
    sB1 t i n false w)) = kstep Try.prog 26 Try.f62.results.toList (Try.f62.body.getD .skip) (kv_table_room.RV R) (kvc Try.prog 26 Try.f62.results.toList (Try.f62.body.getD .skip) (kv_table_room.RV R) [([(0, [1, 1, 0, 1, 0, 0, 0, 1]), (0, [1, 1, 0, 1, 0, 0, 1]), (2, [1, 1, 0, 1, 0, 0]), (1, [0]), (0, [1, 1, 1])], fun σ w => dP (slotOf σ 0) fun t_ => dI .i64 (slotOf σ 5) fun i_ => dI .i64 (slotOf σ 6) fun n_ => dB (slotOf σ 20) fun t20_ => sB1 t_ i_ n_ t20_ w)] 2000) [(0, [1, 1, 0, 1, 0, 0]), (2, [1, 1, 0, 1, 0, 0]), (1, [0]), (0, [1, 1, 1])] [(0, .pointer t), (5, .int .i64 i), (6, .int .i64 n)] w := by kernel_rfl
theorem kv_table_room.L1b_sound {R : Int → World → Prop} {N1 : Option Addr → Int → Int → World → Prop} (hN1 : ∀ t i n w, N1 t i n w → KW Try.prog 62 26 (kv_table_room.RV R) ([(0, [1, 1, 0, 1, 0, 0]), (2, [1, 1, 0, 1, 0, 0]), (1, [0]), (0, [1, 1, 1])].map (toItem (Try.f62.body.getD .skip))) [(0, .pointer t), (5, .int .i64 i), (6, .int .i64 n)] w) (t : Option Addr) (i n : Int) (w : World) (h : kv_table_room.L1b t i n w  N1 R) :
    KW Try.prog 62 26 (kv_table_room.RV R) ([(0, [1, 1, 0, 1, 0, 0]), (2, [1, 1, 0, 1, 0, 0]), (1, [0]), (0, [1, 1, 1])].map (toItem (Try.f62.body.getD .skip))) [(0, .pointer t), (5, .int .i64 i), (6, .int .i64 n)] w := by
  exact block_spec Try.func62 Try.mixed (stops_cons (fun σ w h => by
      obtain ⟨t_, e0, h⟩ := dP_elim h
      obtain ⟨i_, e1, h⟩ := dI_elim h
      obtain ⟨n_, e2, h⟩ := dI_elim h
      obtain ⟨t20_, e3, h⟩ := dB_elim h
      exact (kv_table_room.B1_sound hN1 t_ i_ n_ t20_ w h).weaken (Sub.cons (Sub.cons (Sub.cons (Sub.cons (Sub.nil _) e3) e2) e1) e0)) stops_nil) (Eq.mp (kv_table_room.L1b_eq t i n w  N1 R (fun t_ i_ n_ t20_ w => kv_table_room.B1 t_ i_ n_ t20_ w N1 R)) h)
def kv_table_room.L1 (t : Option Addr) (i n : Int) (w : World)  (R : Int → World → Prop) : Prop :=
  ∃ (I : Nat → Option Addr → Int → Int → World → Prop) (m : Nat), I m t i n w ∧ ∀ m t i n w, I m t i n w → kv_table_room.L1b t i n w  (fun t' i' n' w' => ∃ m', m' < m ∧ I m' t' i' n' w') R
theorem kv_table_room.L1_sound {R : Int → World → Prop}  (t : Option Addr) (i n : Int) (w : World) (h : kv_table_room.L1 t i n w  R) :
    KW Try.prog 62 26 (kv_table_room.RV R) ([(0, [1, 1, 0, 1, 0, 0]), (2, [1, 1, 0, 1, 0, 0]), (1, [0]), (0, [1, 1, 1])].map (toItem (Try.f62.body.getD .skip))) [(0, .pointer t), (5, .int .i64 i), (6, .int .i64 n)] w := by
  obtain ⟨I, m, hBase, hr⟩ := h
  refine KW.loop (fun m σ w => ∃ (t : Option Addr) (i n : Int), σ = [(0, .pointer t), (5, .int .i64 i), (6, .int .i64 n)] ∧ I m t i n w) ?_ m _ w ⟨t, i, n, rfl, hBase⟩
  rintro m ih σ w ⟨t, i, n, rfl, hI⟩
  exact kv_table_room.L1b_sound  (N1 := fun t' i' n' w' => ∃ m', m' < m ∧ I m' t' i' n' w') (fun t' i' n' w' hx => by obtain ⟨m', hlt, hI'⟩ := hx; exact ih m' hlt _ w' ⟨t', i', n', rfl, hI'⟩) t i n w (hr m t i n w hI)
def kv_table_room.B0 (t : Option Addr) (key : ByteArray) (w : World)   (R : Int → World → Prop) : Prop :=
  kv_hash.Call key w fun r8 w1 =>
  kv_table_room.L1 t r8 (0 : Int) w1  R
theorem kv_table_room.B0_eq (t : Option Addr) (key : ByteArray) (w : World)   (R : Int → World → Prop) (sL1 : Option Addr → Int → Int → World → Prop) :
    (
  kv_hash.Call key w fun r8 w1 =>
  sL1 t r8 (0 : Int) w1) = kstep Try.prog 26 Try.f62.results.toList (Try.f62.body.getD .skip) (kv_table_room.RV R) (kvc Try.prog 26 Try.f62.results.toList (Try.f62.body.getD .skip) (kv_table_room.RV R) [([(0, [1, 1, 0, 1, 0, 0]), (2, [1, 1, 0, 1, 0, 0]), (1, [0]), (0, [1, 1, 1])], fun σ w => dP (slotOf σ 0) fun t_ => dI .i64 (slotOf σ 5) fun i_ => dI .i64 (slotOf σ 6) fun n_ => sL1 t_ i_ n_ w)] 2000) [(0, [])] [(0, .pointer t), (1, .string key)] w := by kernel_rfl
theorem kv_table_room.B0_sound {R : Int → World → Prop}  (t : Option Addr) (key : ByteArray) (w : World) (h : kv_table_room.B0 t key w   R) :
    KW Try.prog 62 26 (kv_table_room.RV R) ([(0, [])].map (toItem (Try.f62.body.getD .skip))) [(0, .pointer t), (1, .string key)] w := by
  exact block_spec Try.func62 Try.mixed (stops_cons (fun σ w h => by
      obtain ⟨t_, e0, h⟩ := dP_elim h
      obtain ⟨i_, e1, h⟩ := dI_elim h
      obtain ⟨n_, e2, h⟩ := dI_elim h
      exact (kv_table_room.L1_sound  t_ i_ n_ w h).weaken (Sub.cons (Sub.cons (Sub.cons (Sub.nil _) e2) e1) e0)) stops_nil) (Eq.mp (kv_table_room.B0_eq t key w   R (fun t_ i_ n_ w => kv_table_room.L1 t_ i_ n_ w  R)) h)
theorem kv_table_room.sound (t : Option Addr) (key : ByteArray) (w : World) (R : Int → World → Prop) (h : kv_table_room.B0 t key w R) : kv_table_room.Call t key w R := by
  have hc := calls_of_block (args := #[.pointer t, .string key]) Try.func62 (body := (Try.f62.body.getD .skip)) (by kernel_rfl) (by kernel_rfl) (args_slot _) (kv_table_room.B0_sound t key w h)
  exact hc.mono fun e w' he => by
    obtain ⟨v, rfl, hv⟩ := he
    exact kv_table_room.RV_elim hv
def kv_mkCell.B2 (val : ByteArray) (t4 c : Nat) (i : Int) (t35 : Bool) (w : World) (N2 : ByteArray → Nat → Nat → Int → World → Prop)  (R : Int → Int → Int → Int → Int → Int → Int → Int → World → Prop) : Prop :=
  Bm t35 (
    (0 ≤ i ∧ i < ((val.size : Nat) : Int)) ∧
    (0 ≤ i ∧ i < ((3 : Nat) : Int)) ∧
    Sts [.int .u8 (byteAt val i)] (Addr.add ⟨c, 5, none⟩ (i.toNat * 1)) 0 w fun w1 =>
    Sts [.int .i64 (IntKind.i64.wrap (i + (1 : Int)))] ⟨c, 4, none⟩ 0 w1 fun w2 =>
    N2 val t4 c (IntKind.i64.wrap (i + (1 : Int))) w2) (
    LdI .i64 ⟨c, 0, none⟩ w fun x47_0 =>
    LdI .i64 ⟨c, 1, none⟩ w fun x47_1 =>
    LdI .u8 ⟨c, 2, none⟩ w fun x47_2 =>
    LdI .u8 ⟨c, 3, none⟩ w fun x47_3 =>
    LdI .i64 ⟨c, 4, none⟩ w fun x47_4 =>
    LdI .u8 ⟨c, 5, none⟩ w fun x47_5 =>
    LdI .u8 ⟨c, 6, none⟩ w fun x47_6 =>
    LdI .u8 ⟨c, 7, none⟩ w fun x47_7 =>
    Sts [.int .i64 x47_0, .int .i64 x47_1, .int .u8 x47_2, .int .u8 x47_3, .int .i64 x47_4, .int .u8 x47_5, .int .u8 x47_6, .int .u8 x47_7] ⟨t4, 0, none⟩ 0 w fun w3 =>
    LdI .i64 ⟨t4, 0, none⟩ w3 fun r_0 =>
    LdI .i64 ⟨t4, 1, none⟩ w3 fun r_1 =>
    LdI .u8 ⟨t4, 2, none⟩ w3 fun r_2 =>
    LdI .u8 ⟨t4, 3, none⟩ w3 fun r_3 =>
    LdI .i64 ⟨t4, 4, none⟩ w3 fun r_4 =>
    LdI .u8 ⟨t4, 5, none⟩ w3 fun r_5 =>
    LdI .u8 ⟨t4, 6, none⟩ w3 fun r_6 =>
    LdI .u8 ⟨t4, 7, none⟩ w3 fun r_7 =>
    R r_0 r_1 r_2 r_3 r_4 r_5 r_6 r_7 w3)
theorem kv_mkCell.B2_eq (val : ByteArray) (t4 c : Nat) (i : Int) (t35 : Bool) (w : World) (N2 : ByteArray → Nat → Nat → Int → World → Prop)  (R : Int → Int → Int → Int → Int → Int → Int → Int → World → Prop)  :
    (
  Bm t35 (
    (0 ≤ i ∧ i < ((val.size : Nat) : Int)) ∧
    (0 ≤ i ∧ i < ((3 : Nat) : Int)) ∧
    Sts [.int .u8 (byteAt val i)] (Addr.add ⟨c, 5, none⟩ (i.toNat * 1)) 0 w fun w1 =>
    Sts [.int .i64 (IntKind.i64.wrap (i + (1 : Int)))] ⟨c, 4, none⟩ 0 w1 fun w2 =>
    N2 val t4 c (IntKind.i64.wrap (i + (1 : Int))) w2) (
    LdI .i64 ⟨c, 0, none⟩ w fun x47_0 =>
    LdI .i64 ⟨c, 1, none⟩ w fun x47_1 =>
    LdI .u8 ⟨c, 2, none⟩ w fun x47_2 =>
    LdI .u8 ⟨c, 3, none⟩ w fun x47_3 =>
    LdI .i64 ⟨c, 4, none⟩ w fun x47_4 =>
    LdI .u8 ⟨c, 5, none⟩ w fun x47_5 =>
    LdI .u8 ⟨c, 6, none⟩ w fun x47_6 =>
    LdI .u8 ⟨c, 7, none⟩ w fun x47_7 =>
    Sts [.int .i64 x47_0, .int .i64 x47_1, .int .u8 x47_2, .int .u8 x47_3, .int .i64 x47_4, .int .u8 x47_5, .int .u8 x47_6, .int .u8 x47_7] ⟨t4, 0, none⟩ 0 w fun w3 =>
    LdI .i64 ⟨t4, 0, none⟩ w3 fun r_0 =>
    LdI .i64 ⟨t4, 1, none⟩ w3 fun r_1 =>
    LdI .u8 ⟨t4, 2, none⟩ w3 fun r_2 =>
    LdI .u8 ⟨t4, 3, none⟩ w3 fun r_3 =>
    LdI .i64 ⟨t4, 4, none⟩ w3 fun r_4 =>
    LdI .u8 ⟨t4, 5, none⟩ w3 fun r_5 =>
    LdI .u8 ⟨t4, 6, none⟩ w3 fun r_6 =>
    LdI .u8 ⟨t4, 7, none⟩ w3 fun r_7 =>
    R r_0 r_1 r_2 r_3 r_4 r_5 r_6 r_7 w3)) = kstep Try.prog 48 Try.f63.results.toList (Try.f63.body.getD .skip) (kv_mkCell.RV R) (kvc Try.prog 48 Try.f63.results.toList (Try.f63.body.getD .skip) (kv_mkCell.RV R) [([(0, [1, 1, 1, 0, 1, 0, 0]), (2, [1, 1, 1, 0, 1, 0, 0]), (1, [2]), (0, [1, 1, 1, 1])], fun σ w => dS (slotOf σ 1) fun val_ => dK (slotOf σ 4) fun t4_ => dK (slotOf σ 5) fun c_ => dI .i64 (slotOf σ 7) fun i_ => N2 val_ t4_ c_ i_ w)] 2000) [(0, [1, 1, 1, 0, 1, 0, 0, 0, 1]), (0, [1, 1, 1, 0, 1, 0, 0, 1]), (2, [1, 1, 1, 0, 1, 0, 0]), (1, [2]), (0, [1, 1, 1, 1])] [(1, .string val), (4, .pointer (some ⟨t4, 0, none⟩)), (5, .pointer (some ⟨c, 0, none⟩)), (7, .int .i64 i), (35, .bool t35)] w := by kernel_rfl
theorem kv_mkCell.B2_sound {R : Int → Int → Int → Int → Int → Int → Int → Int → World → Prop} {N2 : ByteArray → Nat → Nat → Int → World → Prop} (hN2 : ∀ val t4 c i w, N2 val t4 c i w → KW Try.prog 63 48 (kv_mkCell.RV R) ([(0, [1, 1, 1, 0, 1, 0, 0]), (2, [1, 1, 1, 0, 1, 0, 0]), (1, [2]), (0, [1, 1, 1, 1])].map (toItem (Try.f63.body.getD .skip))) [(1, .string val), (4, .pointer (some ⟨t4, 0, none⟩)), (5, .pointer (some ⟨c, 0, none⟩)), (7, .int .i64 i)] w) (val : ByteArray) (t4 c : Nat) (i : Int) (t35 : Bool) (w : World) (h : kv_mkCell.B2 val t4 c i t35 w N2  R) :
    KW Try.prog 63 48 (kv_mkCell.RV R) ([(0, [1, 1, 1, 0, 1, 0, 0, 0, 1]), (0, [1, 1, 1, 0, 1, 0, 0, 1]), (2, [1, 1, 1, 0, 1, 0, 0]), (1, [2]), (0, [1, 1, 1, 1])].map (toItem (Try.f63.body.getD .skip))) [(1, .string val), (4, .pointer (some ⟨t4, 0, none⟩)), (5, .pointer (some ⟨c, 0, none⟩)), (7, .int .i64 i), (35, .bool t35)] w := by
  exact block_spec Try.func63 Try.mixed (stops_cons (fun σ w h => by
      obtain ⟨val_, e0, h⟩ := dS_elim h
      obtain ⟨t4_, e1, h⟩ := dK_elim h
      obtain ⟨c_, e2, h⟩ := dK_elim h
      obtain ⟨i_, e3, h⟩ := dI_elim h
      exact (hN2 val_ t4_ c_ i_ w h).weaken (Sub.cons (Sub.cons (Sub.cons (Sub.cons (Sub.nil _) e3) e2) e1) e0)) stops_nil) (Eq.mp (kv_mkCell.B2_eq val t4 c i t35 w N2  R ) h)
def kv_mkCell.L2b (val : ByteArray) (t4 c : Nat) (i : Int) (w : World)  (N2 : ByteArray → Nat → Nat → Int → World → Prop) (R : Int → Int → Int → Int → Int → Int → Int → Int → World → Prop) : Prop :=
  Bm (decide (i < ((val.size : Nat) : Int))) (
    kv_mkCell.B2 val t4 c i (decide (i < (3 : Int))) w N2 R) (
    kv_mkCell.B2 val t4 c i false w N2 R)
theorem kv_mkCell.L2b_eq (val : ByteArray) (t4 c : Nat) (i : Int) (w : World)  (N2 : ByteArray → Nat → Nat → Int → World → Prop) (R : Int → Int → Int → Int → Int → Int → Int → Int → World → Prop) (sB2 : ByteArray → Nat → Nat → Int → Bool → World → Prop) :
    (
  Bm (decide (i < ((val.size : Nat) : Int))) (
    sB2 val t4 c i (decide (i < (3 : Int))) w) (
    sB2 val t4 c i false w)) = kstep Try.prog 48 Try.f63.results.toList (Try.f63.body.getD .skip) (kv_mkCell.RV R) (kvc Try.prog 48 Try.f63.results.toList (Try.f63.body.getD .skip) (kv_mkCell.RV R) [([(0, [1, 1, 1, 0, 1, 0, 0, 0, 1]), (0, [1, 1, 1, 0, 1, 0, 0, 1]), (2, [1, 1, 1, 0, 1, 0, 0]), (1, [2]), (0, [1, 1, 1, 1])], fun σ w => dS (slotOf σ 1) fun val_ => dK (slotOf σ 4) fun t4_ => dK (slotOf σ 5) fun c_ => dI .i64 (slotOf σ 7) fun i_ => dB (slotOf σ 35) fun t35_ => sB2 val_ t4_ c_ i_ t35_ w)] 2000) [(0, [1, 1, 1, 0, 1, 0, 0]), (2, [1, 1, 1, 0, 1, 0, 0]), (1, [2]), (0, [1, 1, 1, 1])] [(1, .string val), (4, .pointer (some ⟨t4, 0, none⟩)), (5, .pointer (some ⟨c, 0, none⟩)), (7, .int .i64 i)] w := by kernel_rfl
theorem kv_mkCell.L2b_sound {R : Int → Int → Int → Int → Int → Int → Int → Int → World → Prop} {N2 : ByteArray → Nat → Nat → Int → World → Prop} (hN2 : ∀ val t4 c i w, N2 val t4 c i w → KW Try.prog 63 48 (kv_mkCell.RV R) ([(0, [1, 1, 1, 0, 1, 0, 0]), (2, [1, 1, 1, 0, 1, 0, 0]), (1, [2]), (0, [1, 1, 1, 1])].map (toItem (Try.f63.body.getD .skip))) [(1, .string val), (4, .pointer (some ⟨t4, 0, none⟩)), (5, .pointer (some ⟨c, 0, none⟩)), (7, .int .i64 i)] w) (val : ByteArray) (t4 c : Nat) (i : Int) (w : World) (h : kv_mkCell.L2b val t4 c i w  N2 R) :
    KW Try.prog 63 48 (kv_mkCell.RV R) ([(0, [1, 1, 1, 0, 1, 0, 0]), (2, [1, 1, 1, 0, 1, 0, 0]), (1, [2]), (0, [1, 1, 1, 1])].map (toItem (Try.f63.body.getD .skip))) [(1, .string val), (4, .pointer (some ⟨t4, 0, none⟩)), (5, .pointer (some ⟨c, 0, none⟩)), (7, .int .i64 i)] w := by
  exact block_spec Try.func63 Try.mixed (stops_cons (fun σ w h => by
      obtain ⟨val_, e0, h⟩ := dS_elim h
      obtain ⟨t4_, e1, h⟩ := dK_elim h
      obtain ⟨c_, e2, h⟩ := dK_elim h
      obtain ⟨i_, e3, h⟩ := dI_elim h
      obtain ⟨t35_, e4, h⟩ := dB_elim h
      exact (kv_mkCell.B2_sound hN2 val_ t4_ c_ i_ t35_ w h).weaken (Sub.cons (Sub.cons (Sub.cons (Sub.cons (Sub.cons (Sub.nil _) e4) e3) e2) e1) e0)) stops_nil) (Eq.mp (kv_mkCell.L2b_eq val t4 c i w  N2 R (fun val_ t4_ c_ i_ t35_ w => kv_mkCell.B2 val_ t4_ c_ i_ t35_ w N2 R)) h)
def kv_mkCell.L2 (val : ByteArray) (t4 c : Nat) (i : Int) (w : World)  (R : Int → Int → Int → Int → Int → Int → Int → Int → World → Prop) : Prop :=
  ∃ (I : Nat → ByteArray → Nat → Nat → Int → World → Prop) (m : Nat), I m val t4 c i w ∧ ∀ m val t4 c i w, I m val t4 c i w → kv_mkCell.L2b val t4 c i w  (fun val' t4' c' i' w' => ∃ m', m' < m ∧ I m' val' t4' c' i' w') R
theorem kv_mkCell.L2_sound {R : Int → Int → Int → Int → Int → Int → Int → Int → World → Prop}  (val : ByteArray) (t4 c : Nat) (i : Int) (w : World) (h : kv_mkCell.L2 val t4 c i w  R) :
    KW Try.prog 63 48 (kv_mkCell.RV R) ([(0, [1, 1, 1, 0, 1, 0, 0]), (2, [1, 1, 1, 0, 1, 0, 0]), (1, [2]), (0, [1, 1, 1, 1])].map (toItem (Try.f63.body.getD .skip))) [(1, .string val), (4, .pointer (some ⟨t4, 0, none⟩)), (5, .pointer (some ⟨c, 0, none⟩)), (7, .int .i64 i)] w := by
  obtain ⟨I, m, hBase, hr⟩ := h
  refine KW.loop (fun m σ w => ∃ (val : ByteArray) (t4 c : Nat) (i : Int), σ = [(1, .string val), (4, .pointer (some ⟨t4, 0, none⟩)), (5, .pointer (some ⟨c, 0, none⟩)), (7, .int .i64 i)] ∧ I m val t4 c i w) ?_ m _ w ⟨val, t4, c, i, rfl, hBase⟩
  rintro m ih σ w ⟨val, t4, c, i, rfl, hI⟩
  exact kv_mkCell.L2b_sound  (N2 := fun val' t4' c' i' w' => ∃ m', m' < m ∧ I m' val' t4' c' i' w') (fun val' t4' c' i' w' hx => by obtain ⟨m', hlt, hI'⟩ := hx; exact ih m' hlt _ w' ⟨val', t4', c', i', rfl, hI'⟩) val t4 c i w (hr m val t4 c i w hI)
def kv_mkCell.B1 (key val : ByteArray) (t4 c : Nat) (i : Int) (t16 : Bool) (w : World) (N1 : ByteArray → ByteArray → Nat → Nat → Int → World → Prop)  (R : Int → Int → Int → Int → Int → Int → Int → Int → World → Prop) : Prop :=
  Bm t16 (
    (0 ≤ i ∧ i < ((key.size : Nat) : Int)) ∧
    (0 ≤ i ∧ i < ((2 : Nat) : Int)) ∧
    Sts [.int .u8 (byteAt key i)] (Addr.add ⟨c, 2, none⟩ (i.toNat * 1)) 0 w fun w1 =>
    Sts [.int .i64 (IntKind.i64.wrap (i + (1 : Int)))] ⟨c, 1, none⟩ 0 w1 fun w2 =>
    N1 key val t4 c (IntKind.i64.wrap (i + (1 : Int))) w2) (
    kv_mkCell.L2 val t4 c (0 : Int) w  R)
theorem kv_mkCell.B1_eq (key val : ByteArray) (t4 c : Nat) (i : Int) (t16 : Bool) (w : World) (N1 : ByteArray → ByteArray → Nat → Nat → Int → World → Prop)  (R : Int → Int → Int → Int → Int → Int → Int → Int → World → Prop) (sL2 : ByteArray → Nat → Nat → Int → World → Prop) :
    (
  Bm t16 (
    (0 ≤ i ∧ i < ((key.size : Nat) : Int)) ∧
    (0 ≤ i ∧ i < ((2 : Nat) : Int)) ∧
    Sts [.int .u8 (byteAt key i)] (Addr.add ⟨c, 2, none⟩ (i.toNat * 1)) 0 w fun w1 =>
    Sts [.int .i64 (IntKind.i64.wrap (i + (1 : Int)))] ⟨c, 1, none⟩ 0 w1 fun w2 =>
    N1 key val t4 c (IntKind.i64.wrap (i + (1 : Int))) w2) (
    sL2 val t4 c (0 : Int) w)) = kstep Try.prog 48 Try.f63.results.toList (Try.f63.body.getD .skip) (kv_mkCell.RV R) (kvc Try.prog 48 Try.f63.results.toList (Try.f63.body.getD .skip) (kv_mkCell.RV R) [([(0, [1, 1, 0, 1, 0, 0]), (2, [1, 1, 0, 1, 0, 0]), (1, [0]), (0, [1, 1, 1])], fun σ w => dS (slotOf σ 0) fun key_ => dS (slotOf σ 1) fun val_ => dK (slotOf σ 4) fun t4_ => dK (slotOf σ 5) fun c_ => dI .i64 (slotOf σ 6) fun i_ => N1 key_ val_ t4_ c_ i_ w),
    ([(0, [1, 1, 1, 0, 1, 0, 0]), (2, [1, 1, 1, 0, 1, 0, 0]), (1, [2]), (0, [1, 1, 1, 1])], fun σ w => dS (slotOf σ 1) fun val_ => dK (slotOf σ 4) fun t4_ => dK (slotOf σ 5) fun c_ => dI .i64 (slotOf σ 7) fun i_ => sL2 val_ t4_ c_ i_ w)] 2000) [(0, [1, 1, 0, 1, 0, 0, 0, 1]), (0, [1, 1, 0, 1, 0, 0, 1]), (2, [1, 1, 0, 1, 0, 0]), (1, [0]), (0, [1, 1, 1])] [(0, .string key), (1, .string val), (4, .pointer (some ⟨t4, 0, none⟩)), (5, .pointer (some ⟨c, 0, none⟩)), (6, .int .i64 i), (16, .bool t16)] w := by kernel_rfl
theorem kv_mkCell.B1_sound {R : Int → Int → Int → Int → Int → Int → Int → Int → World → Prop} {N1 : ByteArray → ByteArray → Nat → Nat → Int → World → Prop} (hN1 : ∀ key val t4 c i w, N1 key val t4 c i w → KW Try.prog 63 48 (kv_mkCell.RV R) ([(0, [1, 1, 0, 1, 0, 0]), (2, [1, 1, 0, 1, 0, 0]), (1, [0]), (0, [1, 1, 1])].map (toItem (Try.f63.body.getD .skip))) [(0, .string key), (1, .string val), (4, .pointer (some ⟨t4, 0, none⟩)), (5, .pointer (some ⟨c, 0, none⟩)), (6, .int .i64 i)] w) (key val : ByteArray) (t4 c : Nat) (i : Int) (t16 : Bool) (w : World) (h : kv_mkCell.B1 key val t4 c i t16 w N1  R) :
    KW Try.prog 63 48 (kv_mkCell.RV R) ([(0, [1, 1, 0, 1, 0, 0, 0, 1]), (0, [1, 1, 0, 1, 0, 0, 1]), (2, [1, 1, 0, 1, 0, 0]), (1, [0]), (0, [1, 1, 1])].map (toItem (Try.f63.body.getD .skip))) [(0, .string key), (1, .string val), (4, .pointer (some ⟨t4, 0, none⟩)), (5, .pointer (some ⟨c, 0, none⟩)), (6, .int .i64 i), (16, .bool t16)] w := by
  exact block_spec Try.func63 Try.mixed (stops_cons (fun σ w h => by
      obtain ⟨key_, e0, h⟩ := dS_elim h
      obtain ⟨val_, e1, h⟩ := dS_elim h
      obtain ⟨t4_, e2, h⟩ := dK_elim h
      obtain ⟨c_, e3, h⟩ := dK_elim h
      obtain ⟨i_, e4, h⟩ := dI_elim h
      exact (hN1 key_ val_ t4_ c_ i_ w h).weaken (Sub.cons (Sub.cons (Sub.cons (Sub.cons (Sub.cons (Sub.nil _) e4) e3) e2) e1) e0)) (stops_cons (fun σ w h => by
      obtain ⟨val_, e0, h⟩ := dS_elim h
      obtain ⟨t4_, e1, h⟩ := dK_elim h
      obtain ⟨c_, e2, h⟩ := dK_elim h
      obtain ⟨i_, e3, h⟩ := dI_elim h
      exact (kv_mkCell.L2_sound  val_ t4_ c_ i_ w h).weaken (Sub.cons (Sub.cons (Sub.cons (Sub.cons (Sub.nil _) e3) e2) e1) e0)) stops_nil)) (Eq.mp (kv_mkCell.B1_eq key val t4 c i t16 w N1  R (fun val_ t4_ c_ i_ w => kv_mkCell.L2 val_ t4_ c_ i_ w  R)) h)
def kv_mkCell.L1b (key val : ByteArray) (t4 c : Nat) (i : Int) (w : World)  (N1 : ByteArray → ByteArray → Nat → Nat → Int → World → Prop) (R : Int → Int → Int → Int → Int → Int → Int → Int → World → Prop) : Prop :=
  Bm (decide (i < ((key.size : Nat) : Int))) (
    kv_mkCell.B1 key val t4 c i (decide (i < (2 : Int))) w N1 R) (
    kv_mkCell.B1 key val t4 c i false w N1 R)
theorem kv_mkCell.L1b_eq (key val : ByteArray) (t4 c : Nat) (i : Int) (w : World)  (N1 : ByteArray → ByteArray → Nat → Nat → Int → World → Prop) (R : Int → Int → Int → Int → Int → Int → Int → Int → World → Prop) (sB1 : ByteArray → ByteArray → Nat → Nat → Int → Bool → World → Prop) :
    (
  Bm (decide (i < ((key.size : Nat) : Int))) (
    sB1 key val t4 c i (decide (i < (2 : Int))) w) (
    sB1 key val t4 c i false w)) = kstep Try.prog 48 Try.f63.results.toList (Try.f63.body.getD .skip) (kv_mkCell.RV R) (kvc Try.prog 48 Try.f63.results.toList (Try.f63.body.getD .skip) (kv_mkCell.RV R) [([(0, [1, 1, 0, 1, 0, 0, 0, 1]), (0, [1, 1, 0, 1, 0, 0, 1]), (2, [1, 1, 0, 1, 0, 0]), (1, [0]), (0, [1, 1, 1])], fun σ w => dS (slotOf σ 0) fun key_ => dS (slotOf σ 1) fun val_ => dK (slotOf σ 4) fun t4_ => dK (slotOf σ 5) fun c_ => dI .i64 (slotOf σ 6) fun i_ => dB (slotOf σ 16) fun t16_ => sB1 key_ val_ t4_ c_ i_ t16_ w)] 2000) [(0, [1, 1, 0, 1, 0, 0]), (2, [1, 1, 0, 1, 0, 0]), (1, [0]), (0, [1, 1, 1])] [(0, .string key), (1, .string val), (4, .pointer (some ⟨t4, 0, none⟩)), (5, .pointer (some ⟨c, 0, none⟩)), (6, .int .i64 i)] w := by kernel_rfl
theorem kv_mkCell.L1b_sound {R : Int → Int → Int → Int → Int → Int → Int → Int → World → Prop} {N1 : ByteArray → ByteArray → Nat → Nat → Int → World → Prop} (hN1 : ∀ key val t4 c i w, N1 key val t4 c i w → KW Try.prog 63 48 (kv_mkCell.RV R) ([(0, [1, 1, 0, 1, 0, 0]), (2, [1, 1, 0, 1, 0, 0]), (1, [0]), (0, [1, 1, 1])].map (toItem (Try.f63.body.getD .skip))) [(0, .string key), (1, .string val), (4, .pointer (some ⟨t4, 0, none⟩)), (5, .pointer (some ⟨c, 0, none⟩)), (6, .int .i64 i)] w) (key val : ByteArray) (t4 c : Nat) (i : Int) (w : World) (h : kv_mkCell.L1b key val t4 c i w  N1 R) :
    KW Try.prog 63 48 (kv_mkCell.RV R) ([(0, [1, 1, 0, 1, 0, 0]), (2, [1, 1, 0, 1, 0, 0]), (1, [0]), (0, [1, 1, 1])].map (toItem (Try.f63.body.getD .skip))) [(0, .string key), (1, .string val), (4, .pointer (some ⟨t4, 0, none⟩)), (5, .pointer (some ⟨c, 0, none⟩)), (6, .int .i64 i)] w := by
  exact block_spec Try.func63 Try.mixed (stops_cons (fun σ w h => by
      obtain ⟨key_, e0, h⟩ := dS_elim h
      obtain ⟨val_, e1, h⟩ := dS_elim h
      obtain ⟨t4_, e2, h⟩ := dK_elim h
      obtain ⟨c_, e3, h⟩ := dK_elim h
      obtain ⟨i_, e4, h⟩ := dI_elim h
      obtain ⟨t16_, e5, h⟩ := dB_elim h
      exact (kv_mkCell.B1_sound hN1 key_ val_ t4_ c_ i_ t16_ w h).weaken (Sub.cons (Sub.cons (Sub.cons (Sub.cons (Sub.cons (Sub.cons (Sub.nil _) e5) e4) e3) e2) e1) e0)) stops_nil) (Eq.mp (kv_mkCell.L1b_eq key val t4 c i w  N1 R (fun key_ val_ t4_ c_ i_ t16_ w => kv_mkCell.B1 key_ val_ t4_ c_ i_ t16_ w N1 R)) h)
def kv_mkCell.L1 (key val : ByteArray) (t4 c : Nat) (i : Int) (w : World)  (R : Int → Int → Int → Int → Int → Int → Int → Int → World → Prop) : Prop :=
  ∃ (I : Nat → ByteArray → ByteArray → Nat → Nat → Int → World → Prop) (m : Nat), I m key val t4 c i w ∧ ∀ m key val t4 c i w, I m key val t4 c i w → kv_mkCell.L1b key val t4 c i w  (fun key' val' t4' c' i' w' => ∃ m', m' < m ∧ I m' key' val' t4' c' i' w') R
theorem kv_mkCell.L1_sound {R : Int → Int → Int → Int → Int → Int → Int → Int → World → Prop}  (key val : ByteArray) (t4 c : Nat) (i : Int) (w : World) (h : kv_mkCell.L1 key val t4 c i w  R) :
    KW Try.prog 63 48 (kv_mkCell.RV R) ([(0, [1, 1, 0, 1, 0, 0]), (2, [1, 1, 0, 1, 0, 0]), (1, [0]), (0, [1, 1, 1])].map (toItem (Try.f63.body.getD .skip))) [(0, .string key), (1, .string val), (4, .pointer (some ⟨t4, 0, none⟩)), (5, .pointer (some ⟨c, 0, none⟩)), (6, .int .i64 i)] w := by
  obtain ⟨I, m, hBase, hr⟩ := h
  refine KW.loop (fun m σ w => ∃ (key val : ByteArray) (t4 c : Nat) (i : Int), σ = [(0, .string key), (1, .string val), (4, .pointer (some ⟨t4, 0, none⟩)), (5, .pointer (some ⟨c, 0, none⟩)), (6, .int .i64 i)] ∧ I m key val t4 c i w) ?_ m _ w ⟨key, val, t4, c, i, rfl, hBase⟩
  rintro m ih σ w ⟨key, val, t4, c, i, rfl, hI⟩
  exact kv_mkCell.L1b_sound  (N1 := fun key' val' t4' c' i' w' => ∃ m', m' < m ∧ I m' key' val' t4' c' i' w') (fun key' val' t4' c' i' w' hx => by obtain ⟨m', hlt, hI'⟩ := hx; exact ih m' hlt _ w' ⟨key', val', t4', c', i', rfl, hI'⟩) key val t4 c i w (hr m key val t4 c i w hI)
def kv_mkCell.B0 (key val : ByteArray) (w : World)   (R : Int → Int → Int → Int → Int → Int → Int → Int → World → Prop) : Prop :=
  New (.cells #[.int .i64 (0 : Int), .int .i64 (0 : Int), .int .u8 (0 : Int), .int .u8 (0 : Int), .int .i64 (0 : Int), .int .u8 (0 : Int), .int .u8 (0 : Int), .int .u8 (0 : Int)] 42) w fun b4 w1 =>
  New (.cells #[.int .i64 (0 : Int), .int .i64 (0 : Int), .int .u8 (0 : Int), .int .u8 (0 : Int), .int .i64 (0 : Int), .int .u8 (0 : Int), .int .u8 (0 : Int), .int .u8 (0 : Int)] 42) w1 fun c_ w2 =>
  Sts [.int .i64 (1 : Int), .int .i64 (0 : Int), .int .u8 (0 : Int), .int .u8 (0 : Int), .int .i64 (0 : Int), .int .u8 (0 : Int), .int .u8 (0 : Int), .int .u8 (0 : Int)] ⟨c_, 0, none⟩ 0 w2 fun w3 =>
  kv_mkCell.L1 key val b4 c_ (0 : Int) w3  R
theorem kv_mkCell.B0_eq (key val : ByteArray) (w : World)   (R : Int → Int → Int → Int → Int → Int → Int → Int → World → Prop) (sL1 : ByteArray → ByteArray → Nat → Nat → Int → World → Prop) :
    (
  New (.cells #[.int .i64 (0 : Int), .int .i64 (0 : Int), .int .u8 (0 : Int), .int .u8 (0 : Int), .int .i64 (0 : Int), .int .u8 (0 : Int), .int .u8 (0 : Int), .int .u8 (0 : Int)] 42) w fun b4 w1 =>
  New (.cells #[.int .i64 (0 : Int), .int .i64 (0 : Int), .int .u8 (0 : Int), .int .u8 (0 : Int), .int .i64 (0 : Int), .int .u8 (0 : Int), .int .u8 (0 : Int), .int .u8 (0 : Int)] 42) w1 fun c_ w2 =>
  Sts [.int .i64 (1 : Int), .int .i64 (0 : Int), .int .u8 (0 : Int), .int .u8 (0 : Int), .int .i64 (0 : Int), .int .u8 (0 : Int), .int .u8 (0 : Int), .int .u8 (0 : Int)] ⟨c_, 0, none⟩ 0 w2 fun w3 =>
  sL1 key val b4 c_ (0 : Int) w3) = kstep Try.prog 48 Try.f63.results.toList (Try.f63.body.getD .skip) (kv_mkCell.RV R) (kvc Try.prog 48 Try.f63.results.toList (Try.f63.body.getD .skip) (kv_mkCell.RV R) [([(0, [1, 1, 0, 1, 0, 0]), (2, [1, 1, 0, 1, 0, 0]), (1, [0]), (0, [1, 1, 1])], fun σ w => dS (slotOf σ 0) fun key_ => dS (slotOf σ 1) fun val_ => dK (slotOf σ 4) fun t4_ => dK (slotOf σ 5) fun c_ => dI .i64 (slotOf σ 6) fun i_ => sL1 key_ val_ t4_ c_ i_ w)] 2000) [(0, [])] [(0, .string key), (1, .string val)] w := by kernel_rfl
theorem kv_mkCell.B0_sound {R : Int → Int → Int → Int → Int → Int → Int → Int → World → Prop}  (key val : ByteArray) (w : World) (h : kv_mkCell.B0 key val w   R) :
    KW Try.prog 63 48 (kv_mkCell.RV R) ([(0, [])].map (toItem (Try.f63.body.getD .skip))) [(0, .string key), (1, .string val)] w := by
  exact block_spec Try.func63 Try.mixed (stops_cons (fun σ w h => by
      obtain ⟨key_, e0, h⟩ := dS_elim h
      obtain ⟨val_, e1, h⟩ := dS_elim h
      obtain ⟨t4_, e2, h⟩ := dK_elim h
      obtain ⟨c_, e3, h⟩ := dK_elim h
      obtain ⟨i_, e4, h⟩ := dI_elim h
      exact (kv_mkCell.L1_sound  key_ val_ t4_ c_ i_ w h).weaken (Sub.cons (Sub.cons (Sub.cons (Sub.cons (Sub.cons (Sub.nil _) e4) e3) e2) e1) e0)) stops_nil) (Eq.mp (kv_mkCell.B0_eq key val w   R (fun key_ val_ t4_ c_ i_ w => kv_mkCell.L1 key_ val_ t4_ c_ i_ w  R)) h)
theorem kv_mkCell.sound (key val : ByteArray) (w : World) (R : Int → Int → Int → Int → Int → Int → Int → Int → World → Prop) (h : kv_mkCell.B0 key val w R) : kv_mkCell.Call key val w R := by
  have hc := calls_of_block (args := #[.string key, .string val]) Try.func63 (body := (Try.f63.body.getD .skip)) (by kernel_rfl) (by kernel_rfl) (args_slot _) (kv_mkCell.B0_sound key val w h)
  exact hc.mono fun e w' he => by
    obtain ⟨v, rfl, hv⟩ := he
    exact kv_mkCell.RV_elim hv
def kv_table_rebuild.B2 (t : Option Addr) (keep : Nat) (n i : Int) (w : World) (N1 : Option Addr → Nat → Int → Int → World → Prop)  (R : World → Prop) : Prop :=
  N1 t keep n (IntKind.i64.wrap (i + (1 : Int))) w
theorem kv_table_rebuild.B2_eq (t : Option Addr) (keep : Nat) (n i : Int) (w : World) (N1 : Option Addr → Nat → Int → Int → World → Prop)  (R : World → Prop)  :
    (
  N1 t keep n (IntKind.i64.wrap (i + (1 : Int))) w) = kstep Try.prog 78 Try.f64.results.toList (Try.f64.body.getD .skip) (kv_table_rebuild.RV R) (kvc Try.prog 78 Try.f64.results.toList (Try.f64.body.getD .skip) (kv_table_rebuild.RV R) [([(0, [1, 1, 0, 1, 0, 0]), (2, [1, 1, 0, 1, 0, 0]), (1, [0]), (0, [1, 1, 1])], fun σ w => dP (slotOf σ 0) fun t_ => dK (slotOf σ 2) fun keep_ => dI .i64 (slotOf σ 3) fun n_ => dI .i64 (slotOf σ 4) fun i_ => N1 t_ keep_ n_ i_ w)] 2000) [(0, [1, 1, 0, 1, 0, 0, 1, 1]), (2, [1, 1, 0, 1, 0, 0]), (1, [0]), (0, [1, 1, 1])] [(0, .pointer t), (2, .pointer (some ⟨keep, 0, none⟩)), (3, .int .i64 n), (4, .int .i64 i)] w := by kernel_rfl
theorem kv_table_rebuild.B2_sound {R : World → Prop} {N1 : Option Addr → Nat → Int → Int → World → Prop} (hN1 : ∀ t keep n i w, N1 t keep n i w → KW Try.prog 64 78 (kv_table_rebuild.RV R) ([(0, [1, 1, 0, 1, 0, 0]), (2, [1, 1, 0, 1, 0, 0]), (1, [0]), (0, [1, 1, 1])].map (toItem (Try.f64.body.getD .skip))) [(0, .pointer t), (2, .pointer (some ⟨keep, 0, none⟩)), (3, .int .i64 n), (4, .int .i64 i)] w) (t : Option Addr) (keep : Nat) (n i : Int) (w : World) (h : kv_table_rebuild.B2 t keep n i w N1  R) :
    KW Try.prog 64 78 (kv_table_rebuild.RV R) ([(0, [1, 1, 0, 1, 0, 0, 1, 1]), (2, [1, 1, 0, 1, 0, 0]), (1, [0]), (0, [1, 1, 1])].map (toItem (Try.f64.body.getD .skip))) [(0, .pointer t), (2, .pointer (some ⟨keep, 0, none⟩)), (3, .int .i64 n), (4, .int .i64 i)] w := by
  exact block_spec Try.func64 Try.mixed (stops_cons (fun σ w h => by
      obtain ⟨t_, e0, h⟩ := dP_elim h
      obtain ⟨keep_, e1, h⟩ := dK_elim h
      obtain ⟨n_, e2, h⟩ := dI_elim h
      obtain ⟨i_, e3, h⟩ := dI_elim h
      exact (hN1 t_ keep_ n_ i_ w h).weaken (Sub.cons (Sub.cons (Sub.cons (Sub.cons (Sub.nil _) e3) e2) e1) e0)) stops_nil) (Eq.mp (kv_table_rebuild.B2_eq t keep n i w N1  R ) h)
def kv_table_rebuild.B1 (t : Option Addr) (keep : Nat) (n i : Int) (t24 : Bool) (w : World) (N1 : Option Addr → Nat → Int → Int → World → Prop)  (R : World → Prop) : Prop :=
  Bm t24 (
    Pn t fun a =>
    (0 ≤ i ∧ i < ((8 : Nat) : Int)) ∧
    LdI .i64 (Addr.add a (i.toNat * 8)) w fun x31_0 =>
    LdI .i64 ((Addr.add a (i.toNat * 8)).add 1) w fun x31_1 =>
    LdI .u8 ((Addr.add a (i.toNat * 8)).add 2) w fun x31_2 =>
    LdI .u8 ((Addr.add a (i.toNat * 8)).add 3) w fun x31_3 =>
    LdI .i64 ((Addr.add a (i.toNat * 8)).add 4) w fun x31_4 =>
    LdI .u8 ((Addr.add a (i.toNat * 8)).add 5) w fun x31_5 =>
    LdI .u8 ((Addr.add a (i.toNat * 8)).add 6) w fun x31_6 =>
    LdI .u8 ((Addr.add a (i.toNat * 8)).add 7) w fun x31_7 =>
    (0 ≤ n ∧ n < ((4 : Nat) : Int)) ∧
    Sts [.int .i64 x31_0, .int .i64 x31_1, .int .u8 x31_2, .int .u8 x31_3, .int .i64 x31_4, .int .u8 x31_5, .int .u8 x31_6, .int .u8 x31_7] (Addr.add ⟨keep, 0, none⟩ (n.toNat * 8)) 0 w fun w1 =>
    kv_table_rebuild.B2 t keep (IntKind.i64.wrap (n + (1 : Int))) i w1 N1 R) (
    kv_table_rebuild.B2 t keep n i w N1 R)
theorem kv_table_rebuild.B1_eq (t : Option Addr) (keep : Nat) (n i : Int) (t24 : Bool) (w : World) (N1 : Option Addr → Nat → Int → Int → World → Prop)  (R : World → Prop) (sB2 : Option Addr → Nat → Int → Int → World → Prop) :
    (
  Bm t24 (
    Pn t fun a =>
    (0 ≤ i ∧ i < ((8 : Nat) : Int)) ∧
    LdI .i64 (Addr.add a (i.toNat * 8)) w fun x31_0 =>
    LdI .i64 ((Addr.add a (i.toNat * 8)).add 1) w fun x31_1 =>
    LdI .u8 ((Addr.add a (i.toNat * 8)).add 2) w fun x31_2 =>
    LdI .u8 ((Addr.add a (i.toNat * 8)).add 3) w fun x31_3 =>
    LdI .i64 ((Addr.add a (i.toNat * 8)).add 4) w fun x31_4 =>
    LdI .u8 ((Addr.add a (i.toNat * 8)).add 5) w fun x31_5 =>
    LdI .u8 ((Addr.add a (i.toNat * 8)).add 6) w fun x31_6 =>
    LdI .u8 ((Addr.add a (i.toNat * 8)).add 7) w fun x31_7 =>
    (0 ≤ n ∧ n < ((4 : Nat) : Int)) ∧
    Sts [.int .i64 x31_0, .int .i64 x31_1, .int .u8 x31_2, .int .u8 x31_3, .int .i64 x31_4, .int .u8 x31_5, .int .u8 x31_6, .int .u8 x31_7] (Addr.add ⟨keep, 0, none⟩ (n.toNat * 8)) 0 w fun w1 =>
    sB2 t keep (IntKind.i64.wrap (n + (1 : Int))) i w1) (
    sB2 t keep n i w)) = kstep Try.prog 78 Try.f64.results.toList (Try.f64.body.getD .skip) (kv_table_rebuild.RV R) (kvc Try.prog 78 Try.f64.results.toList (Try.f64.body.getD .skip) (kv_table_rebuild.RV R) [([(0, [1, 1, 0, 1, 0, 0, 1, 1]), (2, [1, 1, 0, 1, 0, 0]), (1, [0]), (0, [1, 1, 1])], fun σ w => dP (slotOf σ 0) fun t_ => dK (slotOf σ 2) fun keep_ => dI .i64 (slotOf σ 3) fun n_ => dI .i64 (slotOf σ 4) fun i_ => sB2 t_ keep_ n_ i_ w)] 2000) [(0, [1, 1, 0, 1, 0, 0, 1, 0, 0, 1]), (1, [1]), (0, [1, 1, 0, 1, 0, 0, 1, 1]), (2, [1, 1, 0, 1, 0, 0]), (1, [0]), (0, [1, 1, 1])] [(0, .pointer t), (2, .pointer (some ⟨keep, 0, none⟩)), (3, .int .i64 n), (4, .int .i64 i), (24, .bool t24)] w := by kernel_rfl
theorem kv_table_rebuild.B1_sound {R : World → Prop} {N1 : Option Addr → Nat → Int → Int → World → Prop} (hN1 : ∀ t keep n i w, N1 t keep n i w → KW Try.prog 64 78 (kv_table_rebuild.RV R) ([(0, [1, 1, 0, 1, 0, 0]), (2, [1, 1, 0, 1, 0, 0]), (1, [0]), (0, [1, 1, 1])].map (toItem (Try.f64.body.getD .skip))) [(0, .pointer t), (2, .pointer (some ⟨keep, 0, none⟩)), (3, .int .i64 n), (4, .int .i64 i)] w) (t : Option Addr) (keep : Nat) (n i : Int) (t24 : Bool) (w : World) (h : kv_table_rebuild.B1 t keep n i t24 w N1  R) :
    KW Try.prog 64 78 (kv_table_rebuild.RV R) ([(0, [1, 1, 0, 1, 0, 0, 1, 0, 0, 1]), (1, [1]), (0, [1, 1, 0, 1, 0, 0, 1, 1]), (2, [1, 1, 0, 1, 0, 0]), (1, [0]), (0, [1, 1, 1])].map (toItem (Try.f64.body.getD .skip))) [(0, .pointer t), (2, .pointer (some ⟨keep, 0, none⟩)), (3, .int .i64 n), (4, .int .i64 i), (24, .bool t24)] w := by
  exact block_spec Try.func64 Try.mixed (stops_cons (fun σ w h => by
      obtain ⟨t_, e0, h⟩ := dP_elim h
      obtain ⟨keep_, e1, h⟩ := dK_elim h
      obtain ⟨n_, e2, h⟩ := dI_elim h
      obtain ⟨i_, e3, h⟩ := dI_elim h
      exact (kv_table_rebuild.B2_sound hN1 t_ keep_ n_ i_ w h).weaken (Sub.cons (Sub.cons (Sub.cons (Sub.cons (Sub.nil _) e3) e2) e1) e0)) stops_nil) (Eq.mp (kv_table_rebuild.B1_eq t keep n i t24 w N1  R (fun t_ keep_ n_ i_ w => kv_table_rebuild.B2 t_ keep_ n_ i_ w N1 R)) h)
def kv_table_rebuild.L3b (t : Option Addr) (keep : Nat) (n j : Int) (w : World)  (N3 : Option Addr → Nat → Int → Int → World → Prop) (R : World → Prop) : Prop :=
  Bm (decide (j < n)) (
    (0 ≤ j ∧ j < ((4 : Nat) : Int)) ∧
    LdI .i64 (Addr.add ⟨keep, 0, none⟩ (j.toNat * 8)) w fun x58_0 =>
    LdI .i64 ((Addr.add ⟨keep, 0, none⟩ (j.toNat * 8)).add 1) w fun x58_1 =>
    LdI .u8 ((Addr.add ⟨keep, 0, none⟩ (j.toNat * 8)).add 2) w fun x58_2 =>
    LdI .u8 ((Addr.add ⟨keep, 0, none⟩ (j.toNat * 8)).add 3) w fun x58_3 =>
    LdI .i64 ((Addr.add ⟨keep, 0, none⟩ (j.toNat * 8)).add 4) w fun x58_4 =>
    LdI .u8 ((Addr.add ⟨keep, 0, none⟩ (j.toNat * 8)).add 5) w fun x58_5 =>
    LdI .u8 ((Addr.add ⟨keep, 0, none⟩ (j.toNat * 8)).add 6) w fun x58_6 =>
    LdI .u8 ((Addr.add ⟨keep, 0, none⟩ (j.toNat * 8)).add 7) w fun x58_7 =>
    kv_keyOf.Call x58_0 x58_1 x58_2 x58_3 x58_4 x58_5 x58_6 x58_7 w fun r59 w1 =>
    kv_table_room.Call t r59 w1 fun r62 w2 =>
    (0 ≤ j ∧ j < ((4 : Nat) : Int)) ∧
    LdI .i64 (Addr.add ⟨keep, 0, none⟩ (j.toNat * 8)) w2.drew fun x67_0 =>
    LdI .i64 ((Addr.add ⟨keep, 0, none⟩ (j.toNat * 8)).add 1) w2.drew fun x67_1 =>
    LdI .u8 ((Addr.add ⟨keep, 0, none⟩ (j.toNat * 8)).add 2) w2.drew fun x67_2 =>
    LdI .u8 ((Addr.add ⟨keep, 0, none⟩ (j.toNat * 8)).add 3) w2.drew fun x67_3 =>
    LdI .i64 ((Addr.add ⟨keep, 0, none⟩ (j.toNat * 8)).add 4) w2.drew fun x67_4 =>
    LdI .u8 ((Addr.add ⟨keep, 0, none⟩ (j.toNat * 8)).add 5) w2.drew fun x67_5 =>
    LdI .u8 ((Addr.add ⟨keep, 0, none⟩ (j.toNat * 8)).add 6) w2.drew fun x67_6 =>
    LdI .u8 ((Addr.add ⟨keep, 0, none⟩ (j.toNat * 8)).add 7) w2.drew fun x67_7 =>
    Pn t fun a =>
    (0 ≤ r62 ∧ r62 < ((8 : Nat) : Int)) ∧
    Sts [.int .i64 x67_0, .int .i64 x67_1, .int .u8 x67_2, .int .u8 x67_3, .int .i64 x67_4, .int .u8 x67_5, .int .u8 x67_6, .int .u8 x67_7] (Addr.add a (r62.toNat * 8)) 0 w2.drew fun w3 =>
    Pn t fun a_1 =>
    LdI .i64 (a_1.add 64) w3 fun x74 =>
    Pn t fun a_2 =>
    Sts [.int .i64 (IntKind.i64.wrap (x74 + (1 : Int)))] (a_2.add 64) 0 w3 fun w4 =>
    N3 t keep n (IntKind.i64.wrap (j + (1 : Int))) w4) (
    R  w)
theorem kv_table_rebuild.L3b_eq (t : Option Addr) (keep : Nat) (n j : Int) (w : World)  (N3 : Option Addr → Nat → Int → Int → World → Prop) (R : World → Prop)  :
    (
  Bm (decide (j < n)) (
    (0 ≤ j ∧ j < ((4 : Nat) : Int)) ∧
    LdI .i64 (Addr.add ⟨keep, 0, none⟩ (j.toNat * 8)) w fun x58_0 =>
    LdI .i64 ((Addr.add ⟨keep, 0, none⟩ (j.toNat * 8)).add 1) w fun x58_1 =>
    LdI .u8 ((Addr.add ⟨keep, 0, none⟩ (j.toNat * 8)).add 2) w fun x58_2 =>
    LdI .u8 ((Addr.add ⟨keep, 0, none⟩ (j.toNat * 8)).add 3) w fun x58_3 =>
    LdI .i64 ((Addr.add ⟨keep, 0, none⟩ (j.toNat * 8)).add 4) w fun x58_4 =>
    LdI .u8 ((Addr.add ⟨keep, 0, none⟩ (j.toNat * 8)).add 5) w fun x58_5 =>
    LdI .u8 ((Addr.add ⟨keep, 0, none⟩ (j.toNat * 8)).add 6) w fun x58_6 =>
    LdI .u8 ((Addr.add ⟨keep, 0, none⟩ (j.toNat * 8)).add 7) w fun x58_7 =>
    kv_keyOf.Call x58_0 x58_1 x58_2 x58_3 x58_4 x58_5 x58_6 x58_7 w fun r59 w1 =>
    kv_table_room.Call t r59 w1 fun r62 w2 =>
    (0 ≤ j ∧ j < ((4 : Nat) : Int)) ∧
    LdI .i64 (Addr.add ⟨keep, 0, none⟩ (j.toNat * 8)) w2.drew fun x67_0 =>
    LdI .i64 ((Addr.add ⟨keep, 0, none⟩ (j.toNat * 8)).add 1) w2.drew fun x67_1 =>
    LdI .u8 ((Addr.add ⟨keep, 0, none⟩ (j.toNat * 8)).add 2) w2.drew fun x67_2 =>
    LdI .u8 ((Addr.add ⟨keep, 0, none⟩ (j.toNat * 8)).add 3) w2.drew fun x67_3 =>
    LdI .i64 ((Addr.add ⟨keep, 0, none⟩ (j.toNat * 8)).add 4) w2.drew fun x67_4 =>
    LdI .u8 ((Addr.add ⟨keep, 0, none⟩ (j.toNat * 8)).add 5) w2.drew fun x67_5 =>
    LdI .u8 ((Addr.add ⟨keep, 0, none⟩ (j.toNat * 8)).add 6) w2.drew fun x67_6 =>
    LdI .u8 ((Addr.add ⟨keep, 0, none⟩ (j.toNat * 8)).add 7) w2.drew fun x67_7 =>
    Pn t fun a =>
    (0 ≤ r62 ∧ r62 < ((8 : Nat) : Int)) ∧
    Sts [.int .i64 x67_0, .int .i64 x67_1, .int .u8 x67_2, .int .u8 x67_3, .int .i64 x67_4, .int .u8 x67_5, .int .u8 x67_6, .int .u8 x67_7] (Addr.add a (r62.toNat * 8)) 0 w2.drew fun w3 =>
    Pn t fun a_1 =>
    LdI .i64 (a_1.add 64) w3 fun x74 =>
    Pn t fun a_2 =>
    Sts [.int .i64 (IntKind.i64.wrap (x74 + (1 : Int)))] (a_2.add 64) 0 w3 fun w4 =>
    N3 t keep n (IntKind.i64.wrap (j + (1 : Int))) w4) (
    R  w)) = kstep Try.prog 78 Try.f64.results.toList (Try.f64.body.getD .skip) (kv_table_rebuild.RV R) (kvc Try.prog 78 Try.f64.results.toList (Try.f64.body.getD .skip) (kv_table_rebuild.RV R) [([(0, [1, 1, 1, 1, 1, 1, 1, 0, 0]), (2, [1, 1, 1, 1, 1, 1, 1, 0, 0]), (1, [4])], fun σ w => dP (slotOf σ 0) fun t_ => dK (slotOf σ 2) fun keep_ => dI .i64 (slotOf σ 3) fun n_ => dI .i64 (slotOf σ 6) fun j_ => N3 t_ keep_ n_ j_ w)] 2000) [(0, [1, 1, 1, 1, 1, 1, 1, 0, 0]), (2, [1, 1, 1, 1, 1, 1, 1, 0, 0]), (1, [4])] [(0, .pointer t), (2, .pointer (some ⟨keep, 0, none⟩)), (3, .int .i64 n), (6, .int .i64 j)] w := by kernel_rfl
theorem kv_table_rebuild.L3b_sound {R : World → Prop} {N3 : Option Addr → Nat → Int → Int → World → Prop} (hN3 : ∀ t keep n j w, N3 t keep n j w → KW Try.prog 64 78 (kv_table_rebuild.RV R) ([(0, [1, 1, 1, 1, 1, 1, 1, 0, 0]), (2, [1, 1, 1, 1, 1, 1, 1, 0, 0]), (1, [4])].map (toItem (Try.f64.body.getD .skip))) [(0, .pointer t), (2, .pointer (some ⟨keep, 0, none⟩)), (3, .int .i64 n), (6, .int .i64 j)] w) (t : Option Addr) (keep : Nat) (n j : Int) (w : World) (h : kv_table_rebuild.L3b t keep n j w  N3 R) :
    KW Try.prog 64 78 (kv_table_rebuild.RV R) ([(0, [1, 1, 1, 1, 1, 1, 1, 0, 0]), (2, [1, 1, 1, 1, 1, 1, 1, 0, 0]), (1, [4])].map (toItem (Try.f64.body.getD .skip))) [(0, .pointer t), (2, .pointer (some ⟨keep, 0, none⟩)), (3, .int .i64 n), (6, .int .i64 j)] w := by
  exact block_spec Try.func64 Try.mixed (stops_cons (fun σ w h => by
      obtain ⟨t_, e0, h⟩ := dP_elim h
      obtain ⟨keep_, e1, h⟩ := dK_elim h
      obtain ⟨n_, e2, h⟩ := dI_elim h
      obtain ⟨j_, e3, h⟩ := dI_elim h
      exact (hN3 t_ keep_ n_ j_ w h).weaken (Sub.cons (Sub.cons (Sub.cons (Sub.cons (Sub.nil _) e3) e2) e1) e0)) stops_nil) (Eq.mp (kv_table_rebuild.L3b_eq t keep n j w  N3 R ) h)
def kv_table_rebuild.L3 (t : Option Addr) (keep : Nat) (n j : Int) (w : World)  (R : World → Prop) : Prop :=
  ∃ (I : Nat → Option Addr → Nat → Int → Int → World → Prop) (m : Nat), I m t keep n j w ∧ ∀ m t keep n j w, I m t keep n j w → kv_table_rebuild.L3b t keep n j w  (fun t' keep' n' j' w' => ∃ m', m' < m ∧ I m' t' keep' n' j' w') R
theorem kv_table_rebuild.L3_sound {R : World → Prop}  (t : Option Addr) (keep : Nat) (n j : Int) (w : World) (h : kv_table_rebuild.L3 t keep n j w  R) :
    KW Try.prog 64 78 (kv_table_rebuild.RV R) ([(0, [1, 1, 1, 1, 1, 1, 1, 0, 0]), (2, [1, 1, 1, 1, 1, 1, 1, 0, 0]), (1, [4])].map (toItem (Try.f64.body.getD .skip))) [(0, .pointer t), (2, .pointer (some ⟨keep, 0, none⟩)), (3, .int .i64 n), (6, .int .i64 j)] w := by
  obtain ⟨I, m, hBase, hr⟩ := h
  refine KW.loop (fun m σ w => ∃ (t : Option Addr) (keep : Nat) (n j : Int), σ = [(0, .pointer t), (2, .pointer (some ⟨keep, 0, none⟩)), (3, .int .i64 n), (6, .int .i64 j)] ∧ I m t keep n j w) ?_ m _ w ⟨t, keep, n, j, rfl, hBase⟩
  rintro m ih σ w ⟨t, keep, n, j, rfl, hI⟩
  exact kv_table_rebuild.L3b_sound  (N3 := fun t' keep' n' j' w' => ∃ m', m' < m ∧ I m' t' keep' n' j' w') (fun t' keep' n' j' w' hx => by obtain ⟨m', hlt, hI'⟩ := hx; exact ih m' hlt _ w' ⟨t', keep', n', j', rfl, hI'⟩) t keep n j w (hr m t keep n j w hI)
def kv_table_rebuild.L2b (t : Option Addr) (keep : Nat) (n i : Int) (w : World)  (N2 : Option Addr → Nat → Int → Int → World → Prop) (R : World → Prop) : Prop :=
  Bm (decide (i < (8 : Int))) (
    Pn t fun a =>
    (0 ≤ i ∧ i < ((8 : Nat) : Int)) ∧
    Sts [.int .i64 (0 : Int), .int .i64 (0 : Int), .int .u8 (0 : Int), .int .u8 (0 : Int), .int .i64 (0 : Int), .int .u8 (0 : Int), .int .u8 (0 : Int), .int .u8 (0 : Int)] (Addr.add a (i.toNat * 8)) 0 w fun w1 =>
    N2 t keep n (IntKind.i64.wrap (i + (1 : Int))) w1) (
    Pn t fun a_1 =>
    Sts [.int .i64 (0 : Int)] (a_1.add 64) 0 w fun w2 =>
    Pn t fun a_2 =>
    Sts [.int .i64 (0 : Int)] (a_2.add 65) 0 w2 fun w3 =>
    kv_table_rebuild.L3 t keep n (0 : Int) w3  R)
theorem kv_table_rebuild.L2b_eq (t : Option Addr) (keep : Nat) (n i : Int) (w : World)  (N2 : Option Addr → Nat → Int → Int → World → Prop) (R : World → Prop) (sL3 : Option Addr → Nat → Int → Int → World → Prop) :
    (
  Bm (decide (i < (8 : Int))) (
    Pn t fun a =>
    (0 ≤ i ∧ i < ((8 : Nat) : Int)) ∧
    Sts [.int .i64 (0 : Int), .int .i64 (0 : Int), .int .u8 (0 : Int), .int .u8 (0 : Int), .int .i64 (0 : Int), .int .u8 (0 : Int), .int .u8 (0 : Int), .int .u8 (0 : Int)] (Addr.add a (i.toNat * 8)) 0 w fun w1 =>
    N2 t keep n (IntKind.i64.wrap (i + (1 : Int))) w1) (
    Pn t fun a_1 =>
    Sts [.int .i64 (0 : Int)] (a_1.add 64) 0 w fun w2 =>
    Pn t fun a_2 =>
    Sts [.int .i64 (0 : Int)] (a_2.add 65) 0 w2 fun w3 =>
    sL3 t keep n (0 : Int) w3)) = kstep Try.prog 78 Try.f64.results.toList (Try.f64.body.getD .skip) (kv_table_rebuild.RV R) (kvc Try.prog 78 Try.f64.results.toList (Try.f64.body.getD .skip) (kv_table_rebuild.RV R) [([(0, [1, 1, 1, 0, 1, 0, 0]), (2, [1, 1, 1, 0, 1, 0, 0]), (1, [2]), (0, [1, 1, 1, 1])], fun σ w => dP (slotOf σ 0) fun t_ => dK (slotOf σ 2) fun keep_ => dI .i64 (slotOf σ 3) fun n_ => dI .i64 (slotOf σ 5) fun i_ => N2 t_ keep_ n_ i_ w),
    ([(0, [1, 1, 1, 1, 1, 1, 1, 0, 0]), (2, [1, 1, 1, 1, 1, 1, 1, 0, 0]), (1, [4])], fun σ w => dP (slotOf σ 0) fun t_ => dK (slotOf σ 2) fun keep_ => dI .i64 (slotOf σ 3) fun n_ => dI .i64 (slotOf σ 6) fun j_ => sL3 t_ keep_ n_ j_ w)] 2000) [(0, [1, 1, 1, 0, 1, 0, 0]), (2, [1, 1, 1, 0, 1, 0, 0]), (1, [2]), (0, [1, 1, 1, 1])] [(0, .pointer t), (2, .pointer (some ⟨keep, 0, none⟩)), (3, .int .i64 n), (5, .int .i64 i)] w := by kernel_rfl
theorem kv_table_rebuild.L2b_sound {R : World → Prop} {N2 : Option Addr → Nat → Int → Int → World → Prop} (hN2 : ∀ t keep n i w, N2 t keep n i w → KW Try.prog 64 78 (kv_table_rebuild.RV R) ([(0, [1, 1, 1, 0, 1, 0, 0]), (2, [1, 1, 1, 0, 1, 0, 0]), (1, [2]), (0, [1, 1, 1, 1])].map (toItem (Try.f64.body.getD .skip))) [(0, .pointer t), (2, .pointer (some ⟨keep, 0, none⟩)), (3, .int .i64 n), (5, .int .i64 i)] w) (t : Option Addr) (keep : Nat) (n i : Int) (w : World) (h : kv_table_rebuild.L2b t keep n i w  N2 R) :
    KW Try.prog 64 78 (kv_table_rebuild.RV R) ([(0, [1, 1, 1, 0, 1, 0, 0]), (2, [1, 1, 1, 0, 1, 0, 0]), (1, [2]), (0, [1, 1, 1, 1])].map (toItem (Try.f64.body.getD .skip))) [(0, .pointer t), (2, .pointer (some ⟨keep, 0, none⟩)), (3, .int .i64 n), (5, .int .i64 i)] w := by
  exact block_spec Try.func64 Try.mixed (stops_cons (fun σ w h => by
      obtain ⟨t_, e0, h⟩ := dP_elim h
      obtain ⟨keep_, e1, h⟩ := dK_elim h
      obtain ⟨n_, e2, h⟩ := dI_elim h
      obtain ⟨i_, e3, h⟩ := dI_elim h
      exact (hN2 t_ keep_ n_ i_ w h).weaken (Sub.cons (Sub.cons (Sub.cons (Sub.cons (Sub.nil _) e3) e2) e1) e0)) (stops_cons (fun σ w h => by
      obtain ⟨t_, e0, h⟩ := dP_elim h
      obtain ⟨keep_, e1, h⟩ := dK_elim h
      obtain ⟨n_, e2, h⟩ := dI_elim h
      obtain ⟨j_, e3, h⟩ := dI_elim h
      exact (kv_table_rebuild.L3_sound  t_ keep_ n_ j_ w h).weaken (Sub.cons (Sub.cons (Sub.cons (Sub.cons (Sub.nil _) e3) e2) e1) e0)) stops_nil)) (Eq.mp (kv_table_rebuild.L2b_eq t keep n i w  N2 R (fun t_ keep_ n_ j_ w => kv_table_rebuild.L3 t_ keep_ n_ j_ w  R)) h)
def kv_table_rebuild.L2 (t : Option Addr) (keep : Nat) (n i : Int) (w : World)  (R : World → Prop) : Prop :=
  ∃ (I : Nat → Option Addr → Nat → Int → Int → World → Prop) (m : Nat), I m t keep n i w ∧ ∀ m t keep n i w, I m t keep n i w → kv_table_rebuild.L2b t keep n i w  (fun t' keep' n' i' w' => ∃ m', m' < m ∧ I m' t' keep' n' i' w') R
theorem kv_table_rebuild.L2_sound {R : World → Prop}  (t : Option Addr) (keep : Nat) (n i : Int) (w : World) (h : kv_table_rebuild.L2 t keep n i w  R) :
    KW Try.prog 64 78 (kv_table_rebuild.RV R) ([(0, [1, 1, 1, 0, 1, 0, 0]), (2, [1, 1, 1, 0, 1, 0, 0]), (1, [2]), (0, [1, 1, 1, 1])].map (toItem (Try.f64.body.getD .skip))) [(0, .pointer t), (2, .pointer (some ⟨keep, 0, none⟩)), (3, .int .i64 n), (5, .int .i64 i)] w := by
  obtain ⟨I, m, hBase, hr⟩ := h
  refine KW.loop (fun m σ w => ∃ (t : Option Addr) (keep : Nat) (n i : Int), σ = [(0, .pointer t), (2, .pointer (some ⟨keep, 0, none⟩)), (3, .int .i64 n), (5, .int .i64 i)] ∧ I m t keep n i w) ?_ m _ w ⟨t, keep, n, i, rfl, hBase⟩
  rintro m ih σ w ⟨t, keep, n, i, rfl, hI⟩
  exact kv_table_rebuild.L2b_sound  (N2 := fun t' keep' n' i' w' => ∃ m', m' < m ∧ I m' t' keep' n' i' w') (fun t' keep' n' i' w' hx => by obtain ⟨m', hlt, hI'⟩ := hx; exact ih m' hlt _ w' ⟨t', keep', n', i', rfl, hI'⟩) t keep n i w (hr m t keep n i w hI)
def kv_table_rebuild.L1b (t : Option Addr) (keep : Nat) (n i : Int) (w : World)  (N1 : Option Addr → Nat → Int → Int → World → Prop) (R : World → Prop) : Prop :=
  Bm (decide (i < (8 : Int))) (
    Pn t fun a =>
    (0 ≤ i ∧ i < ((8 : Nat) : Int)) ∧
    LdI .i64 (Addr.add a (i.toNat * 8)) w fun x19 =>
    Bm (x19 == (1 : Int)) (
      kv_table_rebuild.B1 t keep n i (decide (n < (4 : Int))) w N1 R) (
      kv_table_rebuild.B1 t keep n i false w N1 R)) (
    kv_table_rebuild.L2 t keep n (0 : Int) w  R)
theorem kv_table_rebuild.L1b_eq (t : Option Addr) (keep : Nat) (n i : Int) (w : World)  (N1 : Option Addr → Nat → Int → Int → World → Prop) (R : World → Prop) (sB1 : Option Addr → Nat → Int → Int → Bool → World → Prop) (sL2 : Option Addr → Nat → Int → Int → World → Prop) :
    (
  Bm (decide (i < (8 : Int))) (
    Pn t fun a =>
    (0 ≤ i ∧ i < ((8 : Nat) : Int)) ∧
    LdI .i64 (Addr.add a (i.toNat * 8)) w fun x19 =>
    Bm (x19 == (1 : Int)) (
      sB1 t keep n i (decide (n < (4 : Int))) w) (
      sB1 t keep n i false w)) (
    sL2 t keep n (0 : Int) w)) = kstep Try.prog 78 Try.f64.results.toList (Try.f64.body.getD .skip) (kv_table_rebuild.RV R) (kvc Try.prog 78 Try.f64.results.toList (Try.f64.body.getD .skip) (kv_table_rebuild.RV R) [([(0, [1, 1, 0, 1, 0, 0, 1, 0, 0, 1]), (1, [1]), (0, [1, 1, 0, 1, 0, 0, 1, 1]), (2, [1, 1, 0, 1, 0, 0]), (1, [0]), (0, [1, 1, 1])], fun σ w => dP (slotOf σ 0) fun t_ => dK (slotOf σ 2) fun keep_ => dI .i64 (slotOf σ 3) fun n_ => dI .i64 (slotOf σ 4) fun i_ => dB (slotOf σ 24) fun t24_ => sB1 t_ keep_ n_ i_ t24_ w),
    ([(0, [1, 1, 1, 0, 1, 0, 0]), (2, [1, 1, 1, 0, 1, 0, 0]), (1, [2]), (0, [1, 1, 1, 1])], fun σ w => dP (slotOf σ 0) fun t_ => dK (slotOf σ 2) fun keep_ => dI .i64 (slotOf σ 3) fun n_ => dI .i64 (slotOf σ 5) fun i_ => sL2 t_ keep_ n_ i_ w)] 2000) [(0, [1, 1, 0, 1, 0, 0]), (2, [1, 1, 0, 1, 0, 0]), (1, [0]), (0, [1, 1, 1])] [(0, .pointer t), (2, .pointer (some ⟨keep, 0, none⟩)), (3, .int .i64 n), (4, .int .i64 i)] w := by kernel_rfl
theorem kv_table_rebuild.L1b_sound {R : World → Prop} {N1 : Option Addr → Nat → Int → Int → World → Prop} (hN1 : ∀ t keep n i w, N1 t keep n i w → KW Try.prog 64 78 (kv_table_rebuild.RV R) ([(0, [1, 1, 0, 1, 0, 0]), (2, [1, 1, 0, 1, 0, 0]), (1, [0]), (0, [1, 1, 1])].map (toItem (Try.f64.body.getD .skip))) [(0, .pointer t), (2, .pointer (some ⟨keep, 0, none⟩)), (3, .int .i64 n), (4, .int .i64 i)] w) (t : Option Addr) (keep : Nat) (n i : Int) (w : World) (h : kv_table_rebuild.L1b t keep n i w  N1 R) :
    KW Try.prog 64 78 (kv_table_rebuild.RV R) ([(0, [1, 1, 0, 1, 0, 0]), (2, [1, 1, 0, 1, 0, 0]), (1, [0]), (0, [1, 1, 1])].map (toItem (Try.f64.body.getD .skip))) [(0, .pointer t), (2, .pointer (some ⟨keep, 0, none⟩)), (3, .int .i64 n), (4, .int .i64 i)] w := by
  exact block_spec Try.func64 Try.mixed (stops_cons (fun σ w h => by
      obtain ⟨t_, e0, h⟩ := dP_elim h
      obtain ⟨keep_, e1, h⟩ := dK_elim h
      obtain ⟨n_, e2, h⟩ := dI_elim h
      obtain ⟨i_, e3, h⟩ := dI_elim h
      obtain ⟨t24_, e4, h⟩ := dB_elim h
      exact (kv_table_rebuild.B1_sound hN1 t_ keep_ n_ i_ t24_ w h).weaken (Sub.cons (Sub.cons (Sub.cons (Sub.cons (Sub.cons (Sub.nil _) e4) e3) e2) e1) e0)) (stops_cons (fun σ w h => by
      obtain ⟨t_, e0, h⟩ := dP_elim h
      obtain ⟨keep_, e1, h⟩ := dK_elim h
      obtain ⟨n_, e2, h⟩ := dI_elim h
      obtain ⟨i_, e3, h⟩ := dI_elim h
      exact (kv_table_rebuild.L2_sound  t_ keep_ n_ i_ w h).weaken (Sub.cons (Sub.cons (Sub.cons (Sub.cons (Sub.nil _) e3) e2) e1) e0)) stops_nil)) (Eq.mp (kv_table_rebuild.L1b_eq t keep n i w  N1 R (fun t_ keep_ n_ i_ t24_ w => kv_table_rebuild.B1 t_ keep_ n_ i_ t24_ w N1 R) (fun t_ keep_ n_ i_ w => kv_table_rebuild.L2 t_ keep_ n_ i_ w  R)) h)
def kv_table_rebuild.L1 (t : Option Addr) (keep : Nat) (n i : Int) (w : World)  (R : World → Prop) : Prop :=
  ∃ (I : Nat → Option Addr → Nat → Int → Int → World → Prop) (m : Nat), I m t keep n i w ∧ ∀ m t keep n i w, I m t keep n i w → kv_table_rebuild.L1b t keep n i w  (fun t' keep' n' i' w' => ∃ m', m' < m ∧ I m' t' keep' n' i' w') R
theorem kv_table_rebuild.L1_sound {R : World → Prop}  (t : Option Addr) (keep : Nat) (n i : Int) (w : World) (h : kv_table_rebuild.L1 t keep n i w  R) :
    KW Try.prog 64 78 (kv_table_rebuild.RV R) ([(0, [1, 1, 0, 1, 0, 0]), (2, [1, 1, 0, 1, 0, 0]), (1, [0]), (0, [1, 1, 1])].map (toItem (Try.f64.body.getD .skip))) [(0, .pointer t), (2, .pointer (some ⟨keep, 0, none⟩)), (3, .int .i64 n), (4, .int .i64 i)] w := by
  obtain ⟨I, m, hBase, hr⟩ := h
  refine KW.loop (fun m σ w => ∃ (t : Option Addr) (keep : Nat) (n i : Int), σ = [(0, .pointer t), (2, .pointer (some ⟨keep, 0, none⟩)), (3, .int .i64 n), (4, .int .i64 i)] ∧ I m t keep n i w) ?_ m _ w ⟨t, keep, n, i, rfl, hBase⟩
  rintro m ih σ w ⟨t, keep, n, i, rfl, hI⟩
  exact kv_table_rebuild.L1b_sound  (N1 := fun t' keep' n' i' w' => ∃ m', m' < m ∧ I m' t' keep' n' i' w') (fun t' keep' n' i' w' hx => by obtain ⟨m', hlt, hI'⟩ := hx; exact ih m' hlt _ w' ⟨t', keep', n', i', rfl, hI'⟩) t keep n i w (hr m t keep n i w hI)
def kv_table_rebuild.B0 (t : Option Addr) (w : World)   (R : World → Prop) : Prop :=
  New (.cells #[.int .i64 (0 : Int), .int .i64 (0 : Int), .int .u8 (0 : Int), .int .u8 (0 : Int), .int .i64 (0 : Int), .int .u8 (0 : Int), .int .u8 (0 : Int), .int .u8 (0 : Int), .int .i64 (0 : Int), .int .i64 (0 : Int), .int .u8 (0 : Int), .int .u8 (0 : Int), .int .i64 (0 : Int), .int .u8 (0 : Int), .int .u8 (0 : Int), .int .u8 (0 : Int), .int .i64 (0 : Int), .int .i64 (0 : Int), .int .u8 (0 : Int), .int .u8 (0 : Int), .int .i64 (0 : Int), .int .u8 (0 : Int), .int .u8 (0 : Int), .int .u8 (0 : Int), .int .i64 (0 : Int), .int .i64 (0 : Int), .int .u8 (0 : Int), .int .u8 (0 : Int), .int .i64 (0 : Int), .int .u8 (0 : Int), .int .u8 (0 : Int), .int .u8 (0 : Int)] 104) w fun keep_ w1 =>
  kv_table_rebuild.L1 t keep_ (0 : Int) (0 : Int) w1  R
theorem kv_table_rebuild.B0_eq (t : Option Addr) (w : World)   (R : World → Prop) (sL1 : Option Addr → Nat → Int → Int → World → Prop) :
    (
  New (.cells #[.int .i64 (0 : Int), .int .i64 (0 : Int), .int .u8 (0 : Int), .int .u8 (0 : Int), .int .i64 (0 : Int), .int .u8 (0 : Int), .int .u8 (0 : Int), .int .u8 (0 : Int), .int .i64 (0 : Int), .int .i64 (0 : Int), .int .u8 (0 : Int), .int .u8 (0 : Int), .int .i64 (0 : Int), .int .u8 (0 : Int), .int .u8 (0 : Int), .int .u8 (0 : Int), .int .i64 (0 : Int), .int .i64 (0 : Int), .int .u8 (0 : Int), .int .u8 (0 : Int), .int .i64 (0 : Int), .int .u8 (0 : Int), .int .u8 (0 : Int), .int .u8 (0 : Int), .int .i64 (0 : Int), .int .i64 (0 : Int), .int .u8 (0 : Int), .int .u8 (0 : Int), .int .i64 (0 : Int), .int .u8 (0 : Int), .int .u8 (0 : Int), .int .u8 (0 : Int)] 104) w fun keep_ w1 =>
  sL1 t keep_ (0 : Int) (0 : Int) w1) = kstep Try.prog 78 Try.f64.results.toList (Try.f64.body.getD .skip) (kv_table_rebuild.RV R) (kvc Try.prog 78 Try.f64.results.toList (Try.f64.body.getD .skip) (kv_table_rebuild.RV R) [([(0, [1, 1, 0, 1, 0, 0]), (2, [1, 1, 0, 1, 0, 0]), (1, [0]), (0, [1, 1, 1])], fun σ w => dP (slotOf σ 0) fun t_ => dK (slotOf σ 2) fun keep_ => dI .i64 (slotOf σ 3) fun n_ => dI .i64 (slotOf σ 4) fun i_ => sL1 t_ keep_ n_ i_ w)] 2000) [(0, [])] [(0, .pointer t)] w := by kernel_rfl
theorem kv_table_rebuild.B0_sound {R : World → Prop}  (t : Option Addr) (w : World) (h : kv_table_rebuild.B0 t w   R) :
    KW Try.prog 64 78 (kv_table_rebuild.RV R) ([(0, [])].map (toItem (Try.f64.body.getD .skip))) [(0, .pointer t)] w := by
  exact block_spec Try.func64 Try.mixed (stops_cons (fun σ w h => by
      obtain ⟨t_, e0, h⟩ := dP_elim h
      obtain ⟨keep_, e1, h⟩ := dK_elim h
      obtain ⟨n_, e2, h⟩ := dI_elim h
      obtain ⟨i_, e3, h⟩ := dI_elim h
      exact (kv_table_rebuild.L1_sound  t_ keep_ n_ i_ w h).weaken (Sub.cons (Sub.cons (Sub.cons (Sub.cons (Sub.nil _) e3) e2) e1) e0)) stops_nil) (Eq.mp (kv_table_rebuild.B0_eq t w   R (fun t_ keep_ n_ i_ w => kv_table_rebuild.L1 t_ keep_ n_ i_ w  R)) h)
theorem kv_table_rebuild.sound (t : Option Addr) (w : World) (R : World → Prop) (h : kv_table_rebuild.B0 t w R) : kv_table_rebuild.Call t w R := by
  have hc := calls_of_block (args := #[.pointer t]) Try.func64 (body := (Try.f64.body.getD .skip)) (by kernel_rfl) (by kernel_rfl) (args_slot _) (kv_table_rebuild.B0_sound t w h)
  exact hc.mono fun e w' he => by
    obtain ⟨v, rfl, hv⟩ := he
    exact kv_table_rebuild.RV_elim hv
end Go.Proofs.Qxb6500429a
