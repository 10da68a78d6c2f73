import Derived.Test.Qxb6500430aGreatSig
set_option maxRecDepth 100000
set_option linter.unusedVariables false
open Go.Vc
namespace Go.Proofs.Qxb6500430aGreat
def rlogm_Log_pop.B0 (l : Option Addr) (w : World)   (R : World → Prop) : Prop :=
  Pn l fun a =>
  LdP a w fun x5 =>
  Pn x5 fun a_1 =>
  LdI .i64 (a_1.add 5) w fun x8 =>
  Pn x5 fun a_2 =>
  Sts [.int .i64 (IntKind.i64.wrap (x8 - (1 : Int)))] (a_2.add 5) 0 w fun w1 =>
  Pn l fun a_3 =>
  LdP a_3 w1.drew fun x15 =>
  Pn l fun a_4 =>
  LdP a_4 w1.drew fun x19 =>
  Pn x19 fun a_5 =>
  LdI .i64 (a_5.add 5) w1.drew fun x22 =>
  Pn x15 fun a_6 =>
  (0 ≤ x22 ∧ x22 < ((6 : Nat) : Int)) ∧
  Sts [.int .i64 (0 : Int), .string (ByteArray.mk #[])] (Addr.add (a_6.add 6) (x22.toNat * 2)) 0 w1.drew fun w2 =>
  rlogm_Log_step.Call l w2 fun w3 =>
  R  w3
theorem rlogm_Log_pop.B0_eq (l : Option Addr) (w : World)   (R : World → Prop)  :
    (
  Pn l fun a =>
  LdP a w fun x5 =>
  Pn x5 fun a_1 =>
  LdI .i64 (a_1.add 5) w fun x8 =>
  Pn x5 fun a_2 =>
  Sts [.int .i64 (IntKind.i64.wrap (x8 - (1 : Int)))] (a_2.add 5) 0 w fun w1 =>
  Pn l fun a_3 =>
  LdP a_3 w1.drew fun x15 =>
  Pn l fun a_4 =>
  LdP a_4 w1.drew fun x19 =>
  Pn x19 fun a_5 =>
  LdI .i64 (a_5.add 5) w1.drew fun x22 =>
  Pn x15 fun a_6 =>
  (0 ≤ x22 ∧ x22 < ((6 : Nat) : Int)) ∧
  Sts [.int .i64 (0 : Int), .string (ByteArray.mk #[])] (Addr.add (a_6.add 6) (x22.toNat * 2)) 0 w1.drew fun w2 =>
  rlogm_Log_step.Call l w2 fun w3 =>
  R  w3) = kstep Tryz.prog 29 Tryz.f247.results.toList (Tryz.f247.body.getD .skip) (rlogm_Log_pop.RV R) (kvc Tryz.prog 29 Tryz.f247.results.toList (Tryz.f247.body.getD .skip) (rlogm_Log_pop.RV R) [] 2000) [(0, [])] [(0, .pointer l)] w := by kernel_rfl
theorem rlogm_Log_pop.B0_sound {R : World → Prop}  (l : Option Addr) (w : World) (h : rlogm_Log_pop.B0 l w   R) :
    KW Tryz.prog 247 29 (rlogm_Log_pop.RV R) ([(0, [])].map (toItem (Tryz.f247.body.getD .skip))) [(0, .pointer l)] w := by
  exact block_spec Tryz.func247 Tryz.mixed stops_nil (Eq.mp (rlogm_Log_pop.B0_eq l w   R ) h)
theorem rlogm_Log_pop.sound (l : Option Addr) (w : World) (R : World → Prop) (h : rlogm_Log_pop.B0 l w R) : rlogm_Log_pop.Call l w R := by
  have hc := calls_of_block (args := #[.pointer l]) Tryz.func247 (body := (Tryz.f247.body.getD .skip)) (by kernel_rfl) (by kernel_rfl) (args_slot _) (rlogm_Log_pop.B0_sound l w h)
  exact hc.mono fun e w' he => by
    obtain ⟨v, rfl, hv⟩ := he
    exact rlogm_Log_pop.RV_elim hv
def rlog_Log_At.B0 (l : Option Addr) (i : Int) (w : World)   (R : Int → ByteArray → Int → World → Prop) : Prop :=
  New (.cells #[.int .i64 (0 : Int), .string (ByteArray.mk #[])] 155) w fun b4 w1 =>
  Pn l fun a =>
  LdI .i64 (a.add 3) w1 fun x11 =>
  Bm (decide (i ≤ x11)) (
    Sts [.int .i64 (0 : Int), .string (ByteArray.mk #[])] ⟨b4, 0, none⟩ 0 w1 fun w2 =>
    LdI .i64 ⟨b4, 0, none⟩ w2 fun r_0 =>
    LdS ⟨b4, 1, none⟩ w2 fun r_1 =>
    R r_0 r_1 (7 : Int) w2) (
    Pn l fun a_1 =>
    LdI .i64 (a_1.add 6) w1 fun x18 =>
    Bm (decide (i > x18)) (
      Sts [.int .i64 (0 : Int), .string (ByteArray.mk #[])] ⟨b4, 0, none⟩ 0 w1 fun w3 =>
      LdI .i64 ⟨b4, 0, none⟩ w3 fun r_0_1 =>
      LdS ⟨b4, 1, none⟩ w3 fun r_1_1 =>
      R r_0_1 r_1_1 (2 : Int) w3) (
      rlog_slotOf.Call i w1 fun r22 w4 =>
      Pn l fun a_2 =>
      (0 ≤ r22 ∧ r22 < ((6 : Nat) : Int)) ∧
      LdI .i64 (Addr.add (a_2.add 7) (r22.toNat * 1)) w4.drew fun x28 =>
      Pn l fun a_3 =>
      (0 ≤ r22 ∧ r22 < ((6 : Nat) : Int)) ∧
      LdS (Addr.add (a_3.add 13) (r22.toNat * 1)) w4.drew fun x34 =>
      Sts [.int .i64 x28, .string x34] ⟨b4, 0, none⟩ 0 w4.drew fun w5 =>
      LdI .i64 ⟨b4, 0, none⟩ w5 fun r_0_2 =>
      LdS ⟨b4, 1, none⟩ w5 fun r_1_2 =>
      R r_0_2 r_1_2 (0 : Int) w5))
theorem rlog_Log_At.B0_eq (l : Option Addr) (i : Int) (w : World)   (R : Int → ByteArray → Int → World → Prop)  :
    (
  New (.cells #[.int .i64 (0 : Int), .string (ByteArray.mk #[])] 155) w fun b4 w1 =>
  Pn l fun a =>
  LdI .i64 (a.add 3) w1 fun x11 =>
  Bm (decide (i ≤ x11)) (
    Sts [.int .i64 (0 : Int), .string (ByteArray.mk #[])] ⟨b4, 0, none⟩ 0 w1 fun w2 =>
    LdI .i64 ⟨b4, 0, none⟩ w2 fun r_0 =>
    LdS ⟨b4, 1, none⟩ w2 fun r_1 =>
    R r_0 r_1 (7 : Int) w2) (
    Pn l fun a_1 =>
    LdI .i64 (a_1.add 6) w1 fun x18 =>
    Bm (decide (i > x18)) (
      Sts [.int .i64 (0 : Int), .string (ByteArray.mk #[])] ⟨b4, 0, none⟩ 0 w1 fun w3 =>
      LdI .i64 ⟨b4, 0, none⟩ w3 fun r_0_1 =>
      LdS ⟨b4, 1, none⟩ w3 fun r_1_1 =>
      R r_0_1 r_1_1 (2 : Int) w3) (
      rlog_slotOf.Call i w1 fun r22 w4 =>
      Pn l fun a_2 =>
      (0 ≤ r22 ∧ r22 < ((6 : Nat) : Int)) ∧
      LdI .i64 (Addr.add (a_2.add 7) (r22.toNat * 1)) w4.drew fun x28 =>
      Pn l fun a_3 =>
      (0 ≤ r22 ∧ r22 < ((6 : Nat) : Int)) ∧
      LdS (Addr.add (a_3.add 13) (r22.toNat * 1)) w4.drew fun x34 =>
      Sts [.int .i64 x28, .string x34] ⟨b4, 0, none⟩ 0 w4.drew fun w5 =>
      LdI .i64 ⟨b4, 0, none⟩ w5 fun r_0_2 =>
      LdS ⟨b4, 1, none⟩ w5 fun r_1_2 =>
      R r_0_2 r_1_2 (0 : Int) w5))) = kstep Tryz.prog 36 Tryz.f248.results.toList (Tryz.f248.body.getD .skip) (rlog_Log_At.RV R) (kvc Tryz.prog 36 Tryz.f248.results.toList (Tryz.f248.body.getD .skip) (rlog_Log_At.RV R) [] 2000) [(0, [])] [(0, .pointer l), (1, .int .i64 i)] w := by kernel_rfl
theorem rlog_Log_At.B0_sound {R : Int → ByteArray → Int → World → Prop}  (l : Option Addr) (i : Int) (w : World) (h : rlog_Log_At.B0 l i w   R) :
    KW Tryz.prog 248 36 (rlog_Log_At.RV R) ([(0, [])].map (toItem (Tryz.f248.body.getD .skip))) [(0, .pointer l), (1, .int .i64 i)] w := by
  exact block_spec Tryz.func248 Tryz.mixed stops_nil (Eq.mp (rlog_Log_At.B0_eq l i w   R ) h)
theorem rlog_Log_At.sound (l : Option Addr) (i : Int) (w : World) (R : Int → ByteArray → Int → World → Prop) (h : rlog_Log_At.B0 l i w R) : rlog_Log_At.Call l i w R := by
  have hc := calls_of_block (args := #[.pointer l, .int .i64 i]) Tryz.func248 (body := (Tryz.f248.body.getD .skip)) (by kernel_rfl) (by kernel_rfl) (args_slot _) (rlog_Log_At.B0_sound l i w h)
  exact hc.mono fun e w' he => by
    obtain ⟨v, rfl, hv⟩ := he
    exact rlog_Log_At.RV_elim hv
def kv_table_find.B1 (t : Option Addr) (key : ByteArray) (i n : Int) (w : World) (N1 : Option Addr → ByteArray → Int → Int → World → Prop)  (R : Int → World → Prop) : Prop :=
  kv_next.Call i w fun r33 w1 =>
  N1 t key r33 (IntKind.i64.wrap (n + (1 : Int))) w1
theorem kv_table_find.B1_eq (t : Option Addr) (key : ByteArray) (i n : Int) (w : World) (N1 : Option Addr → ByteArray → Int → Int → World → Prop)  (R : Int → World → Prop)  :
    (
  kv_next.Call i w fun r33 w1 =>
  N1 t key r33 (IntKind.i64.wrap (n + (1 : Int))) w1) = kstep Tryz.prog 34 Tryz.f249.results.toList (Tryz.f249.body.getD .skip) (kv_table_find.RV R) (kvc Tryz.prog 34 Tryz.f249.results.toList (Tryz.f249.body.getD .skip) (kv_table_find.RV R) [([(0, [1, 1, 0, 1, 0, 0]), (2, [1, 1, 0, 1, 0, 0]), (1, [0]), (0, [1, 1, 1])], fun σ w => dP (slotOf σ 0) fun t_ => dS (slotOf σ 1) fun key_ => dI .i64 (slotOf σ 5) fun i_ => dI .i64 (slotOf σ 6) fun n_ => N1 t_ key_ i_ n_ w)] 2000) [(0, [1, 1, 0, 1, 0, 0, 1, 0, 0, 1, 1, 1]), (1, [1]), (0, [1, 1, 0, 1, 0, 0, 1, 1]), (2, [1, 1, 0, 1, 0, 0]), (1, [0]), (0, [1, 1, 1])] [(0, .pointer t), (1, .string key), (5, .int .i64 i), (6, .int .i64 n)] w := by kernel_rfl
theorem kv_table_find.B1_sound {R : Int → World → Prop} {N1 : Option Addr → ByteArray → Int → Int → World → Prop} (hN1 : ∀ t key i n w, N1 t key i n w → KW Tryz.prog 249 34 (kv_table_find.RV R) ([(0, [1, 1, 0, 1, 0, 0]), (2, [1, 1, 0, 1, 0, 0]), (1, [0]), (0, [1, 1, 1])].map (toItem (Tryz.f249.body.getD .skip))) [(0, .pointer t), (1, .string key), (5, .int .i64 i), (6, .int .i64 n)] w) (t : Option Addr) (key : ByteArray) (i n : Int) (w : World) (h : kv_table_find.B1 t key i n w N1  R) :
    KW Tryz.prog 249 34 (kv_table_find.RV R) ([(0, [1, 1, 0, 1, 0, 0, 1, 0, 0, 1, 1, 1]), (1, [1]), (0, [1, 1, 0, 1, 0, 0, 1, 1]), (2, [1, 1, 0, 1, 0, 0]), (1, [0]), (0, [1, 1, 1])].map (toItem (Tryz.f249.body.getD .skip))) [(0, .pointer t), (1, .string key), (5, .int .i64 i), (6, .int .i64 n)] w := by
  exact block_spec Tryz.func249 Tryz.mixed (stops_cons (fun σ w h => by
      obtain ⟨t_, e0, h⟩ := dP_elim h
      obtain ⟨key_, e1, h⟩ := dS_elim h
      obtain ⟨i_, e2, h⟩ := dI_elim h
      obtain ⟨n_, e3, h⟩ := dI_elim h
      exact (hN1 t_ key_ i_ n_ w h).weaken (Sub.cons (Sub.cons (Sub.cons (Sub.cons (Sub.nil _) e3) e2) e1) e0)) stops_nil) (Eq.mp (kv_table_find.B1_eq t key i n w N1  R ) h)
def kv_table_find.L1b (t : Option Addr) (key : ByteArray) (i n : Int) (w : World)  (N1 : Option Addr → ByteArray → Int → Int → World → Prop) (R : Int → World → Prop) : Prop :=
  Bm (decide (n < (8 : Int))) (
    Pn t fun a =>
    (0 ≤ i ∧ i < ((8 : Nat) : Int)) ∧
    LdI .i64 (Addr.add a (i.toNat * 8)) w fun x20_0 =>
    LdI .i64 ((Addr.add a (i.toNat * 8)).add 1) w fun x20_1 =>
    LdI .u8 ((Addr.add a (i.toNat * 8)).add 2) w fun x20_2 =>
    LdI .u8 ((Addr.add a (i.toNat * 8)).add 3) w fun x20_3 =>
    LdI .i64 ((Addr.add a (i.toNat * 8)).add 4) w fun x20_4 =>
    LdI .u8 ((Addr.add a (i.toNat * 8)).add 5) w fun x20_5 =>
    LdI .u8 ((Addr.add a (i.toNat * 8)).add 6) w fun x20_6 =>
    LdI .u8 ((Addr.add a (i.toNat * 8)).add 7) w fun x20_7 =>
    New (.cells #[.int .i64 (0 : Int), .int .i64 (0 : Int), .int .u8 (0 : Int), .int .u8 (0 : Int), .int .i64 (0 : Int), .int .u8 (0 : Int), .int .u8 (0 : Int), .int .u8 (0 : Int)] 66) w fun c_ w1 =>
    Sts [.int .i64 x20_0, .int .i64 x20_1, .int .u8 x20_2, .int .u8 x20_3, .int .i64 x20_4, .int .u8 x20_5, .int .u8 x20_6, .int .u8 x20_7] ⟨c_, 0, none⟩ 0 w1 fun w2 =>
    LdI .i64 ⟨c_, 0, none⟩ w2 fun x22 =>
    Bm (x22 == (0 : Int)) (
      R (-1 : Int) w2) (
      LdI .i64 ⟨c_, 0, none⟩ w2 fun x25 =>
      Bm (x25 == (1 : Int)) (
        LdI .i64 ⟨c_, 0, none⟩ w2 fun x27_0 =>
        LdI .i64 ⟨c_, 1, none⟩ w2 fun x27_1 =>
        LdI .u8 ⟨c_, 2, none⟩ w2 fun x27_2 =>
        LdI .u8 ⟨c_, 3, none⟩ w2 fun x27_3 =>
        LdI .i64 ⟨c_, 4, none⟩ w2 fun x27_4 =>
        LdI .u8 ⟨c_, 5, none⟩ w2 fun x27_5 =>
        LdI .u8 ⟨c_, 6, none⟩ w2 fun x27_6 =>
        LdI .u8 ⟨c_, 7, none⟩ w2 fun x27_7 =>
        kv_keyIs.Call x27_0 x27_1 x27_2 x27_3 x27_4 x27_5 x27_6 x27_7 key w2 fun r29 w3 =>
        Bm r29 (
          R i w3) (
          kv_table_find.B1 t key i n w3 N1 R)) (
        kv_table_find.B1 t key i n w2 N1 R))) (
    R (-1 : Int) w)
theorem kv_table_find.L1b_eq (t : Option Addr) (key : ByteArray) (i n : Int) (w : World)  (N1 : Option Addr → ByteArray → Int → Int → World → Prop) (R : Int → World → Prop) (sB1 : Option Addr → ByteArray → Int → Int → World → Prop) :
    (
  Bm (decide (n < (8 : Int))) (
    Pn t fun a =>
    (0 ≤ i ∧ i < ((8 : Nat) : Int)) ∧
    LdI .i64 (Addr.add a (i.toNat * 8)) w fun x20_0 =>
    LdI .i64 ((Addr.add a (i.toNat * 8)).add 1) w fun x20_1 =>
    LdI .u8 ((Addr.add a (i.toNat * 8)).add 2) w fun x20_2 =>
    LdI .u8 ((Addr.add a (i.toNat * 8)).add 3) w fun x20_3 =>
    LdI .i64 ((Addr.add a (i.toNat * 8)).add 4) w fun x20_4 =>
    LdI .u8 ((Addr.add a (i.toNat * 8)).add 5) w fun x20_5 =>
    LdI .u8 ((Addr.add a (i.toNat * 8)).add 6) w fun x20_6 =>
    LdI .u8 ((Addr.add a (i.toNat * 8)).add 7) w fun x20_7 =>
    New (.cells #[.int .i64 (0 : Int), .int .i64 (0 : Int), .int .u8 (0 : Int), .int .u8 (0 : Int), .int .i64 (0 : Int), .int .u8 (0 : Int), .int .u8 (0 : Int), .int .u8 (0 : Int)] 66) w fun c_ w1 =>
    Sts [.int .i64 x20_0, .int .i64 x20_1, .int .u8 x20_2, .int .u8 x20_3, .int .i64 x20_4, .int .u8 x20_5, .int .u8 x20_6, .int .u8 x20_7] ⟨c_, 0, none⟩ 0 w1 fun w2 =>
    LdI .i64 ⟨c_, 0, none⟩ w2 fun x22 =>
    Bm (x22 == (0 : Int)) (
      R (-1 : Int) w2) (
      LdI .i64 ⟨c_, 0, none⟩ w2 fun x25 =>
      Bm (x25 == (1 : Int)) (
        LdI .i64 ⟨c_, 0, none⟩ w2 fun x27_0 =>
        LdI .i64 ⟨c_, 1, none⟩ w2 fun x27_1 =>
        LdI .u8 ⟨c_, 2, none⟩ w2 fun x27_2 =>
        LdI .u8 ⟨c_, 3, none⟩ w2 fun x27_3 =>
        LdI .i64 ⟨c_, 4, none⟩ w2 fun x27_4 =>
        LdI .u8 ⟨c_, 5, none⟩ w2 fun x27_5 =>
        LdI .u8 ⟨c_, 6, none⟩ w2 fun x27_6 =>
        LdI .u8 ⟨c_, 7, none⟩ w2 fun x27_7 =>
        kv_keyIs.Call x27_0 x27_1 x27_2 x27_3 x27_4 x27_5 x27_6 x27_7 key w2 fun r29 w3 =>
        Bm r29 (
          R i w3) (
          sB1 t key i n w3)) (
        sB1 t key i n w2))) (
    R (-1 : Int) w)) = kstep Tryz.prog 34 Tryz.f249.results.toList (Tryz.f249.body.getD .skip) (kv_table_find.RV R) (kvc Tryz.prog 34 Tryz.f249.results.toList (Tryz.f249.body.getD .skip) (kv_table_find.RV R) [([(0, [1, 1, 0, 1, 0, 0, 1, 0, 0, 1, 1, 1]), (1, [1]), (0, [1, 1, 0, 1, 0, 0, 1, 1]), (2, [1, 1, 0, 1, 0, 0]), (1, [0]), (0, [1, 1, 1])], fun σ w => dP (slotOf σ 0) fun t_ => dS (slotOf σ 1) fun key_ => dI .i64 (slotOf σ 5) fun i_ => dI .i64 (slotOf σ 6) fun n_ => sB1 t_ key_ i_ n_ w)] 2000) [(0, [1, 1, 0, 1, 0, 0]), (2, [1, 1, 0, 1, 0, 0]), (1, [0]), (0, [1, 1, 1])] [(0, .pointer t), (1, .string key), (5, .int .i64 i), (6, .int .i64 n)] w := by kernel_rfl
theorem kv_table_find.L1b_sound {R : Int → World → Prop} {N1 : Option Addr → ByteArray → Int → Int → World → Prop} (hN1 : ∀ t key i n w, N1 t key i n w → KW Tryz.prog 249 34 (kv_table_find.RV R) ([(0, [1, 1, 0, 1, 0, 0]), (2, [1, 1, 0, 1, 0, 0]), (1, [0]), (0, [1, 1, 1])].map (toItem (Tryz.f249.body.getD .skip))) [(0, .pointer t), (1, .string key), (5, .int .i64 i), (6, .int .i64 n)] w) (t : Option Addr) (key : ByteArray) (i n : Int) (w : World) (h : kv_table_find.L1b t key i n w  N1 R) :
    KW Tryz.prog 249 34 (kv_table_find.RV R) ([(0, [1, 1, 0, 1, 0, 0]), (2, [1, 1, 0, 1, 0, 0]), (1, [0]), (0, [1, 1, 1])].map (toItem (Tryz.f249.body.getD .skip))) [(0, .pointer t), (1, .string key), (5, .int .i64 i), (6, .int .i64 n)] w := by
  exact block_spec Tryz.func249 Tryz.mixed (stops_cons (fun σ w h => by
      obtain ⟨t_, e0, h⟩ := dP_elim h
      obtain ⟨key_, e1, h⟩ := dS_elim h
      obtain ⟨i_, e2, h⟩ := dI_elim h
      obtain ⟨n_, e3, h⟩ := dI_elim h
      exact (kv_table_find.B1_sound hN1 t_ key_ i_ n_ w h).weaken (Sub.cons (Sub.cons (Sub.cons (Sub.cons (Sub.nil _) e3) e2) e1) e0)) stops_nil) (Eq.mp (kv_table_find.L1b_eq t key i n w  N1 R (fun t_ key_ i_ n_ w => kv_table_find.B1 t_ key_ i_ n_ w N1 R)) h)
def kv_table_find.L1 (t : Option Addr) (key : ByteArray) (i n : Int) (w : World)  (R : Int → World → Prop) : Prop :=
  ∃ (I : Nat → Option Addr → ByteArray → Int → Int → World → Prop) (m : Nat), I m t key i n w ∧ ∀ m t key i n w, I m t key i n w → kv_table_find.L1b t key i n w  (fun t' key' i' n' w' => ∃ m', m' < m ∧ I m' t' key' i' n' w') R
theorem kv_table_find.L1_sound {R : Int → World → Prop}  (t : Option Addr) (key : ByteArray) (i n : Int) (w : World) (h : kv_table_find.L1 t key i n w  R) :
    KW Tryz.prog 249 34 (kv_table_find.RV R) ([(0, [1, 1, 0, 1, 0, 0]), (2, [1, 1, 0, 1, 0, 0]), (1, [0]), (0, [1, 1, 1])].map (toItem (Tryz.f249.body.getD .skip))) [(0, .pointer t), (1, .string key), (5, .int .i64 i), (6, .int .i64 n)] w := by
  obtain ⟨I, m, hBase, hr⟩ := h
  refine KW.loop (fun m σ w => ∃ (t : Option Addr) (key : ByteArray) (i n : Int), σ = [(0, .pointer t), (1, .string key), (5, .int .i64 i), (6, .int .i64 n)] ∧ I m t key i n w) ?_ m _ w ⟨t, key, i, n, rfl, hBase⟩
  rintro m ih σ w ⟨t, key, i, n, rfl, hI⟩
  exact kv_table_find.L1b_sound  (N1 := fun t' key' i' n' w' => ∃ m', m' < m ∧ I m' t' key' i' n' w') (fun t' key' i' n' w' hx => by obtain ⟨m', hlt, hI'⟩ := hx; exact ih m' hlt _ w' ⟨t', key', i', n', rfl, hI'⟩) t key i n w (hr m t key i n w hI)
def kv_table_find.B0 (t : Option Addr) (key : ByteArray) (w : World)   (R : Int → World → Prop) : Prop :=
  kv_hash.Call key w fun r10 w1 =>
  kv_table_find.L1 t key r10 (0 : Int) w1  R
theorem kv_table_find.B0_eq (t : Option Addr) (key : ByteArray) (w : World)   (R : Int → World → Prop) (sL1 : Option Addr → ByteArray → Int → Int → World → Prop) :
    (
  kv_hash.Call key w fun r10 w1 =>
  sL1 t key r10 (0 : Int) w1) = kstep Tryz.prog 34 Tryz.f249.results.toList (Tryz.f249.body.getD .skip) (kv_table_find.RV R) (kvc Tryz.prog 34 Tryz.f249.results.toList (Tryz.f249.body.getD .skip) (kv_table_find.RV R) [([(0, [1, 1, 0, 1, 0, 0]), (2, [1, 1, 0, 1, 0, 0]), (1, [0]), (0, [1, 1, 1])], fun σ w => dP (slotOf σ 0) fun t_ => dS (slotOf σ 1) fun key_ => dI .i64 (slotOf σ 5) fun i_ => dI .i64 (slotOf σ 6) fun n_ => sL1 t_ key_ i_ n_ w)] 2000) [(0, [])] [(0, .pointer t), (1, .string key)] w := by kernel_rfl
theorem kv_table_find.B0_sound {R : Int → World → Prop}  (t : Option Addr) (key : ByteArray) (w : World) (h : kv_table_find.B0 t key w   R) :
    KW Tryz.prog 249 34 (kv_table_find.RV R) ([(0, [])].map (toItem (Tryz.f249.body.getD .skip))) [(0, .pointer t), (1, .string key)] w := by
  exact block_spec Tryz.func249 Tryz.mixed (stops_cons (fun σ w h => by
      obtain ⟨t_, e0, h⟩ := dP_elim h
      obtain ⟨key_, e1, h⟩ := dS_elim h
      obtain ⟨i_, e2, h⟩ := dI_elim h
      obtain ⟨n_, e3, h⟩ := dI_elim h
      exact (kv_table_find.L1_sound  t_ key_ i_ n_ w h).weaken (Sub.cons (Sub.cons (Sub.cons (Sub.cons (Sub.nil _) e3) e2) e1) e0)) stops_nil) (Eq.mp (kv_table_find.B0_eq t key w   R (fun t_ key_ i_ n_ w => kv_table_find.L1 t_ key_ i_ n_ w  R)) h)
theorem kv_table_find.sound (t : Option Addr) (key : ByteArray) (w : World) (R : Int → World → Prop) (h : kv_table_find.B0 t key w R) : kv_table_find.Call t key w R := by
  have hc := calls_of_block (args := #[.pointer t, .string key]) Tryz.func249 (body := (Tryz.f249.body.getD .skip)) (by kernel_rfl) (by kernel_rfl) (args_slot _) (kv_table_find.B0_sound t key w h)
  exact hc.mono fun e w' he => by
    obtain ⟨v, rfl, hv⟩ := he
    exact kv_table_find.RV_elim hv
def kv_valOf.B1 (c : Nat) (b_b : Option Addr) (b_l b_c : Nat) (i : Int) (t13 : Bool) (w : World) (N1 : Nat → Option Addr → Nat → Nat → Int → World → Prop)  (R : ByteArray → World → Prop) : Prop :=
  Bm t13 (
    (0 ≤ i ∧ i < ((3 : Nat) : Int)) ∧
    LdI .u8 (Addr.add ⟨c, 5, none⟩ (i.toNat * 1)) w fun x20 =>
    New (.cells #[.int .u8 x20] 5) w fun b21 w1 =>
    Append 5 (.int .u8 (0 : Int)) 1 1 b_b b_l b_c (some ⟨b21, 0, none⟩) 1 w1 fun b22 c22 w2 =>
    N1 c b22 (b_l + 1) c22 (IntKind.i64.wrap (i + (1 : Int))) w2) (
    ToStr b_b b_l w fun s24 =>
    R s24 w)
theorem kv_valOf.B1_eq (c : Nat) (b_b : Option Addr) (b_l b_c : Nat) (i : Int) (t13 : Bool) (w : World) (N1 : Nat → Option Addr → Nat → Nat → Int → World → Prop)  (R : ByteArray → World → Prop)  :
    (
  Bm t13 (
    (0 ≤ i ∧ i < ((3 : Nat) : Int)) ∧
    LdI .u8 (Addr.add ⟨c, 5, none⟩ (i.toNat * 1)) w fun x20 =>
    New (.cells #[.int .u8 x20] 5) w fun b21 w1 =>
    Append 5 (.int .u8 (0 : Int)) 1 1 b_b b_l b_c (some ⟨b21, 0, none⟩) 1 w1 fun b22 c22 w2 =>
    N1 c b22 (b_l + 1) c22 (IntKind.i64.wrap (i + (1 : Int))) w2) (
    ToStr b_b b_l w fun s24 =>
    R s24 w)) = kstep Tryz.prog 25 Tryz.f250.results.toList (Tryz.f250.body.getD .skip) (kv_valOf.RV R) (kvc Tryz.prog 25 Tryz.f250.results.toList (Tryz.f250.body.getD .skip) (kv_valOf.RV R) [([(0, [1, 1, 0, 1, 0, 0]), (2, [1, 1, 0, 1, 0, 0]), (1, [0]), (0, [1, 1, 1])], fun σ w => dK (slotOf σ 1) fun c_ => dL (slotOf σ 3) fun b_b_ b_l_ b_c_ => dI .i64 (slotOf σ 4) fun i_ => N1 c_ b_b_ b_l_ b_c_ i_ w)] 2000) [(0, [1, 1, 0, 1, 0, 0, 0, 1]), (0, [1, 1, 0, 1, 0, 0, 1]), (2, [1, 1, 0, 1, 0, 0]), (1, [0]), (0, [1, 1, 1])] [(1, .pointer (some ⟨c, 0, none⟩)), (3, .slice b_b b_l b_c), (4, .int .i64 i), (13, .bool t13)] w := by kernel_rfl
theorem kv_valOf.B1_sound {R : ByteArray → World → Prop} {N1 : Nat → Option Addr → Nat → Nat → Int → World → Prop} (hN1 : ∀ c b_b b_l b_c i w, N1 c b_b b_l b_c i w → KW Tryz.prog 250 25 (kv_valOf.RV R) ([(0, [1, 1, 0, 1, 0, 0]), (2, [1, 1, 0, 1, 0, 0]), (1, [0]), (0, [1, 1, 1])].map (toItem (Tryz.f250.body.getD .skip))) [(1, .pointer (some ⟨c, 0, none⟩)), (3, .slice b_b b_l b_c), (4, .int .i64 i)] w) (c : Nat) (b_b : Option Addr) (b_l b_c : Nat) (i : Int) (t13 : Bool) (w : World) (h : kv_valOf.B1 c b_b b_l b_c i t13 w N1  R) :
    KW Tryz.prog 250 25 (kv_valOf.RV R) ([(0, [1, 1, 0, 1, 0, 0, 0, 1]), (0, [1, 1, 0, 1, 0, 0, 1]), (2, [1, 1, 0, 1, 0, 0]), (1, [0]), (0, [1, 1, 1])].map (toItem (Tryz.f250.body.getD .skip))) [(1, .pointer (some ⟨c, 0, none⟩)), (3, .slice b_b b_l b_c), (4, .int .i64 i), (13, .bool t13)] w := by
  exact block_spec Tryz.func250 Tryz.mixed (stops_cons (fun σ w h => by
      obtain ⟨c_, e0, h⟩ := dK_elim h
      obtain ⟨b_b_, b_l_, b_c_, e1, h⟩ := dL_elim h
      obtain ⟨i_, e2, h⟩ := dI_elim h
      exact (hN1 c_ b_b_ b_l_ b_c_ i_ w h).weaken (Sub.cons (Sub.cons (Sub.cons (Sub.nil _) e2) e1) e0)) stops_nil) (Eq.mp (kv_valOf.B1_eq c b_b b_l b_c i t13 w N1  R ) h)
def kv_valOf.L1b (c : Nat) (b_b : Option Addr) (b_l b_c : Nat) (i : Int) (w : World)  (N1 : Nat → Option Addr → Nat → Nat → Int → World → Prop) (R : ByteArray → World → Prop) : Prop :=
  LdI .i64 ⟨c, 4, none⟩ w fun x8 =>
  Bm (decide (i < x8)) (
    kv_valOf.B1 c b_b b_l b_c i (decide (i < (3 : Int))) w N1 R) (
    kv_valOf.B1 c b_b b_l b_c i false w N1 R)
theorem kv_valOf.L1b_eq (c : Nat) (b_b : Option Addr) (b_l b_c : Nat) (i : Int) (w : World)  (N1 : Nat → Option Addr → Nat → Nat → Int → World → Prop) (R : ByteArray → World → Prop) (sB1 : Nat → Option Addr → Nat → Nat → Int → Bool → World → Prop) :
    (
  LdI .i64 ⟨c, 4, none⟩ w fun x8 =>
  Bm (decide (i < x8)) (
    sB1 c b_b b_l b_c i (decide (i < (3 : Int))) w) (
    sB1 c b_b b_l b_c i false w)) = kstep Tryz.prog 25 Tryz.f250.results.toList (Tryz.f250.body.getD .skip) (kv_valOf.RV R) (kvc Tryz.prog 25 Tryz.f250.results.toList (Tryz.f250.body.getD .skip) (kv_valOf.RV R) [([(0, [1, 1, 0, 1, 0, 0, 0, 1]), (0, [1, 1, 0, 1, 0, 0, 1]), (2, [1, 1, 0, 1, 0, 0]), (1, [0]), (0, [1, 1, 1])], fun σ w => dK (slotOf σ 1) fun c_ => dL (slotOf σ 3) fun b_b_ b_l_ b_c_ => dI .i64 (slotOf σ 4) fun i_ => dB (slotOf σ 13) fun t13_ => sB1 c_ b_b_ b_l_ b_c_ i_ t13_ w)] 2000) [(0, [1, 1, 0, 1, 0, 0]), (2, [1, 1, 0, 1, 0, 0]), (1, [0]), (0, [1, 1, 1])] [(1, .pointer (some ⟨c, 0, none⟩)), (3, .slice b_b b_l b_c), (4, .int .i64 i)] w := by kernel_rfl
theorem kv_valOf.L1b_sound {R : ByteArray → World → Prop} {N1 : Nat → Option Addr → Nat → Nat → Int → World → Prop} (hN1 : ∀ c b_b b_l b_c i w, N1 c b_b b_l b_c i w → KW Tryz.prog 250 25 (kv_valOf.RV R) ([(0, [1, 1, 0, 1, 0, 0]), (2, [1, 1, 0, 1, 0, 0]), (1, [0]), (0, [1, 1, 1])].map (toItem (Tryz.f250.body.getD .skip))) [(1, .pointer (some ⟨c, 0, none⟩)), (3, .slice b_b b_l b_c), (4, .int .i64 i)] w) (c : Nat) (b_b : Option Addr) (b_l b_c : Nat) (i : Int) (w : World) (h : kv_valOf.L1b c b_b b_l b_c i w  N1 R) :
    KW Tryz.prog 250 25 (kv_valOf.RV R) ([(0, [1, 1, 0, 1, 0, 0]), (2, [1, 1, 0, 1, 0, 0]), (1, [0]), (0, [1, 1, 1])].map (toItem (Tryz.f250.body.getD .skip))) [(1, .pointer (some ⟨c, 0, none⟩)), (3, .slice b_b b_l b_c), (4, .int .i64 i)] w := by
  exact block_spec Tryz.func250 Tryz.mixed (stops_cons (fun σ w h => by
      obtain ⟨c_, e0, h⟩ := dK_elim h
      obtain ⟨b_b_, b_l_, b_c_, e1, h⟩ := dL_elim h
      obtain ⟨i_, e2, h⟩ := dI_elim h
      obtain ⟨t13_, e3, h⟩ := dB_elim h
      exact (kv_valOf.B1_sound hN1 c_ b_b_ b_l_ b_c_ i_ t13_ w h).weaken (Sub.cons (Sub.cons (Sub.cons (Sub.cons (Sub.nil _) e3) e2) e1) e0)) stops_nil) (Eq.mp (kv_valOf.L1b_eq c b_b b_l b_c i w  N1 R (fun c_ b_b_ b_l_ b_c_ i_ t13_ w => kv_valOf.B1 c_ b_b_ b_l_ b_c_ i_ t13_ w N1 R)) h)
def kv_valOf.L1 (c : Nat) (b_b : Option Addr) (b_l b_c : Nat) (i : Int) (w : World)  (R : ByteArray → World → Prop) : Prop :=
  ∃ (I : Nat → Nat → Option Addr → Nat → Nat → Int → World → Prop) (m : Nat), I m c b_b b_l b_c i w ∧ ∀ m c b_b b_l b_c i w, I m c b_b b_l b_c i w → kv_valOf.L1b c b_b b_l b_c i w  (fun c' b_b' b_l' b_c' i' w' => ∃ m', m' < m ∧ I m' c' b_b' b_l' b_c' i' w') R
theorem kv_valOf.L1_sound {R : ByteArray → World → Prop}  (c : Nat) (b_b : Option Addr) (b_l b_c : Nat) (i : Int) (w : World) (h : kv_valOf.L1 c b_b b_l b_c i w  R) :
    KW Tryz.prog 250 25 (kv_valOf.RV R) ([(0, [1, 1, 0, 1, 0, 0]), (2, [1, 1, 0, 1, 0, 0]), (1, [0]), (0, [1, 1, 1])].map (toItem (Tryz.f250.body.getD .skip))) [(1, .pointer (some ⟨c, 0, none⟩)), (3, .slice b_b b_l b_c), (4, .int .i64 i)] w := by
  obtain ⟨I, m, hBase, hr⟩ := h
  refine KW.loop (fun m σ w => ∃ (c : Nat) (b_b : Option Addr) (b_l b_c : Nat) (i : Int), σ = [(1, .pointer (some ⟨c, 0, none⟩)), (3, .slice b_b b_l b_c), (4, .int .i64 i)] ∧ I m c b_b b_l b_c i w) ?_ m _ w ⟨c, b_b, b_l, b_c, i, rfl, hBase⟩
  rintro m ih σ w ⟨c, b_b, b_l, b_c, i, rfl, hI⟩
  exact kv_valOf.L1b_sound  (N1 := fun c' b_b' b_l' b_c' i' w' => ∃ m', m' < m ∧ I m' c' b_b' b_l' b_c' i' w') (fun c' b_b' b_l' b_c' i' w' hx => by obtain ⟨m', hlt, hI'⟩ := hx; exact ih m' hlt _ w' ⟨c', b_b', b_l', b_c', i', rfl, hI'⟩) c b_b b_l b_c i w (hr m c b_b b_l b_c i w hI)
def kv_valOf.B0 (c_0 c_1 c_2 c_3 c_4 c_5 c_6 c_7 : Int) (w : World)   (R : ByteArray → World → Prop) : Prop :=
  New (.cells #[.int .i64 c_0, .int .i64 c_1, .int .u8 c_2, .int .u8 c_3, .int .i64 c_4, .int .u8 c_5, .int .u8 c_6, .int .u8 c_7] 66) w fun c_ w1 =>
  Make 5 (.int .u8 (0 : Int)) 1 1 (0 : Int) (3 : Int) w1 fun b5 w2 =>
  kv_valOf.L1 c_ (some ⟨b5, 0, none⟩) 0 3 (0 : Int) w2  R
theorem kv_valOf.B0_eq (c_0 c_1 c_2 c_3 c_4 c_5 c_6 c_7 : Int) (w : World)   (R : ByteArray → World → Prop) (sL1 : Nat → Option Addr → Nat → Nat → Int → World → Prop) :
    (
  New (.cells #[.int .i64 c_0, .int .i64 c_1, .int .u8 c_2, .int .u8 c_3, .int .i64 c_4, .int .u8 c_5, .int .u8 c_6, .int .u8 c_7] 66) w fun c_ w1 =>
  Make 5 (.int .u8 (0 : Int)) 1 1 (0 : Int) (3 : Int) w1 fun b5 w2 =>
  sL1 c_ (some ⟨b5, 0, none⟩) 0 3 (0 : Int) w2) = kstep Tryz.prog 25 Tryz.f250.results.toList (Tryz.f250.body.getD .skip) (kv_valOf.RV R) (kvc Tryz.prog 25 Tryz.f250.results.toList (Tryz.f250.body.getD .skip) (kv_valOf.RV R) [([(0, [1, 1, 0, 1, 0, 0]), (2, [1, 1, 0, 1, 0, 0]), (1, [0]), (0, [1, 1, 1])], fun σ w => dK (slotOf σ 1) fun c_ => dL (slotOf σ 3) fun b_b_ b_l_ b_c_ => dI .i64 (slotOf σ 4) fun i_ => sL1 c_ b_b_ b_l_ b_c_ i_ w)] 2000) [(0, [])] [(0, .agg #[.int .i64 c_0, .int .i64 c_1, .int .u8 c_2, .int .u8 c_3, .int .i64 c_4, .int .u8 c_5, .int .u8 c_6, .int .u8 c_7])] w := by kernel_rfl
theorem kv_valOf.B0_sound {R : ByteArray → World → Prop}  (c_0 c_1 c_2 c_3 c_4 c_5 c_6 c_7 : Int) (w : World) (h : kv_valOf.B0 c_0 c_1 c_2 c_3 c_4 c_5 c_6 c_7 w   R) :
    KW Tryz.prog 250 25 (kv_valOf.RV R) ([(0, [])].map (toItem (Tryz.f250.body.getD .skip))) [(0, .agg #[.int .i64 c_0, .int .i64 c_1, .int .u8 c_2, .int .u8 c_3, .int .i64 c_4, .int .u8 c_5, .int .u8 c_6, .int .u8 c_7])] w := by
  exact block_spec Tryz.func250 Tryz.mixed (stops_cons (fun σ w h => by
      obtain ⟨c_, e0, h⟩ := dK_elim h
      obtain ⟨b_b_, b_l_, b_c_, e1, h⟩ := dL_elim h
      obtain ⟨i_, e2, h⟩ := dI_elim h
      exact (kv_valOf.L1_sound  c_ b_b_ b_l_ b_c_ i_ w h).weaken (Sub.cons (Sub.cons (Sub.cons (Sub.nil _) e2) e1) e0)) stops_nil) (Eq.mp (kv_valOf.B0_eq c_0 c_1 c_2 c_3 c_4 c_5 c_6 c_7 w   R (fun c_ b_b_ b_l_ b_c_ i_ w => kv_valOf.L1 c_ b_b_ b_l_ b_c_ i_ w  R)) h)
theorem kv_valOf.sound (c_0 c_1 c_2 c_3 c_4 c_5 c_6 c_7 : Int) (w : World) (R : ByteArray → World → Prop) (h : kv_valOf.B0 c_0 c_1 c_2 c_3 c_4 c_5 c_6 c_7 w R) : kv_valOf.Call c_0 c_1 c_2 c_3 c_4 c_5 c_6 c_7 w R := by
  have hc := calls_of_block (args := #[.agg #[.int .i64 c_0, .int .i64 c_1, .int .u8 c_2, .int .u8 c_3, .int .i64 c_4, .int .u8 c_5, .int .u8 c_6, .int .u8 c_7]]) Tryz.func250 (body := (Tryz.f250.body.getD .skip)) (by kernel_rfl) (by kernel_rfl) (args_slot _) (kv_valOf.B0_sound c_0 c_1 c_2 c_3 c_4 c_5 c_6 c_7 w h)
  exact hc.mono fun e w' he => by
    obtain ⟨v, rfl, hv⟩ := he
    exact kv_valOf.RV_elim hv
def kvm_KV_find.L1b (k : Option Addr) (key : ByteArray) (i : Int) (w : World)  (N1 : Option Addr → ByteArray → Int → World → Prop) (R : Int → World → Prop) : Prop :=
  Pn k fun a =>
  LdI .i64 a w fun x10 =>
  Bm (decide (i < x10)) (
    Pn k fun a_1 =>
    (0 ≤ i ∧ i < ((4 : Nat) : Int)) ∧
    LdS (Addr.add (a_1.add 1) (i.toNat * 1)) w fun x19 =>
    Bm (x19.toList == key.toList) (
      R i w) (
      N1 k key (IntKind.i64.wrap (i + (1 : Int))) w)) (
    R (-1 : Int) w)
theorem kvm_KV_find.L1b_eq (k : Option Addr) (key : ByteArray) (i : Int) (w : World)  (N1 : Option Addr → ByteArray → Int → World → Prop) (R : Int → World → Prop)  :
    (
  Pn k fun a =>
  LdI .i64 a w fun x10 =>
  Bm (decide (i < x10)) (
    Pn k fun a_1 =>
    (0 ≤ i ∧ i < ((4 : Nat) : Int)) ∧
    LdS (Addr.add (a_1.add 1) (i.toNat * 1)) w fun x19 =>
    Bm (x19.toList == key.toList) (
      R i w) (
      N1 k key (IntKind.i64.wrap (i + (1 : Int))) w)) (
    R (-1 : Int) w)) = kstep Tryz.prog 23 Tryz.f251.results.toList (Tryz.f251.body.getD .skip) (kvm_KV_find.RV R) (kvc Tryz.prog 23 Tryz.f251.results.toList (Tryz.f251.body.getD .skip) (kvm_KV_find.RV R) [([(0, [1, 0, 1, 0, 0]), (2, [1, 0, 1, 0, 0]), (1, [0]), (0, [1, 1])], fun σ w => dP (slotOf σ 0) fun k_ => dS (slotOf σ 1) fun key_ => dI .i64 (slotOf σ 5) fun i_ => N1 k_ key_ i_ w)] 2000) [(0, [1, 0, 1, 0, 0]), (2, [1, 0, 1, 0, 0]), (1, [0]), (0, [1, 1])] [(0, .pointer k), (1, .string key), (5, .int .i64 i)] w := by kernel_rfl
theorem kvm_KV_find.L1b_sound {R : Int → World → Prop} {N1 : Option Addr → ByteArray → Int → World → Prop} (hN1 : ∀ k key i w, N1 k key i w → KW Tryz.prog 251 23 (kvm_KV_find.RV R) ([(0, [1, 0, 1, 0, 0]), (2, [1, 0, 1, 0, 0]), (1, [0]), (0, [1, 1])].map (toItem (Tryz.f251.body.getD .skip))) [(0, .pointer k), (1, .string key), (5, .int .i64 i)] w) (k : Option Addr) (key : ByteArray) (i : Int) (w : World) (h : kvm_KV_find.L1b k key i w  N1 R) :
    KW Tryz.prog 251 23 (kvm_KV_find.RV R) ([(0, [1, 0, 1, 0, 0]), (2, [1, 0, 1, 0, 0]), (1, [0]), (0, [1, 1])].map (toItem (Tryz.f251.body.getD .skip))) [(0, .pointer k), (1, .string key), (5, .int .i64 i)] w := by
  exact block_spec Tryz.func251 Tryz.mixed (stops_cons (fun σ w h => by
      obtain ⟨k_, e0, h⟩ := dP_elim h
      obtain ⟨key_, e1, h⟩ := dS_elim h
      obtain ⟨i_, e2, h⟩ := dI_elim h
      exact (hN1 k_ key_ i_ w h).weaken (Sub.cons (Sub.cons (Sub.cons (Sub.nil _) e2) e1) e0)) stops_nil) (Eq.mp (kvm_KV_find.L1b_eq k key i w  N1 R ) h)
def kvm_KV_find.L1 (k : Option Addr) (key : ByteArray) (i : Int) (w : World)  (R : Int → World → Prop) : Prop :=
  ∃ (I : Nat → Option Addr → ByteArray → Int → World → Prop) (m : Nat), I m k key i w ∧ ∀ m k key i w, I m k key i w → kvm_KV_find.L1b k key i w  (fun k' key' i' w' => ∃ m', m' < m ∧ I m' k' key' i' w') R
theorem kvm_KV_find.L1_sound {R : Int → World → Prop}  (k : Option Addr) (key : ByteArray) (i : Int) (w : World) (h : kvm_KV_find.L1 k key i w  R) :
    KW Tryz.prog 251 23 (kvm_KV_find.RV R) ([(0, [1, 0, 1, 0, 0]), (2, [1, 0, 1, 0, 0]), (1, [0]), (0, [1, 1])].map (toItem (Tryz.f251.body.getD .skip))) [(0, .pointer k), (1, .string key), (5, .int .i64 i)] w := by
  obtain ⟨I, m, hBase, hr⟩ := h
  refine KW.loop (fun m σ w => ∃ (k : Option Addr) (key : ByteArray) (i : Int), σ = [(0, .pointer k), (1, .string key), (5, .int .i64 i)] ∧ I m k key i w) ?_ m _ w ⟨k, key, i, rfl, hBase⟩
  rintro m ih σ w ⟨k, key, i, rfl, hI⟩
  exact kvm_KV_find.L1b_sound  (N1 := fun k' key' i' w' => ∃ m', m' < m ∧ I m' k' key' i' w') (fun k' key' i' w' hx => by obtain ⟨m', hlt, hI'⟩ := hx; exact ih m' hlt _ w' ⟨k', key', i', rfl, hI'⟩) k key i w (hr m k key i w hI)
def kvm_KV_find.B0 (k : Option Addr) (key : ByteArray) (w : World)   (R : Int → World → Prop) : Prop :=
  kvm_KV_find.L1 k key (0 : Int) w  R
theorem kvm_KV_find.B0_eq (k : Option Addr) (key : ByteArray) (w : World)   (R : Int → World → Prop) (sL1 : Option Addr → ByteArray → Int → World → Prop) :
    (
  sL1 k key (0 : Int) w) = kstep Tryz.prog 23 Tryz.f251.results.toList (Tryz.f251.body.getD .skip) (kvm_KV_find.RV R) (kvc Tryz.prog 23 Tryz.f251.results.toList (Tryz.f251.body.getD .skip) (kvm_KV_find.RV R) [([(0, [1, 0, 1, 0, 0]), (2, [1, 0, 1, 0, 0]), (1, [0]), (0, [1, 1])], fun σ w => dP (slotOf σ 0) fun k_ => dS (slotOf σ 1) fun key_ => dI .i64 (slotOf σ 5) fun i_ => sL1 k_ key_ i_ w)] 2000) [(0, [])] [(0, .pointer k), (1, .string key)] w := by kernel_rfl
theorem kvm_KV_find.B0_sound {R : Int → World → Prop}  (k : Option Addr) (key : ByteArray) (w : World) (h : kvm_KV_find.B0 k key w   R) :
    KW Tryz.prog 251 23 (kvm_KV_find.RV R) ([(0, [])].map (toItem (Tryz.f251.body.getD .skip))) [(0, .pointer k), (1, .string key)] w := by
  exact block_spec Tryz.func251 Tryz.mixed (stops_cons (fun σ w h => by
      obtain ⟨k_, e0, h⟩ := dP_elim h
      obtain ⟨key_, e1, h⟩ := dS_elim h
      obtain ⟨i_, e2, h⟩ := dI_elim h
      exact (kvm_KV_find.L1_sound  k_ key_ i_ w h).weaken (Sub.cons (Sub.cons (Sub.cons (Sub.nil _) e2) e1) e0)) stops_nil) (Eq.mp (kvm_KV_find.B0_eq k key w   R (fun k_ key_ i_ w => kvm_KV_find.L1 k_ key_ i_ w  R)) h)
theorem kvm_KV_find.sound (k : Option Addr) (key : ByteArray) (w : World) (R : Int → World → Prop) (h : kvm_KV_find.B0 k key w R) : kvm_KV_find.Call k key w R := by
  have hc := calls_of_block (args := #[.pointer k, .string key]) Tryz.func251 (body := (Tryz.f251.body.getD .skip)) (by kernel_rfl) (by kernel_rfl) (args_slot _) (kvm_KV_find.B0_sound k key w h)
  exact hc.mono fun e w' he => by
    obtain ⟨v, rfl, hv⟩ := he
    exact kvm_KV_find.RV_elim hv
def kv_table_sorted.B2 (t : Option Addr) (t2 at0 : Nat) (n i j : Int) (w : World) (N1 : Option Addr → Nat → Nat → Int → Int → World → Prop)  (R : Int → Int → Int → Int → World → Prop) : Prop :=
  (0 ≤ j ∧ j < ((4 : Nat) : Int)) ∧
  Sts [.int .i64 i] (Addr.add ⟨at0, 0, none⟩ (j.toNat * 1)) 0 w fun w1 =>
  N1 t t2 at0 (IntKind.i64.wrap (n + (1 : Int))) (IntKind.i64.wrap (i + (1 : Int))) w1
theorem kv_table_sorted.B2_eq (t : Option Addr) (t2 at0 : Nat) (n i j : Int) (w : World) (N1 : Option Addr → Nat → Nat → Int → Int → World → Prop)  (R : Int → Int → Int → Int → World → Prop)  :
    (
  (0 ≤ j ∧ j < ((4 : Nat) : Int)) ∧
  Sts [.int .i64 i] (Addr.add ⟨at0, 0, none⟩ (j.toNat * 1)) 0 w fun w1 =>
  N1 t t2 at0 (IntKind.i64.wrap (n + (1 : Int))) (IntKind.i64.wrap (i + (1 : Int))) w1) = kstep Tryz.prog 62 Tryz.f252.results.toList (Tryz.f252.body.getD .skip) (kv_table_sorted.RV R) (kvc Tryz.prog 62 Tryz.f252.results.toList (Tryz.f252.body.getD .skip) (kv_table_sorted.RV R) [([(0, [1, 1, 1, 0, 1, 0, 0]), (2, [1, 1, 1, 0, 1, 0, 0]), (1, [0]), (0, [1, 1, 1, 1])], fun σ w => dP (slotOf σ 0) fun t_ => dK (slotOf σ 2) fun t2_ => dK (slotOf σ 3) fun at0_ => dI .i64 (slotOf σ 4) fun n_ => dI .i64 (slotOf σ 5) fun i_ => N1 t_ t2_ at0_ n_ i_ w)] 2000) [(0, [1, 1, 1, 0, 1, 0, 0, 1, 0, 0, 1, 1, 1, 1]), (1, [1]), (0, [1, 1, 1, 0, 1, 0, 0, 1, 1]), (2, [1, 1, 1, 0, 1, 0, 0]), (1, [0]), (0, [1, 1, 1, 1])] [(0, .pointer t), (2, .pointer (some ⟨t2, 0, none⟩)), (3, .pointer (some ⟨at0, 0, none⟩)), (4, .int .i64 n), (5, .int .i64 i), (7, .int .i64 j)] w := by kernel_rfl
theorem kv_table_sorted.B2_sound {R : Int → Int → Int → Int → World → Prop} {N1 : Option Addr → Nat → Nat → Int → Int → World → Prop} (hN1 : ∀ t t2 at0 n i w, N1 t t2 at0 n i w → KW Tryz.prog 252 62 (kv_table_sorted.RV R) ([(0, [1, 1, 1, 0, 1, 0, 0]), (2, [1, 1, 1, 0, 1, 0, 0]), (1, [0]), (0, [1, 1, 1, 1])].map (toItem (Tryz.f252.body.getD .skip))) [(0, .pointer t), (2, .pointer (some ⟨t2, 0, none⟩)), (3, .pointer (some ⟨at0, 0, none⟩)), (4, .int .i64 n), (5, .int .i64 i)] w) (t : Option Addr) (t2 at0 : Nat) (n i j : Int) (w : World) (h : kv_table_sorted.B2 t t2 at0 n i j w N1  R) :
    KW Tryz.prog 252 62 (kv_table_sorted.RV R) ([(0, [1, 1, 1, 0, 1, 0, 0, 1, 0, 0, 1, 1, 1, 1]), (1, [1]), (0, [1, 1, 1, 0, 1, 0, 0, 1, 1]), (2, [1, 1, 1, 0, 1, 0, 0]), (1, [0]), (0, [1, 1, 1, 1])].map (toItem (Tryz.f252.body.getD .skip))) [(0, .pointer t), (2, .pointer (some ⟨t2, 0, none⟩)), (3, .pointer (some ⟨at0, 0, none⟩)), (4, .int .i64 n), (5, .int .i64 i), (7, .int .i64 j)] w := by
  exact block_spec Tryz.func252 Tryz.mixed (stops_cons (fun σ w h => by
      obtain ⟨t_, e0, h⟩ := dP_elim h
      obtain ⟨t2_, e1, h⟩ := dK_elim h
      obtain ⟨at0_, e2, h⟩ := dK_elim h
      obtain ⟨n_, e3, h⟩ := dI_elim h
      obtain ⟨i_, e4, h⟩ := dI_elim h
      exact (hN1 t_ t2_ at0_ n_ i_ w h).weaken (Sub.cons (Sub.cons (Sub.cons (Sub.cons (Sub.cons (Sub.nil _) e4) e3) e2) e1) e0)) stops_nil) (Eq.mp (kv_table_sorted.B2_eq t t2 at0 n i j w N1  R ) h)
def kv_table_sorted.L2b (t : Option Addr) (t2 at0 : Nat) (n i : Int) (key : ByteArray) (j : Int) (w : World) (N1 : Option Addr → Nat → Nat → Int → Int → World → Prop) (N2 : Option Addr → Nat → Nat → Int → Int → ByteArray → Int → World → Prop) (R : Int → Int → Int → Int → World → Prop) : Prop :=
  Bm (decide (j > (0 : Int))) (
    (0 ≤ (IntKind.i64.wrap (j - (1 : Int))) ∧ (IntKind.i64.wrap (j - (1 : Int))) < ((4 : Nat) : Int)) ∧
    LdI .i64 (Addr.add ⟨at0, 0, none⟩ ((IntKind.i64.wrap (j - (1 : Int))).toNat * 1)) w.drew fun x39 =>
    Pn t fun a =>
    (0 ≤ x39 ∧ x39 < ((8 : Nat) : Int)) ∧
    LdI .i64 (Addr.add a (x39.toNat * 8)) w.drew fun x43_0 =>
    LdI .i64 ((Addr.add a (x39.toNat * 8)).add 1) w.drew fun x43_1 =>
    LdI .u8 ((Addr.add a (x39.toNat * 8)).add 2) w.drew fun x43_2 =>
    LdI .u8 ((Addr.add a (x39.toNat * 8)).add 3) w.drew fun x43_3 =>
    LdI .i64 ((Addr.add a (x39.toNat * 8)).add 4) w.drew fun x43_4 =>
    LdI .u8 ((Addr.add a (x39.toNat * 8)).add 5) w.drew fun x43_5 =>
    LdI .u8 ((Addr.add a (x39.toNat * 8)).add 6) w.drew fun x43_6 =>
    LdI .u8 ((Addr.add a (x39.toNat * 8)).add 7) w.drew fun x43_7 =>
    kv_keyOf.Call x43_0 x43_1 x43_2 x43_3 x43_4 x43_5 x43_6 x43_7 w.drew fun r44 w1 =>
    Bm (Op.bytesLess r44.toList key.toList) (
      kv_table_sorted.B2 t t2 at0 n i j w1 N1 R) (
      (0 ≤ (IntKind.i64.wrap (j - (1 : Int))) ∧ (IntKind.i64.wrap (j - (1 : Int))) < ((4 : Nat) : Int)) ∧
      LdI .i64 (Addr.add ⟨at0, 0, none⟩ ((IntKind.i64.wrap (j - (1 : Int))).toNat * 1)) w1 fun x52 =>
      (0 ≤ j ∧ j < ((4 : Nat) : Int)) ∧
      Sts [.int .i64 x52] (Addr.add ⟨at0, 0, none⟩ (j.toNat * 1)) 0 w1 fun w2 =>
      N2 t t2 at0 n i key (IntKind.i64.wrap (j - (1 : Int))) w2)) (
    kv_table_sorted.B2 t t2 at0 n i j w N1 R)
theorem kv_table_sorted.L2b_eq (t : Option Addr) (t2 at0 : Nat) (n i : Int) (key : ByteArray) (j : Int) (w : World) (N1 : Option Addr → Nat → Nat → Int → Int → World → Prop) (N2 : Option Addr → Nat → Nat → Int → Int → ByteArray → Int → World → Prop) (R : Int → Int → Int → Int → World → Prop) (sB2 : Option Addr → Nat → Nat → Int → Int → Int → World → Prop) :
    (
  Bm (decide (j > (0 : Int))) (
    (0 ≤ (IntKind.i64.wrap (j - (1 : Int))) ∧ (IntKind.i64.wrap (j - (1 : Int))) < ((4 : Nat) : Int)) ∧
    LdI .i64 (Addr.add ⟨at0, 0, none⟩ ((IntKind.i64.wrap (j - (1 : Int))).toNat * 1)) w.drew fun x39 =>
    Pn t fun a =>
    (0 ≤ x39 ∧ x39 < ((8 : Nat) : Int)) ∧
    LdI .i64 (Addr.add a (x39.toNat * 8)) w.drew fun x43_0 =>
    LdI .i64 ((Addr.add a (x39.toNat * 8)).add 1) w.drew fun x43_1 =>
    LdI .u8 ((Addr.add a (x39.toNat * 8)).add 2) w.drew fun x43_2 =>
    LdI .u8 ((Addr.add a (x39.toNat * 8)).add 3) w.drew fun x43_3 =>
    LdI .i64 ((Addr.add a (x39.toNat * 8)).add 4) w.drew fun x43_4 =>
    LdI .u8 ((Addr.add a (x39.toNat * 8)).add 5) w.drew fun x43_5 =>
    LdI .u8 ((Addr.add a (x39.toNat * 8)).add 6) w.drew fun x43_6 =>
    LdI .u8 ((Addr.add a (x39.toNat * 8)).add 7) w.drew fun x43_7 =>
    kv_keyOf.Call x43_0 x43_1 x43_2 x43_3 x43_4 x43_5 x43_6 x43_7 w.drew fun r44 w1 =>
    Bm (Op.bytesLess r44.toList key.toList) (
      sB2 t t2 at0 n i j w1) (
      (0 ≤ (IntKind.i64.wrap (j - (1 : Int))) ∧ (IntKind.i64.wrap (j - (1 : Int))) < ((4 : Nat) : Int)) ∧
      LdI .i64 (Addr.add ⟨at0, 0, none⟩ ((IntKind.i64.wrap (j - (1 : Int))).toNat * 1)) w1 fun x52 =>
      (0 ≤ j ∧ j < ((4 : Nat) : Int)) ∧
      Sts [.int .i64 x52] (Addr.add ⟨at0, 0, none⟩ (j.toNat * 1)) 0 w1 fun w2 =>
      N2 t t2 at0 n i key (IntKind.i64.wrap (j - (1 : Int))) w2)) (
    sB2 t t2 at0 n i j w)) = kstep Tryz.prog 62 Tryz.f252.results.toList (Tryz.f252.body.getD .skip) (kv_table_sorted.RV R) (kvc Tryz.prog 62 Tryz.f252.results.toList (Tryz.f252.body.getD .skip) (kv_table_sorted.RV R) [([(0, [1, 1, 1, 0, 1, 0, 0, 1, 0, 0, 1, 1, 1, 1]), (1, [1]), (0, [1, 1, 1, 0, 1, 0, 0, 1, 1]), (2, [1, 1, 1, 0, 1, 0, 0]), (1, [0]), (0, [1, 1, 1, 1])], fun σ w => dP (slotOf σ 0) fun t_ => dK (slotOf σ 2) fun t2_ => dK (slotOf σ 3) fun at0_ => dI .i64 (slotOf σ 4) fun n_ => dI .i64 (slotOf σ 5) fun i_ => dI .i64 (slotOf σ 7) fun j_ => sB2 t_ t2_ at0_ n_ i_ j_ w),
    ([(0, [1, 1, 1, 0, 1, 0, 0, 1, 0, 0, 1, 1, 1, 0, 0, 0]), (2, [1, 1, 1, 0, 1, 0, 0, 1, 0, 0, 1, 1, 1, 0, 0, 0]), (1, [2]), (0, [1, 1, 1, 0, 1, 0, 0, 1, 0, 0, 1, 1, 1, 1]), (1, [1]), (0, [1, 1, 1, 0, 1, 0, 0, 1, 1]), (2, [1, 1, 1, 0, 1, 0, 0]), (1, [0]), (0, [1, 1, 1, 1])], fun σ w => dP (slotOf σ 0) fun t_ => dK (slotOf σ 2) fun t2_ => dK (slotOf σ 3) fun at0_ => dI .i64 (slotOf σ 4) fun n_ => dI .i64 (slotOf σ 5) fun i_ => dS (slotOf σ 6) fun key_ => dI .i64 (slotOf σ 7) fun j_ => N2 t_ t2_ at0_ n_ i_ key_ j_ w)] 2000) [(0, [1, 1, 1, 0, 1, 0, 0, 1, 0, 0, 1, 1, 1, 0, 0, 0]), (2, [1, 1, 1, 0, 1, 0, 0, 1, 0, 0, 1, 1, 1, 0, 0, 0]), (1, [2]), (0, [1, 1, 1, 0, 1, 0, 0, 1, 0, 0, 1, 1, 1, 1]), (1, [1]), (0, [1, 1, 1, 0, 1, 0, 0, 1, 1]), (2, [1, 1, 1, 0, 1, 0, 0]), (1, [0]), (0, [1, 1, 1, 1])] [(0, .pointer t), (2, .pointer (some ⟨t2, 0, none⟩)), (3, .pointer (some ⟨at0, 0, none⟩)), (4, .int .i64 n), (5, .int .i64 i), (6, .string key), (7, .int .i64 j)] w := by kernel_rfl
theorem kv_table_sorted.L2b_sound {R : Int → Int → Int → Int → World → Prop} {N1 : Option Addr → Nat → Nat → Int → Int → World → Prop} (hN1 : ∀ t t2 at0 n i w, N1 t t2 at0 n i w → KW Tryz.prog 252 62 (kv_table_sorted.RV R) ([(0, [1, 1, 1, 0, 1, 0, 0]), (2, [1, 1, 1, 0, 1, 0, 0]), (1, [0]), (0, [1, 1, 1, 1])].map (toItem (Tryz.f252.body.getD .skip))) [(0, .pointer t), (2, .pointer (some ⟨t2, 0, none⟩)), (3, .pointer (some ⟨at0, 0, none⟩)), (4, .int .i64 n), (5, .int .i64 i)] w) {N2 : Option Addr → Nat → Nat → Int → Int → ByteArray → Int → World → Prop} (hN2 : ∀ t t2 at0 n i key j w, N2 t t2 at0 n i key j w → KW Tryz.prog 252 62 (kv_table_sorted.RV R) ([(0, [1, 1, 1, 0, 1, 0, 0, 1, 0, 0, 1, 1, 1, 0, 0, 0]), (2, [1, 1, 1, 0, 1, 0, 0, 1, 0, 0, 1, 1, 1, 0, 0, 0]), (1, [2]), (0, [1, 1, 1, 0, 1, 0, 0, 1, 0, 0, 1, 1, 1, 1]), (1, [1]), (0, [1, 1, 1, 0, 1, 0, 0, 1, 1]), (2, [1, 1, 1, 0, 1, 0, 0]), (1, [0]), (0, [1, 1, 1, 1])].map (toItem (Tryz.f252.body.getD .skip))) [(0, .pointer t), (2, .pointer (some ⟨t2, 0, none⟩)), (3, .pointer (some ⟨at0, 0, none⟩)), (4, .int .i64 n), (5, .int .i64 i), (6, .string key), (7, .int .i64 j)] w) (t : Option Addr) (t2 at0 : Nat) (n i : Int) (key : ByteArray) (j : Int) (w : World) (h : kv_table_sorted.L2b t t2 at0 n i key j w N1 N2 R) :
    KW Tryz.prog 252 62 (kv_table_sorted.RV R) ([(0, [1, 1, 1, 0, 1, 0, 0, 1, 0, 0, 1, 1, 1, 0, 0, 0]), (2, [1, 1, 1, 0, 1, 0, 0, 1, 0, 0, 1, 1, 1, 0, 0, 0]), (1, [2]), (0, [1, 1, 1, 0, 1, 0, 0, 1, 0, 0, 1, 1, 1, 1]), (1, [1]), (0, [1, 1, 1, 0, 1, 0, 0, 1, 1]), (2, [1, 1, 1, 0, 1, 0, 0]), (1, [0]), (0, [1, 1, 1, 1])].map (toItem (Tryz.f252.body.getD .skip))) [(0, .pointer t), (2, .pointer (some ⟨t2, 0, none⟩)), (3, .pointer (some ⟨at0, 0, none⟩)), (4, .int .i64 n), (5, .int .i64 i), (6, .string key), (7, .int .i64 j)] w := by
  exact block_spec Tryz.func252 Tryz.mixed (stops_cons (fun σ w h => by
      obtain ⟨t_, e0, h⟩ := dP_elim h
      obtain ⟨t2_, e1, h⟩ := dK_elim h
      obtain ⟨at0_, e2, h⟩ := dK_elim h
      obtain ⟨n_, e3, h⟩ := dI_elim h
      obtain ⟨i_, e4, h⟩ := dI_elim h
      obtain ⟨j_, e5, h⟩ := dI_elim h
      exact (kv_table_sorted.B2_sound hN1 t_ t2_ at0_ n_ i_ j_ w h).weaken (Sub.cons (Sub.cons (Sub.cons (Sub.cons (Sub.cons (Sub.cons (Sub.nil _) e5) e4) e3) e2) e1) e0)) (stops_cons (fun σ w h => by
      obtain ⟨t_, e0, h⟩ := dP_elim h
      obtain ⟨t2_, e1, h⟩ := dK_elim h
      obtain ⟨at0_, e2, h⟩ := dK_elim h
      obtain ⟨n_, e3, h⟩ := dI_elim h
      obtain ⟨i_, e4, h⟩ := dI_elim h
      obtain ⟨key_, e5, h⟩ := dS_elim h
      obtain ⟨j_, e6, h⟩ := dI_elim h
      exact (hN2 t_ t2_ at0_ n_ i_ key_ j_ w h).weaken (Sub.cons (Sub.cons (Sub.cons (Sub.cons (Sub.cons (Sub.cons (Sub.cons (Sub.nil _) e6) e5) e4) e3) e2) e1) e0)) stops_nil)) (Eq.mp (kv_table_sorted.L2b_eq t t2 at0 n i key j w N1 N2 R (fun t_ t2_ at0_ n_ i_ j_ w => kv_table_sorted.B2 t_ t2_ at0_ n_ i_ j_ w N1 R)) h)
def kv_table_sorted.L2 (t : Option Addr) (t2 at0 : Nat) (n i : Int) (key : ByteArray) (j : Int) (w : World) (N1 : Option Addr → Nat → Nat → Int → Int → World → Prop) (R : Int → Int → Int → Int → World → Prop) : Prop :=
  ∃ (I : Nat → Option Addr → Nat → Nat → Int → Int → ByteArray → Int → World → Prop) (m : Nat), I m t t2 at0 n i key j w ∧ ∀ m t t2 at0 n i key j w, I m t t2 at0 n i key j w → kv_table_sorted.L2b t t2 at0 n i key j w N1 (fun t' t2' at0' n' i' key' j' w' => ∃ m', m' < m ∧ I m' t' t2' at0' n' i' key' j' w') R
theorem kv_table_sorted.L2_sound {R : Int → Int → Int → Int → World → Prop} {N1 : Option Addr → Nat → Nat → Int → Int → World → Prop} (hN1 : ∀ t t2 at0 n i w, N1 t t2 at0 n i w → KW Tryz.prog 252 62 (kv_table_sorted.RV R) ([(0, [1, 1, 1, 0, 1, 0, 0]), (2, [1, 1, 1, 0, 1, 0, 0]), (1, [0]), (0, [1, 1, 1, 1])].map (toItem (Tryz.f252.body.getD .skip))) [(0, .pointer t), (2, .pointer (some ⟨t2, 0, none⟩)), (3, .pointer (some ⟨at0, 0, none⟩)), (4, .int .i64 n), (5, .int .i64 i)] w) (t : Option Addr) (t2 at0 : Nat) (n i : Int) (key : ByteArray) (j : Int) (w : World) (h : kv_table_sorted.L2 t t2 at0 n i key j w N1 R) :
    KW Tryz.prog 252 62 (kv_table_sorted.RV R) ([(0, [1, 1, 1, 0, 1, 0, 0, 1, 0, 0, 1, 1, 1, 0, 0, 0]), (2, [1, 1, 1, 0, 1, 0, 0, 1, 0, 0, 1, 1, 1, 0, 0, 0]), (1, [2]), (0, [1, 1, 1, 0, 1, 0, 0, 1, 0, 0, 1, 1, 1, 1]), (1, [1]), (0, [1, 1, 1, 0, 1, 0, 0, 1, 1]), (2, [1, 1, 1, 0, 1, 0, 0]), (1, [0]), (0, [1, 1, 1, 1])].map (toItem (Tryz.f252.body.getD .skip))) [(0, .pointer t), (2, .pointer (some ⟨t2, 0, none⟩)), (3, .pointer (some ⟨at0, 0, none⟩)), (4, .int .i64 n), (5, .int .i64 i), (6, .string key), (7, .int .i64 j)] w := by
  obtain ⟨I, m, hBase, hr⟩ := h
  refine KW.loop (fun m σ w => ∃ (t : Option Addr) (t2 at0 : Nat) (n i : Int) (key : ByteArray) (j : Int), σ = [(0, .pointer t), (2, .pointer (some ⟨t2, 0, none⟩)), (3, .pointer (some ⟨at0, 0, none⟩)), (4, .int .i64 n), (5, .int .i64 i), (6, .string key), (7, .int .i64 j)] ∧ I m t t2 at0 n i key j w) ?_ m _ w ⟨t, t2, at0, n, i, key, j, rfl, hBase⟩
  rintro m ih σ w ⟨t, t2, at0, n, i, key, j, rfl, hI⟩
  exact kv_table_sorted.L2b_sound hN1 (N2 := fun t' t2' at0' n' i' key' j' w' => ∃ m', m' < m ∧ I m' t' t2' at0' n' i' key' j' w') (fun t' t2' at0' n' i' key' j' w' hx => by obtain ⟨m', hlt, hI'⟩ := hx; exact ih m' hlt _ w' ⟨t', t2', at0', n', i', key', j', rfl, hI'⟩) t t2 at0 n i key j w (hr m t t2 at0 n i key j w hI)
def kv_table_sorted.B1 (t : Option Addr) (t2 at0 : Nat) (n i : Int) (t24 : Bool) (w : World) (N1 : Option Addr → Nat → Nat → Int → Int → World → Prop)  (R : Int → Int → Int → Int → World → Prop) : Prop :=
  Bm t24 (
    N1 t t2 at0 n (IntKind.i64.wrap (i + (1 : Int))) w) (
    Pn t fun a =>
    (0 ≤ i ∧ i < ((8 : Nat) : Int)) ∧
    LdI .i64 (Addr.add a (i.toNat * 8)) w fun x30_0 =>
    LdI .i64 ((Addr.add a (i.toNat * 8)).add 1) w fun x30_1 =>
    LdI .u8 ((Addr.add a (i.toNat * 8)).add 2) w fun x30_2 =>
    LdI .u8 ((Addr.add a (i.toNat * 8)).add 3) w fun x30_3 =>
    LdI .i64 ((Addr.add a (i.toNat * 8)).add 4) w fun x30_4 =>
    LdI .u8 ((Addr.add a (i.toNat * 8)).add 5) w fun x30_5 =>
    LdI .u8 ((Addr.add a (i.toNat * 8)).add 6) w fun x30_6 =>
    LdI .u8 ((Addr.add a (i.toNat * 8)).add 7) w fun x30_7 =>
    kv_keyOf.Call x30_0 x30_1 x30_2 x30_3 x30_4 x30_5 x30_6 x30_7 w fun r31 w1 =>
    kv_table_sorted.L2 t t2 at0 n i r31 n w1 N1 R)
theorem kv_table_sorted.B1_eq (t : Option Addr) (t2 at0 : Nat) (n i : Int) (t24 : Bool) (w : World) (N1 : Option Addr → Nat → Nat → Int → Int → World → Prop)  (R : Int → Int → Int → Int → World → Prop) (sL2 : Option Addr → Nat → Nat → Int → Int → ByteArray → Int → World → Prop) :
    (
  Bm t24 (
    N1 t t2 at0 n (IntKind.i64.wrap (i + (1 : Int))) w) (
    Pn t fun a =>
    (0 ≤ i ∧ i < ((8 : Nat) : Int)) ∧
    LdI .i64 (Addr.add a (i.toNat * 8)) w fun x30_0 =>
    LdI .i64 ((Addr.add a (i.toNat * 8)).add 1) w fun x30_1 =>
    LdI .u8 ((Addr.add a (i.toNat * 8)).add 2) w fun x30_2 =>
    LdI .u8 ((Addr.add a (i.toNat * 8)).add 3) w fun x30_3 =>
    LdI .i64 ((Addr.add a (i.toNat * 8)).add 4) w fun x30_4 =>
    LdI .u8 ((Addr.add a (i.toNat * 8)).add 5) w fun x30_5 =>
    LdI .u8 ((Addr.add a (i.toNat * 8)).add 6) w fun x30_6 =>
    LdI .u8 ((Addr.add a (i.toNat * 8)).add 7) w fun x30_7 =>
    kv_keyOf.Call x30_0 x30_1 x30_2 x30_3 x30_4 x30_5 x30_6 x30_7 w fun r31 w1 =>
    sL2 t t2 at0 n i r31 n w1)) = kstep Tryz.prog 62 Tryz.f252.results.toList (Tryz.f252.body.getD .skip) (kv_table_sorted.RV R) (kvc Tryz.prog 62 Tryz.f252.results.toList (Tryz.f252.body.getD .skip) (kv_table_sorted.RV R) [([(0, [1, 1, 1, 0, 1, 0, 0]), (2, [1, 1, 1, 0, 1, 0, 0]), (1, [0]), (0, [1, 1, 1, 1])], fun σ w => dP (slotOf σ 0) fun t_ => dK (slotOf σ 2) fun t2_ => dK (slotOf σ 3) fun at0_ => dI .i64 (slotOf σ 4) fun n_ => dI .i64 (slotOf σ 5) fun i_ => N1 t_ t2_ at0_ n_ i_ w),
    ([(0, [1, 1, 1, 0, 1, 0, 0, 1, 0, 0, 1, 1, 1, 0, 0, 0]), (2, [1, 1, 1, 0, 1, 0, 0, 1, 0, 0, 1, 1, 1, 0, 0, 0]), (1, [2]), (0, [1, 1, 1, 0, 1, 0, 0, 1, 0, 0, 1, 1, 1, 1]), (1, [1]), (0, [1, 1, 1, 0, 1, 0, 0, 1, 1]), (2, [1, 1, 1, 0, 1, 0, 0]), (1, [0]), (0, [1, 1, 1, 1])], fun σ w => dP (slotOf σ 0) fun t_ => dK (slotOf σ 2) fun t2_ => dK (slotOf σ 3) fun at0_ => dI .i64 (slotOf σ 4) fun n_ => dI .i64 (slotOf σ 5) fun i_ => dS (slotOf σ 6) fun key_ => dI .i64 (slotOf σ 7) fun j_ => sL2 t_ t2_ at0_ n_ i_ key_ j_ w)] 2000) [(0, [1, 1, 1, 0, 1, 0, 0, 1, 0, 0, 0, 1]), (0, [1, 1, 1, 0, 1, 0, 0, 1, 0, 0, 1]), (1, [1]), (0, [1, 1, 1, 0, 1, 0, 0, 1, 1]), (2, [1, 1, 1, 0, 1, 0, 0]), (1, [0]), (0, [1, 1, 1, 1])] [(0, .pointer t), (2, .pointer (some ⟨t2, 0, none⟩)), (3, .pointer (some ⟨at0, 0, none⟩)), (4, .int .i64 n), (5, .int .i64 i), (24, .bool t24)] w := by kernel_rfl
theorem kv_table_sorted.B1_sound {R : Int → Int → Int → Int → World → Prop} {N1 : Option Addr → Nat → Nat → Int → Int → World → Prop} (hN1 : ∀ t t2 at0 n i w, N1 t t2 at0 n i w → KW Tryz.prog 252 62 (kv_table_sorted.RV R) ([(0, [1, 1, 1, 0, 1, 0, 0]), (2, [1, 1, 1, 0, 1, 0, 0]), (1, [0]), (0, [1, 1, 1, 1])].map (toItem (Tryz.f252.body.getD .skip))) [(0, .pointer t), (2, .pointer (some ⟨t2, 0, none⟩)), (3, .pointer (some ⟨at0, 0, none⟩)), (4, .int .i64 n), (5, .int .i64 i)] w) (t : Option Addr) (t2 at0 : Nat) (n i : Int) (t24 : Bool) (w : World) (h : kv_table_sorted.B1 t t2 at0 n i t24 w N1  R) :
    KW Tryz.prog 252 62 (kv_table_sorted.RV R) ([(0, [1, 1, 1, 0, 1, 0, 0, 1, 0, 0, 0, 1]), (0, [1, 1, 1, 0, 1, 0, 0, 1, 0, 0, 1]), (1, [1]), (0, [1, 1, 1, 0, 1, 0, 0, 1, 1]), (2, [1, 1, 1, 0, 1, 0, 0]), (1, [0]), (0, [1, 1, 1, 1])].map (toItem (Tryz.f252.body.getD .skip))) [(0, .pointer t), (2, .pointer (some ⟨t2, 0, none⟩)), (3, .pointer (some ⟨at0, 0, none⟩)), (4, .int .i64 n), (5, .int .i64 i), (24, .bool t24)] w := by
  exact block_spec Tryz.func252 Tryz.mixed (stops_cons (fun σ w h => by
      obtain ⟨t_, e0, h⟩ := dP_elim h
      obtain ⟨t2_, e1, h⟩ := dK_elim h
      obtain ⟨at0_, e2, h⟩ := dK_elim h
      obtain ⟨n_, e3, h⟩ := dI_elim h
      obtain ⟨i_, e4, h⟩ := dI_elim h
      exact (hN1 t_ t2_ at0_ n_ i_ w h).weaken (Sub.cons (Sub.cons (Sub.cons (Sub.cons (Sub.cons (Sub.nil _) e4) e3) e2) e1) e0)) (stops_cons (fun σ w h => by
      obtain ⟨t_, e0, h⟩ := dP_elim h
      obtain ⟨t2_, e1, h⟩ := dK_elim h
      obtain ⟨at0_, e2, h⟩ := dK_elim h
      obtain ⟨n_, e3, h⟩ := dI_elim h
      obtain ⟨i_, e4, h⟩ := dI_elim h
      obtain ⟨key_, e5, h⟩ := dS_elim h
      obtain ⟨j_, e6, h⟩ := dI_elim h
      exact (kv_table_sorted.L2_sound hN1 t_ t2_ at0_ n_ i_ key_ j_ w h).weaken (Sub.cons (Sub.cons (Sub.cons (Sub.cons (Sub.cons (Sub.cons (Sub.cons (Sub.nil _) e6) e5) e4) e3) e2) e1) e0)) stops_nil)) (Eq.mp (kv_table_sorted.B1_eq t t2 at0 n i t24 w N1  R (fun t_ t2_ at0_ n_ i_ key_ j_ w => kv_table_sorted.L2 t_ t2_ at0_ n_ i_ key_ j_ w N1 R)) h)
def kv_table_sorted.L1b (t : Option Addr) (t2 at0 : Nat) (n i : Int) (w : World)  (N1 : Option Addr → Nat → Nat → Int → Int → World → Prop) (R : Int → Int → Int → Int → World → Prop) : Prop :=
  Bm (decide (i < (8 : Int))) (
    Pn t fun a =>
    (0 ≤ i ∧ i < ((8 : Nat) : Int)) ∧
    LdI .i64 (Addr.add a (i.toNat * 8)) w fun x19 =>
    Bm (x19 != (1 : Int)) (
      kv_table_sorted.B1 t t2 at0 n i true w N1 R) (
      kv_table_sorted.B1 t t2 at0 n i (decide (n ≥ (4 : Int))) w N1 R)) (
    LdI .i64 ⟨at0, 0, none⟩ w fun x61_0 =>
    LdI .i64 ⟨at0, 1, none⟩ w fun x61_1 =>
    LdI .i64 ⟨at0, 2, none⟩ w fun x61_2 =>
    LdI .i64 ⟨at0, 3, none⟩ w fun x61_3 =>
    Sts [.int .i64 x61_0, .int .i64 x61_1, .int .i64 x61_2, .int .i64 x61_3] ⟨t2, 0, none⟩ 0 w fun w1 =>
    LdI .i64 ⟨t2, 0, none⟩ w1 fun r_0 =>
    LdI .i64 ⟨t2, 1, none⟩ w1 fun r_1 =>
    LdI .i64 ⟨t2, 2, none⟩ w1 fun r_2 =>
    LdI .i64 ⟨t2, 3, none⟩ w1 fun r_3 =>
    R r_0 r_1 r_2 r_3 w1)
theorem kv_table_sorted.L1b_eq (t : Option Addr) (t2 at0 : Nat) (n i : Int) (w : World)  (N1 : Option Addr → Nat → Nat → Int → Int → World → Prop) (R : Int → Int → Int → Int → World → Prop) (sB1 : Option Addr → Nat → Nat → Int → Int → Bool → World → Prop) :
    (
  Bm (decide (i < (8 : Int))) (
    Pn t fun a =>
    (0 ≤ i ∧ i < ((8 : Nat) : Int)) ∧
    LdI .i64 (Addr.add a (i.toNat * 8)) w fun x19 =>
    Bm (x19 != (1 : Int)) (
      sB1 t t2 at0 n i true w) (
      sB1 t t2 at0 n i (decide (n ≥ (4 : Int))) w)) (
    LdI .i64 ⟨at0, 0, none⟩ w fun x61_0 =>
    LdI .i64 ⟨at0, 1, none⟩ w fun x61_1 =>
    LdI .i64 ⟨at0, 2, none⟩ w fun x61_2 =>
    LdI .i64 ⟨at0, 3, none⟩ w fun x61_3 =>
    Sts [.int .i64 x61_0, .int .i64 x61_1, .int .i64 x61_2, .int .i64 x61_3] ⟨t2, 0, none⟩ 0 w fun w1 =>
    LdI .i64 ⟨t2, 0, none⟩ w1 fun r_0 =>
    LdI .i64 ⟨t2, 1, none⟩ w1 fun r_1 =>
    LdI .i64 ⟨t2, 2, none⟩ w1 fun r_2 =>
    LdI .i64 ⟨t2, 3, none⟩ w1 fun r_3 =>
    R r_0 r_1 r_2 r_3 w1)) = kstep Tryz.prog 62 Tryz.f252.results.toList (Tryz.f252.body.getD .skip) (kv_table_sorted.RV R) (kvc Tryz.prog 62 Tryz.f252.results.toList (Tryz.f252.body.getD .skip) (kv_table_sorted.RV R) [([(0, [1, 1, 1, 0, 1, 0, 0, 1, 0, 0, 0, 1]), (0, [1, 1, 1, 0, 1, 0, 0, 1, 0, 0, 1]), (1, [1]), (0, [1, 1, 1, 0, 1, 0, 0, 1, 1]), (2, [1, 1, 1, 0, 1, 0, 0]), (1, [0]), (0, [1, 1, 1, 1])], fun σ w => dP (slotOf σ 0) fun t_ => dK (slotOf σ 2) fun t2_ => dK (slotOf σ 3) fun at0_ => dI .i64 (slotOf σ 4) fun n_ => dI .i64 (slotOf σ 5) fun i_ => dB (slotOf σ 24) fun t24_ => sB1 t_ t2_ at0_ n_ i_ t24_ w)] 2000) [(0, [1, 1, 1, 0, 1, 0, 0]), (2, [1, 1, 1, 0, 1, 0, 0]), (1, [0]), (0, [1, 1, 1, 1])] [(0, .pointer t), (2, .pointer (some ⟨t2, 0, none⟩)), (3, .pointer (some ⟨at0, 0, none⟩)), (4, .int .i64 n), (5, .int .i64 i)] w := by kernel_rfl
theorem kv_table_sorted.L1b_sound {R : Int → Int → Int → Int → World → Prop} {N1 : Option Addr → Nat → Nat → Int → Int → World → Prop} (hN1 : ∀ t t2 at0 n i w, N1 t t2 at0 n i w → KW Tryz.prog 252 62 (kv_table_sorted.RV R) ([(0, [1, 1, 1, 0, 1, 0, 0]), (2, [1, 1, 1, 0, 1, 0, 0]), (1, [0]), (0, [1, 1, 1, 1])].map (toItem (Tryz.f252.body.getD .skip))) [(0, .pointer t), (2, .pointer (some ⟨t2, 0, none⟩)), (3, .pointer (some ⟨at0, 0, none⟩)), (4, .int .i64 n), (5, .int .i64 i)] w) (t : Option Addr) (t2 at0 : Nat) (n i : Int) (w : World) (h : kv_table_sorted.L1b t t2 at0 n i w  N1 R) :
    KW Tryz.prog 252 62 (kv_table_sorted.RV R) ([(0, [1, 1, 1, 0, 1, 0, 0]), (2, [1, 1, 1, 0, 1, 0, 0]), (1, [0]), (0, [1, 1, 1, 1])].map (toItem (Tryz.f252.body.getD .skip))) [(0, .pointer t), (2, .pointer (some ⟨t2, 0, none⟩)), (3, .pointer (some ⟨at0, 0, none⟩)), (4, .int .i64 n), (5, .int .i64 i)] w := by
  exact block_spec Tryz.func252 Tryz.mixed (stops_cons (fun σ w h => by
      obtain ⟨t_, e0, h⟩ := dP_elim h
      obtain ⟨t2_, e1, h⟩ := dK_elim h
      obtain ⟨at0_, e2, h⟩ := dK_elim h
      obtain ⟨n_, e3, h⟩ := dI_elim h
      obtain ⟨i_, e4, h⟩ := dI_elim h
      obtain ⟨t24_, e5, h⟩ := dB_elim h
      exact (kv_table_sorted.B1_sound hN1 t_ t2_ at0_ n_ i_ t24_ w h).weaken (Sub.cons (Sub.cons (Sub.cons (Sub.cons (Sub.cons (Sub.cons (Sub.nil _) e5) e4) e3) e2) e1) e0)) stops_nil) (Eq.mp (kv_table_sorted.L1b_eq t t2 at0 n i w  N1 R (fun t_ t2_ at0_ n_ i_ t24_ w => kv_table_sorted.B1 t_ t2_ at0_ n_ i_ t24_ w N1 R)) h)
def kv_table_sorted.L1 (t : Option Addr) (t2 at0 : Nat) (n i : Int) (w : World)  (R : Int → Int → Int → Int → World → Prop) : Prop :=
  ∃ (I : Nat → Option Addr → Nat → Nat → Int → Int → World → Prop) (m : Nat), I m t t2 at0 n i w ∧ ∀ m t t2 at0 n i w, I m t t2 at0 n i w → kv_table_sorted.L1b t t2 at0 n i w  (fun t' t2' at0' n' i' w' => ∃ m', m' < m ∧ I m' t' t2' at0' n' i' w') R
theorem kv_table_sorted.L1_sound {R : Int → Int → Int → Int → World → Prop}  (t : Option Addr) (t2 at0 : Nat) (n i : Int) (w : World) (h : kv_table_sorted.L1 t t2 at0 n i w  R) :
    KW Tryz.prog 252 62 (kv_table_sorted.RV R) ([(0, [1, 1, 1, 0, 1, 0, 0]), (2, [1, 1, 1, 0, 1, 0, 0]), (1, [0]), (0, [1, 1, 1, 1])].map (toItem (Tryz.f252.body.getD .skip))) [(0, .pointer t), (2, .pointer (some ⟨t2, 0, none⟩)), (3, .pointer (some ⟨at0, 0, none⟩)), (4, .int .i64 n), (5, .int .i64 i)] w := by
  obtain ⟨I, m, hBase, hr⟩ := h
  refine KW.loop (fun m σ w => ∃ (t : Option Addr) (t2 at0 : Nat) (n i : Int), σ = [(0, .pointer t), (2, .pointer (some ⟨t2, 0, none⟩)), (3, .pointer (some ⟨at0, 0, none⟩)), (4, .int .i64 n), (5, .int .i64 i)] ∧ I m t t2 at0 n i w) ?_ m _ w ⟨t, t2, at0, n, i, rfl, hBase⟩
  rintro m ih σ w ⟨t, t2, at0, n, i, rfl, hI⟩
  exact kv_table_sorted.L1b_sound  (N1 := fun t' t2' at0' n' i' w' => ∃ m', m' < m ∧ I m' t' t2' at0' n' i' w') (fun t' t2' at0' n' i' w' hx => by obtain ⟨m', hlt, hI'⟩ := hx; exact ih m' hlt _ w' ⟨t', t2', at0', n', i', rfl, hI'⟩) t t2 at0 n i w (hr m t t2 at0 n i w hI)
def kv_table_sorted.B0 (t : Option Addr) (w : World)   (R : Int → Int → Int → Int → World → Prop) : Prop :=
  New (.cells #[.int .i64 (0 : Int), .int .i64 (0 : Int), .int .i64 (0 : Int), .int .i64 (0 : Int)] 262) w fun b2 w1 =>
  New (.cells #[.int .i64 (0 : Int), .int .i64 (0 : Int), .int .i64 (0 : Int), .int .i64 (0 : Int)] 262) w1 fun at0_ w2 =>
  kv_table_sorted.L1 t b2 at0_ (0 : Int) (0 : Int) w2  R
theorem kv_table_sorted.B0_eq (t : Option Addr) (w : World)   (R : Int → Int → Int → Int → World → Prop) (sL1 : Option Addr → Nat → Nat → Int → Int → World → Prop) :
    (
  New (.cells #[.int .i64 (0 : Int), .int .i64 (0 : Int), .int .i64 (0 : Int), .int .i64 (0 : Int)] 262) w fun b2 w1 =>
  New (.cells #[.int .i64 (0 : Int), .int .i64 (0 : Int), .int .i64 (0 : Int), .int .i64 (0 : Int)] 262) w1 fun at0_ w2 =>
  sL1 t b2 at0_ (0 : Int) (0 : Int) w2) = kstep Tryz.prog 62 Tryz.f252.results.toList (Tryz.f252.body.getD .skip) (kv_table_sorted.RV R) (kvc Tryz.prog 62 Tryz.f252.results.toList (Tryz.f252.body.getD .skip) (kv_table_sorted.RV R) [([(0, [1, 1, 1, 0, 1, 0, 0]), (2, [1, 1, 1, 0, 1, 0, 0]), (1, [0]), (0, [1, 1, 1, 1])], fun σ w => dP (slotOf σ 0) fun t_ => dK (slotOf σ 2) fun t2_ => dK (slotOf σ 3) fun at0_ => dI .i64 (slotOf σ 4) fun n_ => dI .i64 (slotOf σ 5) fun i_ => sL1 t_ t2_ at0_ n_ i_ w)] 2000) [(0, [])] [(0, .pointer t)] w := by kernel_rfl
theorem kv_table_sorted.B0_sound {R : Int → Int → Int → Int → World → Prop}  (t : Option Addr) (w : World) (h : kv_table_sorted.B0 t w   R) :
    KW Tryz.prog 252 62 (kv_table_sorted.RV R) ([(0, [])].map (toItem (Tryz.f252.body.getD .skip))) [(0, .pointer t)] w := by
  exact block_spec Tryz.func252 Tryz.mixed (stops_cons (fun σ w h => by
      obtain ⟨t_, e0, h⟩ := dP_elim h
      obtain ⟨t2_, e1, h⟩ := dK_elim h
      obtain ⟨at0_, e2, h⟩ := dK_elim h
      obtain ⟨n_, e3, h⟩ := dI_elim h
      obtain ⟨i_, e4, h⟩ := dI_elim h
      exact (kv_table_sorted.L1_sound  t_ t2_ at0_ n_ i_ w h).weaken (Sub.cons (Sub.cons (Sub.cons (Sub.cons (Sub.cons (Sub.nil _) e4) e3) e2) e1) e0)) stops_nil) (Eq.mp (kv_table_sorted.B0_eq t w   R (fun t_ t2_ at0_ n_ i_ w => kv_table_sorted.L1 t_ t2_ at0_ n_ i_ w  R)) h)
theorem kv_table_sorted.sound (t : Option Addr) (w : World) (R : Int → Int → Int → Int → World → Prop) (h : kv_table_sorted.B0 t w R) : kv_table_sorted.Call t w R := by
  have hc := calls_of_block (args := #[.pointer t]) Tryz.func252 (body := (Tryz.f252.body.getD .skip)) (by kernel_rfl) (by kernel_rfl) (args_slot _) (kv_table_sorted.B0_sound t w h)
  exact hc.mono fun e w' he => by
    obtain ⟨v, rfl, hv⟩ := he
    exact kv_table_sorted.RV_elim hv
end Go.Proofs.Qxb6500430aGreat
