import Derived.Test.Qxb6500430aGreatSig
set_option maxRecDepth 100000
set_option linter.unusedVariables false
open Go.Vc
namespace Go.Proofs.Qxb6500430aGreat
def electm_Elect_Id.B0 (e : Option Addr) (w : World)   (R : Int → World → Prop) : Prop :=
  Pn e fun a =>
  LdI .i64 a w fun x6 =>
  R x6 w
theorem electm_Elect_Id.B0_eq (e : Option Addr) (w : World)   (R : Int → World → Prop)  :
    (
  Pn e fun a =>
  LdI .i64 a w fun x6 =>
  R x6 w) = kstep Tryz.prog 7 Tryz.f117.results.toList (Tryz.f117.body.getD .skip) (electm_Elect_Id.RV R) (kvc Tryz.prog 7 Tryz.f117.results.toList (Tryz.f117.body.getD .skip) (electm_Elect_Id.RV R) [] 2000) [(0, [])] [(0, .pointer e)] w := by kernel_rfl
theorem electm_Elect_Id.B0_sound {R : Int → World → Prop}  (e : Option Addr) (w : World) (h : electm_Elect_Id.B0 e w   R) :
    KW Tryz.prog 117 7 (electm_Elect_Id.RV R) ([(0, [])].map (toItem (Tryz.f117.body.getD .skip))) [(0, .pointer e)] w := by
  exact block_spec Tryz.func117 Tryz.mixed stops_nil (Eq.mp (electm_Elect_Id.B0_eq e w   R ) h)
theorem electm_Elect_Id.sound (e : Option Addr) (w : World) (R : Int → World → Prop) (h : electm_Elect_Id.B0 e w R) : electm_Elect_Id.Call e w R := by
  have hc := calls_of_block (args := #[.pointer e]) Tryz.func117 (body := (Tryz.f117.body.getD .skip)) (by kernel_rfl) (by kernel_rfl) (args_slot _) (electm_Elect_Id.B0_sound e w h)
  exact hc.mono fun e w' he => by
    obtain ⟨v, rfl, hv⟩ := he
    exact electm_Elect_Id.RV_elim hv
def store_Store_read.B0 (t : Option Addr) (b : Int) (w : World)   (R : ByteArray → World → Prop) : Prop :=
  Pn t fun a =>
  LdP a w fun x11 =>
  diskm_Disk_Read.Call x11 b w fun r13_0 r13_1 w1 =>
  R r13_0 w1
theorem store_Store_read.B0_eq (t : Option Addr) (b : Int) (w : World)   (R : ByteArray → World → Prop)  :
    (
  Pn t fun a =>
  LdP a w fun x11 =>
  diskm_Disk_Read.Call x11 b w fun r13_0 r13_1 w1 =>
  R r13_0 w1) = kstep Tryz.prog 17 Tryz.f118.results.toList (Tryz.f118.body.getD .skip) (store_Store_read.RV R) (kvc Tryz.prog 17 Tryz.f118.results.toList (Tryz.f118.body.getD .skip) (store_Store_read.RV R) [] 2000) [(0, [])] [(0, .pointer t), (1, .int .i64 b)] w := by kernel_rfl
theorem store_Store_read.B0_sound {R : ByteArray → World → Prop}  (t : Option Addr) (b : Int) (w : World) (h : store_Store_read.B0 t b w   R) :
    KW Tryz.prog 118 17 (store_Store_read.RV R) ([(0, [])].map (toItem (Tryz.f118.body.getD .skip))) [(0, .pointer t), (1, .int .i64 b)] w := by
  exact block_spec Tryz.func118 Tryz.mixed stops_nil (Eq.mp (store_Store_read.B0_eq t b w   R ) h)
theorem store_Store_read.sound (t : Option Addr) (b : Int) (w : World) (R : ByteArray → World → Prop) (h : store_Store_read.B0 t b w R) : store_Store_read.Call t b w R := by
  have hc := calls_of_block (args := #[.pointer t, .int .i64 b]) Tryz.func118 (body := (Tryz.f118.body.getD .skip)) (by kernel_rfl) (by kernel_rfl) (args_slot _) (store_Store_read.B0_sound t b w h)
  exact hc.mono fun e w' he => by
    obtain ⟨v, rfl, hv⟩ := he
    exact store_Store_read.RV_elim hv
def store_decMeta.B0 (b : ByteArray) (w : World)   (R : Bool → Int → Int → Int → World → Prop) : Prop :=
  New (.cells #[.bool false, .int .i64 (0 : Int), .int .i64 (0 : Int), .int .i64 (0 : Int)] 180) w fun b2 w1 =>
  store_whole.Call b w1 fun r6 w2 =>
  Bm (!r6) (
    Sts [.bool false, .int .i64 (0 : Int), .int .i64 (0 : Int), .int .i64 (0 : Int)] ⟨b2, 0, none⟩ 0 w2 fun w3 =>
    LdB ⟨b2, 0, none⟩ w3 fun r_0 =>
    LdI .i64 ⟨b2, 1, none⟩ w3 fun r_1 =>
    LdI .i64 ⟨b2, 2, none⟩ w3 fun r_2 =>
    LdI .i64 ⟨b2, 3, none⟩ w3 fun r_3 =>
    R r_0 r_1 r_2 r_3 w3) (
    store_get8.Call b (1 : Int) w2 fun r10 w4 =>
    store_get8.Call b (9 : Int) w4 fun r12 w5 =>
    (0 ≤ (32 : Int) ∧ (32 : Int) < ((b.size : Nat) : Int)) ∧
    Sts [.bool true, .int .i64 r10, .int .i64 r12, .int .i64 (IntKind.i64.wrap ((IntKind.i64.wrap (byteAt b (32 : Int))) - (1 : Int)))] ⟨b2, 0, none⟩ 0 w5 fun w6 =>
    LdB ⟨b2, 0, none⟩ w6 fun r_0_1 =>
    LdI .i64 ⟨b2, 1, none⟩ w6 fun r_1_1 =>
    LdI .i64 ⟨b2, 2, none⟩ w6 fun r_2_1 =>
    LdI .i64 ⟨b2, 3, none⟩ w6 fun r_3_1 =>
    R r_0_1 r_1_1 r_2_1 r_3_1 w6)
theorem store_decMeta.B0_eq (b : ByteArray) (w : World)   (R : Bool → Int → Int → Int → World → Prop)  :
    (
  New (.cells #[.bool false, .int .i64 (0 : Int), .int .i64 (0 : Int), .int .i64 (0 : Int)] 180) w fun b2 w1 =>
  store_whole.Call b w1 fun r6 w2 =>
  Bm (!r6) (
    Sts [.bool false, .int .i64 (0 : Int), .int .i64 (0 : Int), .int .i64 (0 : Int)] ⟨b2, 0, none⟩ 0 w2 fun w3 =>
    LdB ⟨b2, 0, none⟩ w3 fun r_0 =>
    LdI .i64 ⟨b2, 1, none⟩ w3 fun r_1 =>
    LdI .i64 ⟨b2, 2, none⟩ w3 fun r_2 =>
    LdI .i64 ⟨b2, 3, none⟩ w3 fun r_3 =>
    R r_0 r_1 r_2 r_3 w3) (
    store_get8.Call b (1 : Int) w2 fun r10 w4 =>
    store_get8.Call b (9 : Int) w4 fun r12 w5 =>
    (0 ≤ (32 : Int) ∧ (32 : Int) < ((b.size : Nat) : Int)) ∧
    Sts [.bool true, .int .i64 r10, .int .i64 r12, .int .i64 (IntKind.i64.wrap ((IntKind.i64.wrap (byteAt b (32 : Int))) - (1 : Int)))] ⟨b2, 0, none⟩ 0 w5 fun w6 =>
    LdB ⟨b2, 0, none⟩ w6 fun r_0_1 =>
    LdI .i64 ⟨b2, 1, none⟩ w6 fun r_1_1 =>
    LdI .i64 ⟨b2, 2, none⟩ w6 fun r_2_1 =>
    LdI .i64 ⟨b2, 3, none⟩ w6 fun r_3_1 =>
    R r_0_1 r_1_1 r_2_1 r_3_1 w6)) = kstep Tryz.prog 20 Tryz.f119.results.toList (Tryz.f119.body.getD .skip) (store_decMeta.RV R) (kvc Tryz.prog 20 Tryz.f119.results.toList (Tryz.f119.body.getD .skip) (store_decMeta.RV R) [] 2000) [(0, [])] [(0, .string b)] w := by kernel_rfl
theorem store_decMeta.B0_sound {R : Bool → Int → Int → Int → World → Prop}  (b : ByteArray) (w : World) (h : store_decMeta.B0 b w   R) :
    KW Tryz.prog 119 20 (store_decMeta.RV R) ([(0, [])].map (toItem (Tryz.f119.body.getD .skip))) [(0, .string b)] w := by
  exact block_spec Tryz.func119 Tryz.mixed stops_nil (Eq.mp (store_decMeta.B0_eq b w   R ) h)
theorem store_decMeta.sound (b : ByteArray) (w : World) (R : Bool → Int → Int → Int → World → Prop) (h : store_decMeta.B0 b w R) : store_decMeta.Call b w R := by
  have hc := calls_of_block (args := #[.string b]) Tryz.func119 (body := (Tryz.f119.body.getD .skip)) (by kernel_rfl) (by kernel_rfl) (args_slot _) (store_decMeta.B0_sound b w h)
  exact hc.mono fun e w' he => by
    obtain ⟨v, rfl, hv⟩ := he
    exact store_decMeta.RV_elim hv
def store_decHead.B1 (b : ByteArray) (t2 : Nat) (t19 : Bool) (w : World)   (R : Bool → Int → Int → Int → Int → Int → World → Prop) : Prop :=
  Bm t19 (
    Sts [.bool false, .int .i64 (0 : Int), .int .i64 (0 : Int), .int .i64 (0 : Int), .int .i64 (0 : Int), .int .i64 (0 : Int)] ⟨t2, 0, none⟩ 0 w fun w1 =>
    LdB ⟨t2, 0, none⟩ w1 fun r_0 =>
    LdI .i64 ⟨t2, 1, none⟩ w1 fun r_1 =>
    LdI .i64 ⟨t2, 2, none⟩ w1 fun r_2 =>
    LdI .i64 ⟨t2, 3, none⟩ w1 fun r_3 =>
    LdI .i64 ⟨t2, 4, none⟩ w1 fun r_4 =>
    LdI .i64 ⟨t2, 5, none⟩ w1 fun r_5 =>
    R r_0 r_1 r_2 r_3 r_4 r_5 w1) (
    store_get8.Call b (1 : Int) w fun r22 w2 =>
    store_get8.Call b (9 : Int) w2 fun r24 w3 =>
    store_get8.Call b (32 : Int) w3 fun r26 w4 =>
    (0 ≤ (40 : Int) ∧ (40 : Int) < ((b.size : Nat) : Int)) ∧
    (0 ≤ (41 : Int) ∧ (41 : Int) < ((b.size : Nat) : Int)) ∧
    Sts [.bool true, .int .i64 r22, .int .i64 r24, .int .i64 r26, .int .i64 (IntKind.i64.wrap (byteAt b (40 : Int))), .int .i64 (IntKind.i64.wrap (byteAt b (41 : Int)))] ⟨t2, 0, none⟩ 0 w4.drew fun w5 =>
    LdB ⟨t2, 0, none⟩ w5 fun r_0_1 =>
    LdI .i64 ⟨t2, 1, none⟩ w5 fun r_1_1 =>
    LdI .i64 ⟨t2, 2, none⟩ w5 fun r_2_1 =>
    LdI .i64 ⟨t2, 3, none⟩ w5 fun r_3_1 =>
    LdI .i64 ⟨t2, 4, none⟩ w5 fun r_4_1 =>
    LdI .i64 ⟨t2, 5, none⟩ w5 fun r_5_1 =>
    R r_0_1 r_1_1 r_2_1 r_3_1 r_4_1 r_5_1 w5)
theorem store_decHead.B1_eq (b : ByteArray) (t2 : Nat) (t19 : Bool) (w : World)   (R : Bool → Int → Int → Int → Int → Int → World → Prop)  :
    (
  Bm t19 (
    Sts [.bool false, .int .i64 (0 : Int), .int .i64 (0 : Int), .int .i64 (0 : Int), .int .i64 (0 : Int), .int .i64 (0 : Int)] ⟨t2, 0, none⟩ 0 w fun w1 =>
    LdB ⟨t2, 0, none⟩ w1 fun r_0 =>
    LdI .i64 ⟨t2, 1, none⟩ w1 fun r_1 =>
    LdI .i64 ⟨t2, 2, none⟩ w1 fun r_2 =>
    LdI .i64 ⟨t2, 3, none⟩ w1 fun r_3 =>
    LdI .i64 ⟨t2, 4, none⟩ w1 fun r_4 =>
    LdI .i64 ⟨t2, 5, none⟩ w1 fun r_5 =>
    R r_0 r_1 r_2 r_3 r_4 r_5 w1) (
    store_get8.Call b (1 : Int) w fun r22 w2 =>
    store_get8.Call b (9 : Int) w2 fun r24 w3 =>
    store_get8.Call b (32 : Int) w3 fun r26 w4 =>
    (0 ≤ (40 : Int) ∧ (40 : Int) < ((b.size : Nat) : Int)) ∧
    (0 ≤ (41 : Int) ∧ (41 : Int) < ((b.size : Nat) : Int)) ∧
    Sts [.bool true, .int .i64 r22, .int .i64 r24, .int .i64 r26, .int .i64 (IntKind.i64.wrap (byteAt b (40 : Int))), .int .i64 (IntKind.i64.wrap (byteAt b (41 : Int)))] ⟨t2, 0, none⟩ 0 w4.drew fun w5 =>
    LdB ⟨t2, 0, none⟩ w5 fun r_0_1 =>
    LdI .i64 ⟨t2, 1, none⟩ w5 fun r_1_1 =>
    LdI .i64 ⟨t2, 2, none⟩ w5 fun r_2_1 =>
    LdI .i64 ⟨t2, 3, none⟩ w5 fun r_3_1 =>
    LdI .i64 ⟨t2, 4, none⟩ w5 fun r_4_1 =>
    LdI .i64 ⟨t2, 5, none⟩ w5 fun r_5_1 =>
    R r_0_1 r_1_1 r_2_1 r_3_1 r_4_1 r_5_1 w5)) = kstep Tryz.prog 37 Tryz.f120.results.toList (Tryz.f120.body.getD .skip) (store_decHead.RV R) (kvc Tryz.prog 37 Tryz.f120.results.toList (Tryz.f120.body.getD .skip) (store_decHead.RV R) [] 2000) [(0, [1, 0, 1]), (0, [1, 1])] [(0, .string b), (2, .pointer (some ⟨t2, 0, none⟩)), (19, .bool t19)] w := by kernel_rfl
theorem store_decHead.B1_sound {R : Bool → Int → Int → Int → Int → Int → World → Prop}  (b : ByteArray) (t2 : Nat) (t19 : Bool) (w : World) (h : store_decHead.B1 b t2 t19 w   R) :
    KW Tryz.prog 120 37 (store_decHead.RV R) ([(0, [1, 0, 1]), (0, [1, 1])].map (toItem (Tryz.f120.body.getD .skip))) [(0, .string b), (2, .pointer (some ⟨t2, 0, none⟩)), (19, .bool t19)] w := by
  exact block_spec Tryz.func120 Tryz.mixed stops_nil (Eq.mp (store_decHead.B1_eq b t2 t19 w   R ) h)
def store_decHead.B0 (b : ByteArray) (w : World)   (R : Bool → Int → Int → Int → Int → Int → World → Prop) : Prop :=
  New (.cells #[.bool false, .int .i64 (0 : Int), .int .i64 (0 : Int), .int .i64 (0 : Int), .int .i64 (0 : Int), .int .i64 (0 : Int)] 182) w fun b2 w1 =>
  store_whole.Call b w1 fun r7 w2 =>
  Bm (!r7) (
    store_decHead.B1 b b2 true w2  R) (
    (0 ≤ (40 : Int) ∧ (40 : Int) < ((b.size : Nat) : Int)) ∧
    Bm (decide ((byteAt b (40 : Int)) > (1 : Int))) (
      store_decHead.B1 b b2 true w2  R) (
      (0 ≤ (41 : Int) ∧ (41 : Int) < ((b.size : Nat) : Int)) ∧
      store_decHead.B1 b b2 (decide ((IntKind.i64.wrap (byteAt b (41 : Int))) > (128 : Int))) w2  R))
theorem store_decHead.B0_eq (b : ByteArray) (w : World)   (R : Bool → Int → Int → Int → Int → Int → World → Prop) (sB1 : ByteArray → Nat → Bool → World → Prop) :
    (
  New (.cells #[.bool false, .int .i64 (0 : Int), .int .i64 (0 : Int), .int .i64 (0 : Int), .int .i64 (0 : Int), .int .i64 (0 : Int)] 182) w fun b2 w1 =>
  store_whole.Call b w1 fun r7 w2 =>
  Bm (!r7) (
    sB1 b b2 true w2) (
    (0 ≤ (40 : Int) ∧ (40 : Int) < ((b.size : Nat) : Int)) ∧
    Bm (decide ((byteAt b (40 : Int)) > (1 : Int))) (
      sB1 b b2 true w2) (
      (0 ≤ (41 : Int) ∧ (41 : Int) < ((b.size : Nat) : Int)) ∧
      sB1 b b2 (decide ((IntKind.i64.wrap (byteAt b (41 : Int))) > (128 : Int))) w2))) = kstep Tryz.prog 37 Tryz.f120.results.toList (Tryz.f120.body.getD .skip) (store_decHead.RV R) (kvc Tryz.prog 37 Tryz.f120.results.toList (Tryz.f120.body.getD .skip) (store_decHead.RV R) [([(0, [1, 0, 1]), (0, [1, 1])], fun σ w => dS (slotOf σ 0) fun b_ => dK (slotOf σ 2) fun t2_ => dB (slotOf σ 19) fun t19_ => sB1 b_ t2_ t19_ w)] 2000) [(0, [])] [(0, .string b)] w := by kernel_rfl
theorem store_decHead.B0_sound {R : Bool → Int → Int → Int → Int → Int → World → Prop}  (b : ByteArray) (w : World) (h : store_decHead.B0 b w   R) :
    KW Tryz.prog 120 37 (store_decHead.RV R) ([(0, [])].map (toItem (Tryz.f120.body.getD .skip))) [(0, .string b)] w := by
  exact block_spec Tryz.func120 Tryz.mixed (stops_cons (fun σ w h => by
      obtain ⟨b_, e0, h⟩ := dS_elim h
      obtain ⟨t2_, e1, h⟩ := dK_elim h
      obtain ⟨t19_, e2, h⟩ := dB_elim h
      exact (store_decHead.B1_sound  b_ t2_ t19_ w h).weaken (Sub.cons (Sub.cons (Sub.cons (Sub.nil _) e2) e1) e0)) stops_nil) (Eq.mp (store_decHead.B0_eq b w   R (fun b_ t2_ t19_ w => store_decHead.B1 b_ t2_ t19_ w  R)) h)
theorem store_decHead.sound (b : ByteArray) (w : World) (R : Bool → Int → Int → Int → Int → Int → World → Prop) (h : store_decHead.B0 b w R) : store_decHead.Call b w R := by
  have hc := calls_of_block (args := #[.string b]) Tryz.func120 (body := (Tryz.f120.body.getD .skip)) (by kernel_rfl) (by kernel_rfl) (args_slot _) (store_decHead.B0_sound b w h)
  exact hc.mono fun e w' he => by
    obtain ⟨v, rfl, hv⟩ := he
    exact store_decHead.RV_elim hv
def store_Store_area.B1 (t : Option Addr) (a n : Int) (out_b : Option Addr) (out_l out_c : Nat) (k : Int) (x : ByteArray) (i : Int) (t32 : Bool) (w : World) (N1 : Option Addr → Int → Int → Option Addr → Nat → Nat → Int → World → Prop) (N2 : Option Addr → Int → Int → Option Addr → Nat → Nat → Int → ByteArray → Int → World → Prop)  (R : ByteArray → World → Prop) : Prop :=
  Bm t32 (
    (0 ≤ i ∧ i < ((x.size : Nat) : Int)) ∧
    New (.cells #[.int .u8 (byteAt x i)] 5) w fun b39 w1 =>
    Append 5 (.int .u8 (0 : Int)) 1 1 out_b out_l out_c (some ⟨b39, 0, none⟩) 1 w1 fun b40 c40 w2 =>
    N2 t a n b40 (out_l + 1) c40 k x (IntKind.i64.wrap (i + (1 : Int))) w2) (
    N1 t a n out_b out_l out_c (IntKind.i64.wrap (k + (1 : Int))) w)
theorem store_Store_area.B1_eq (t : Option Addr) (a n : Int) (out_b : Option Addr) (out_l out_c : Nat) (k : Int) (x : ByteArray) (i : Int) (t32 : Bool) (w : World) (N1 : Option Addr → Int → Int → Option Addr → Nat → Nat → Int → World → Prop) (N2 : Option Addr → Int → Int → Option Addr → Nat → Nat → Int → ByteArray → Int → World → Prop)  (R : ByteArray → World → Prop)  :
    (
  Bm t32 (
    (0 ≤ i ∧ i < ((x.size : Nat) : Int)) ∧
    New (.cells #[.int .u8 (byteAt x i)] 5) w fun b39 w1 =>
    Append 5 (.int .u8 (0 : Int)) 1 1 out_b out_l out_c (some ⟨b39, 0, none⟩) 1 w1 fun b40 c40 w2 =>
    N2 t a n b40 (out_l + 1) c40 k x (IntKind.i64.wrap (i + (1 : Int))) w2) (
    N1 t a n out_b out_l out_c (IntKind.i64.wrap (k + (1 : Int))) w)) = kstep Tryz.prog 43 Tryz.f121.results.toList (Tryz.f121.body.getD .skip) (store_Store_area.RV R) (kvc Tryz.prog 43 Tryz.f121.results.toList (Tryz.f121.body.getD .skip) (store_Store_area.RV R) [([(0, [1, 1, 0, 1, 0, 0, 1, 0, 0, 1, 1, 0, 0]), (2, [1, 1, 0, 1, 0, 0, 1, 0, 0, 1, 1, 0, 0]), (1, [2]), (1, [1]), (0, [1, 1, 0, 1, 0, 0, 1, 1]), (2, [1, 1, 0, 1, 0, 0]), (1, [0]), (0, [1, 1, 1])], fun σ w => dP (slotOf σ 0) fun t_ => dI .i64 (slotOf σ 1) fun a_ => dI .i64 (slotOf σ 2) fun n_ => dL (slotOf σ 7) fun out_b_ out_l_ out_c_ => dI .i64 (slotOf σ 8) fun k_ => dS (slotOf σ 9) fun x_ => dI .i64 (slotOf σ 10) fun i_ => N2 t_ a_ n_ out_b_ out_l_ out_c_ k_ x_ i_ w),
    ([(0, [1, 1, 0, 1, 0, 0]), (2, [1, 1, 0, 1, 0, 0]), (1, [0]), (0, [1, 1, 1])], fun σ w => dP (slotOf σ 0) fun t_ => dI .i64 (slotOf σ 1) fun a_ => dI .i64 (slotOf σ 2) fun n_ => dL (slotOf σ 7) fun out_b_ out_l_ out_c_ => dI .i64 (slotOf σ 8) fun k_ => N1 t_ a_ n_ out_b_ out_l_ out_c_ k_ w)] 2000) [(0, [1, 1, 0, 1, 0, 0, 1, 0, 0, 1, 1, 0, 0, 0, 1]), (0, [1, 1, 0, 1, 0, 0, 1, 0, 0, 1, 1, 0, 0, 1]), (2, [1, 1, 0, 1, 0, 0, 1, 0, 0, 1, 1, 0, 0]), (1, [2]), (1, [1]), (0, [1, 1, 0, 1, 0, 0, 1, 1]), (2, [1, 1, 0, 1, 0, 0]), (1, [0]), (0, [1, 1, 1])] [(0, .pointer t), (1, .int .i64 a), (2, .int .i64 n), (7, .slice out_b out_l out_c), (8, .int .i64 k), (9, .string x), (10, .int .i64 i), (32, .bool t32)] w := by kernel_rfl
theorem store_Store_area.B1_sound {R : ByteArray → World → Prop} {N1 : Option Addr → Int → Int → Option Addr → Nat → Nat → Int → World → Prop} (hN1 : ∀ t a n out_b out_l out_c k w, N1 t a n out_b out_l out_c k w → KW Tryz.prog 121 43 (store_Store_area.RV R) ([(0, [1, 1, 0, 1, 0, 0]), (2, [1, 1, 0, 1, 0, 0]), (1, [0]), (0, [1, 1, 1])].map (toItem (Tryz.f121.body.getD .skip))) [(0, .pointer t), (1, .int .i64 a), (2, .int .i64 n), (7, .slice out_b out_l out_c), (8, .int .i64 k)] w) {N2 : Option Addr → Int → Int → Option Addr → Nat → Nat → Int → ByteArray → Int → World → Prop} (hN2 : ∀ t a n out_b out_l out_c k x i w, N2 t a n out_b out_l out_c k x i w → KW Tryz.prog 121 43 (store_Store_area.RV R) ([(0, [1, 1, 0, 1, 0, 0, 1, 0, 0, 1, 1, 0, 0]), (2, [1, 1, 0, 1, 0, 0, 1, 0, 0, 1, 1, 0, 0]), (1, [2]), (1, [1]), (0, [1, 1, 0, 1, 0, 0, 1, 1]), (2, [1, 1, 0, 1, 0, 0]), (1, [0]), (0, [1, 1, 1])].map (toItem (Tryz.f121.body.getD .skip))) [(0, .pointer t), (1, .int .i64 a), (2, .int .i64 n), (7, .slice out_b out_l out_c), (8, .int .i64 k), (9, .string x), (10, .int .i64 i)] w) (t : Option Addr) (a n : Int) (out_b : Option Addr) (out_l out_c : Nat) (k : Int) (x : ByteArray) (i : Int) (t32 : Bool) (w : World) (h : store_Store_area.B1 t a n out_b out_l out_c k x i t32 w N1 N2  R) :
    KW Tryz.prog 121 43 (store_Store_area.RV R) ([(0, [1, 1, 0, 1, 0, 0, 1, 0, 0, 1, 1, 0, 0, 0, 1]), (0, [1, 1, 0, 1, 0, 0, 1, 0, 0, 1, 1, 0, 0, 1]), (2, [1, 1, 0, 1, 0, 0, 1, 0, 0, 1, 1, 0, 0]), (1, [2]), (1, [1]), (0, [1, 1, 0, 1, 0, 0, 1, 1]), (2, [1, 1, 0, 1, 0, 0]), (1, [0]), (0, [1, 1, 1])].map (toItem (Tryz.f121.body.getD .skip))) [(0, .pointer t), (1, .int .i64 a), (2, .int .i64 n), (7, .slice out_b out_l out_c), (8, .int .i64 k), (9, .string x), (10, .int .i64 i), (32, .bool t32)] w := by
  exact block_spec Tryz.func121 Tryz.mixed (stops_cons (fun σ w h => by
      obtain ⟨t_, e0, h⟩ := dP_elim h
      obtain ⟨a_, e1, h⟩ := dI_elim h
      obtain ⟨n_, e2, h⟩ := dI_elim h
      obtain ⟨out_b_, out_l_, out_c_, e3, h⟩ := dL_elim h
      obtain ⟨k_, e4, h⟩ := dI_elim h
      obtain ⟨x_, e5, h⟩ := dS_elim h
      obtain ⟨i_, e6, h⟩ := dI_elim h
      exact (hN2 t_ a_ n_ out_b_ out_l_ out_c_ k_ x_ i_ w h).weaken (Sub.cons (Sub.cons (Sub.cons (Sub.cons (Sub.cons (Sub.cons (Sub.cons (Sub.nil _) e6) e5) e4) e3) e2) e1) e0)) (stops_cons (fun σ w h => by
      obtain ⟨t_, e0, h⟩ := dP_elim h
      obtain ⟨a_, e1, h⟩ := dI_elim h
      obtain ⟨n_, e2, h⟩ := dI_elim h
      obtain ⟨out_b_, out_l_, out_c_, e3, h⟩ := dL_elim h
      obtain ⟨k_, e4, h⟩ := dI_elim h
      exact (hN1 t_ a_ n_ out_b_ out_l_ out_c_ k_ w h).weaken (Sub.cons (Sub.cons (Sub.cons (Sub.cons (Sub.cons (Sub.nil _) e4) e3) e2) e1) e0)) stops_nil)) (Eq.mp (store_Store_area.B1_eq t a n out_b out_l out_c k x i t32 w N1 N2  R ) h)
def store_Store_area.L2b (t : Option Addr) (a n : Int) (out_b : Option Addr) (out_l out_c : Nat) (k : Int) (x : ByteArray) (i : Int) (w : World) (N1 : Option Addr → Int → Int → Option Addr → Nat → Nat → Int → World → Prop) (N2 : Option Addr → Int → Int → Option Addr → Nat → Nat → Int → ByteArray → Int → World → Prop) (R : ByteArray → World → Prop) : Prop :=
  Bm (decide (i < (64 : Int))) (
    store_Store_area.B1 t a n out_b out_l out_c k x i (decide ((IntKind.i64.wrap ((IntKind.i64.wrap (k * (64 : Int))) + i)) < n)) w N1 N2 R) (
    store_Store_area.B1 t a n out_b out_l out_c k x i false w N1 N2 R)
theorem store_Store_area.L2b_eq (t : Option Addr) (a n : Int) (out_b : Option Addr) (out_l out_c : Nat) (k : Int) (x : ByteArray) (i : Int) (w : World) (N1 : Option Addr → Int → Int → Option Addr → Nat → Nat → Int → World → Prop) (N2 : Option Addr → Int → Int → Option Addr → Nat → Nat → Int → ByteArray → Int → World → Prop) (R : ByteArray → World → Prop) (sB1 : Option Addr → Int → Int → Option Addr → Nat → Nat → Int → ByteArray → Int → Bool → World → Prop) :
    (
  Bm (decide (i < (64 : Int))) (
    sB1 t a n out_b out_l out_c k x i (decide ((IntKind.i64.wrap ((IntKind.i64.wrap (k * (64 : Int))) + i)) < n)) w) (
    sB1 t a n out_b out_l out_c k x i false w)) = kstep Tryz.prog 43 Tryz.f121.results.toList (Tryz.f121.body.getD .skip) (store_Store_area.RV R) (kvc Tryz.prog 43 Tryz.f121.results.toList (Tryz.f121.body.getD .skip) (store_Store_area.RV R) [([(0, [1, 1, 0, 1, 0, 0, 1, 0, 0, 1, 1, 0, 0, 0, 1]), (0, [1, 1, 0, 1, 0, 0, 1, 0, 0, 1, 1, 0, 0, 1]), (2, [1, 1, 0, 1, 0, 0, 1, 0, 0, 1, 1, 0, 0]), (1, [2]), (1, [1]), (0, [1, 1, 0, 1, 0, 0, 1, 1]), (2, [1, 1, 0, 1, 0, 0]), (1, [0]), (0, [1, 1, 1])], fun σ w => dP (slotOf σ 0) fun t_ => dI .i64 (slotOf σ 1) fun a_ => dI .i64 (slotOf σ 2) fun n_ => dL (slotOf σ 7) fun out_b_ out_l_ out_c_ => dI .i64 (slotOf σ 8) fun k_ => dS (slotOf σ 9) fun x_ => dI .i64 (slotOf σ 10) fun i_ => dB (slotOf σ 32) fun t32_ => sB1 t_ a_ n_ out_b_ out_l_ out_c_ k_ x_ i_ t32_ w)] 2000) [(0, [1, 1, 0, 1, 0, 0, 1, 0, 0, 1, 1, 0, 0]), (2, [1, 1, 0, 1, 0, 0, 1, 0, 0, 1, 1, 0, 0]), (1, [2]), (1, [1]), (0, [1, 1, 0, 1, 0, 0, 1, 1]), (2, [1, 1, 0, 1, 0, 0]), (1, [0]), (0, [1, 1, 1])] [(0, .pointer t), (1, .int .i64 a), (2, .int .i64 n), (7, .slice out_b out_l out_c), (8, .int .i64 k), (9, .string x), (10, .int .i64 i)] w := by kernel_rfl
theorem store_Store_area.L2b_sound {R : ByteArray → World → Prop} {N1 : Option Addr → Int → Int → Option Addr → Nat → Nat → Int → World → Prop} (hN1 : ∀ t a n out_b out_l out_c k w, N1 t a n out_b out_l out_c k w → KW Tryz.prog 121 43 (store_Store_area.RV R) ([(0, [1, 1, 0, 1, 0, 0]), (2, [1, 1, 0, 1, 0, 0]), (1, [0]), (0, [1, 1, 1])].map (toItem (Tryz.f121.body.getD .skip))) [(0, .pointer t), (1, .int .i64 a), (2, .int .i64 n), (7, .slice out_b out_l out_c), (8, .int .i64 k)] w) {N2 : Option Addr → Int → Int → Option Addr → Nat → Nat → Int → ByteArray → Int → World → Prop} (hN2 : ∀ t a n out_b out_l out_c k x i w, N2 t a n out_b out_l out_c k x i w → KW Tryz.prog 121 43 (store_Store_area.RV R) ([(0, [1, 1, 0, 1, 0, 0, 1, 0, 0, 1, 1, 0, 0]), (2, [1, 1, 0, 1, 0, 0, 1, 0, 0, 1, 1, 0, 0]), (1, [2]), (1, [1]), (0, [1, 1, 0, 1, 0, 0, 1, 1]), (2, [1, 1, 0, 1, 0, 0]), (1, [0]), (0, [1, 1, 1])].map (toItem (Tryz.f121.body.getD .skip))) [(0, .pointer t), (1, .int .i64 a), (2, .int .i64 n), (7, .slice out_b out_l out_c), (8, .int .i64 k), (9, .string x), (10, .int .i64 i)] w) (t : Option Addr) (a n : Int) (out_b : Option Addr) (out_l out_c : Nat) (k : Int) (x : ByteArray) (i : Int) (w : World) (h : store_Store_area.L2b t a n out_b out_l out_c k x i w N1 N2 R) :
    KW Tryz.prog 121 43 (store_Store_area.RV R) ([(0, [1, 1, 0, 1, 0, 0, 1, 0, 0, 1, 1, 0, 0]), (2, [1, 1, 0, 1, 0, 0, 1, 0, 0, 1, 1, 0, 0]), (1, [2]), (1, [1]), (0, [1, 1, 0, 1, 0, 0, 1, 1]), (2, [1, 1, 0, 1, 0, 0]), (1, [0]), (0, [1, 1, 1])].map (toItem (Tryz.f121.body.getD .skip))) [(0, .pointer t), (1, .int .i64 a), (2, .int .i64 n), (7, .slice out_b out_l out_c), (8, .int .i64 k), (9, .string x), (10, .int .i64 i)] w := by
  exact block_spec Tryz.func121 Tryz.mixed (stops_cons (fun σ w h => by
      obtain ⟨t_, e0, h⟩ := dP_elim h
      obtain ⟨a_, e1, h⟩ := dI_elim h
      obtain ⟨n_, e2, h⟩ := dI_elim h
      obtain ⟨out_b_, out_l_, out_c_, e3, h⟩ := dL_elim h
      obtain ⟨k_, e4, h⟩ := dI_elim h
      obtain ⟨x_, e5, h⟩ := dS_elim h
      obtain ⟨i_, e6, h⟩ := dI_elim h
      obtain ⟨t32_, e7, h⟩ := dB_elim h
      exact (store_Store_area.B1_sound hN1 hN2 t_ a_ n_ out_b_ out_l_ out_c_ k_ x_ i_ t32_ w h).weaken (Sub.cons (Sub.cons (Sub.cons (Sub.cons (Sub.cons (Sub.cons (Sub.cons (Sub.cons (Sub.nil _) e7) e6) e5) e4) e3) e2) e1) e0)) stops_nil) (Eq.mp (store_Store_area.L2b_eq t a n out_b out_l out_c k x i w N1 N2 R (fun t_ a_ n_ out_b_ out_l_ out_c_ k_ x_ i_ t32_ w => store_Store_area.B1 t_ a_ n_ out_b_ out_l_ out_c_ k_ x_ i_ t32_ w N1 N2 R)) h)
def store_Store_area.L2 (t : Option Addr) (a n : Int) (out_b : Option Addr) (out_l out_c : Nat) (k : Int) (x : ByteArray) (i : Int) (w : World) (N1 : Option Addr → Int → Int → Option Addr → Nat → Nat → Int → World → Prop) (R : ByteArray → World → Prop) : Prop :=
  ∃ (I : Nat → Option Addr → Int → Int → Option Addr → Nat → Nat → Int → ByteArray → Int → World → Prop) (m : Nat), I m t a n out_b out_l out_c k x i w ∧ ∀ m t a n out_b out_l out_c k x i w, I m t a n out_b out_l out_c k x i w → store_Store_area.L2b t a n out_b out_l out_c k x i w N1 (fun t' a' n' out_b' out_l' out_c' k' x' i' w' => ∃ m', m' < m ∧ I m' t' a' n' out_b' out_l' out_c' k' x' i' w') R
theorem store_Store_area.L2_sound {R : ByteArray → World → Prop} {N1 : Option Addr → Int → Int → Option Addr → Nat → Nat → Int → World → Prop} (hN1 : ∀ t a n out_b out_l out_c k w, N1 t a n out_b out_l out_c k w → KW Tryz.prog 121 43 (store_Store_area.RV R) ([(0, [1, 1, 0, 1, 0, 0]), (2, [1, 1, 0, 1, 0, 0]), (1, [0]), (0, [1, 1, 1])].map (toItem (Tryz.f121.body.getD .skip))) [(0, .pointer t), (1, .int .i64 a), (2, .int .i64 n), (7, .slice out_b out_l out_c), (8, .int .i64 k)] w) (t : Option Addr) (a n : Int) (out_b : Option Addr) (out_l out_c : Nat) (k : Int) (x : ByteArray) (i : Int) (w : World) (h : store_Store_area.L2 t a n out_b out_l out_c k x i w N1 R) :
    KW Tryz.prog 121 43 (store_Store_area.RV R) ([(0, [1, 1, 0, 1, 0, 0, 1, 0, 0, 1, 1, 0, 0]), (2, [1, 1, 0, 1, 0, 0, 1, 0, 0, 1, 1, 0, 0]), (1, [2]), (1, [1]), (0, [1, 1, 0, 1, 0, 0, 1, 1]), (2, [1, 1, 0, 1, 0, 0]), (1, [0]), (0, [1, 1, 1])].map (toItem (Tryz.f121.body.getD .skip))) [(0, .pointer t), (1, .int .i64 a), (2, .int .i64 n), (7, .slice out_b out_l out_c), (8, .int .i64 k), (9, .string x), (10, .int .i64 i)] w := by
  obtain ⟨I, m, hBase, hr⟩ := h
  refine KW.loop (fun m σ w => ∃ (t : Option Addr) (a n : Int) (out_b : Option Addr) (out_l out_c : Nat) (k : Int) (x : ByteArray) (i : Int), σ = [(0, .pointer t), (1, .int .i64 a), (2, .int .i64 n), (7, .slice out_b out_l out_c), (8, .int .i64 k), (9, .string x), (10, .int .i64 i)] ∧ I m t a n out_b out_l out_c k x i w) ?_ m _ w ⟨t, a, n, out_b, out_l, out_c, k, x, i, rfl, hBase⟩
  rintro m ih σ w ⟨t, a, n, out_b, out_l, out_c, k, x, i, rfl, hI⟩
  exact store_Store_area.L2b_sound hN1 (N2 := fun t' a' n' out_b' out_l' out_c' k' x' i' w' => ∃ m', m' < m ∧ I m' t' a' n' out_b' out_l' out_c' k' x' i' w') (fun t' a' n' out_b' out_l' out_c' k' x' i' w' hx => by obtain ⟨m', hlt, hI'⟩ := hx; exact ih m' hlt _ w' ⟨t', a', n', out_b', out_l', out_c', k', x', i', rfl, hI'⟩) t a n out_b out_l out_c k x i w (hr m t a n out_b out_l out_c k x i w hI)
def store_Store_area.L1b (t : Option Addr) (a n : Int) (out_b : Option Addr) (out_l out_c : Nat) (k : Int) (w : World)  (N1 : Option Addr → Int → Int → Option Addr → Nat → Nat → Int → World → Prop) (R : ByteArray → World → Prop) : Prop :=
  Bm (decide (k < (2 : Int))) (
    store_Store_read.Call t (IntKind.i64.wrap ((IntKind.i64.wrap ((4 : Int) + (IntKind.i64.wrap (a * (2 : Int))))) + k)) w fun r22 w1 =>
    store_Store_area.L2 t a n out_b out_l out_c k r22 (0 : Int) w1 N1 R) (
    ToStr out_b out_l w fun s42 =>
    R s42 w)
theorem store_Store_area.L1b_eq (t : Option Addr) (a n : Int) (out_b : Option Addr) (out_l out_c : Nat) (k : Int) (w : World)  (N1 : Option Addr → Int → Int → Option Addr → Nat → Nat → Int → World → Prop) (R : ByteArray → World → Prop) (sL2 : Option Addr → Int → Int → Option Addr → Nat → Nat → Int → ByteArray → Int → World → Prop) :
    (
  Bm (decide (k < (2 : Int))) (
    store_Store_read.Call t (IntKind.i64.wrap ((IntKind.i64.wrap ((4 : Int) + (IntKind.i64.wrap (a * (2 : Int))))) + k)) w fun r22 w1 =>
    sL2 t a n out_b out_l out_c k r22 (0 : Int) w1) (
    ToStr out_b out_l w fun s42 =>
    R s42 w)) = kstep Tryz.prog 43 Tryz.f121.results.toList (Tryz.f121.body.getD .skip) (store_Store_area.RV R) (kvc Tryz.prog 43 Tryz.f121.results.toList (Tryz.f121.body.getD .skip) (store_Store_area.RV R) [([(0, [1, 1, 0, 1, 0, 0, 1, 0, 0, 1, 1, 0, 0]), (2, [1, 1, 0, 1, 0, 0, 1, 0, 0, 1, 1, 0, 0]), (1, [2]), (1, [1]), (0, [1, 1, 0, 1, 0, 0, 1, 1]), (2, [1, 1, 0, 1, 0, 0]), (1, [0]), (0, [1, 1, 1])], fun σ w => dP (slotOf σ 0) fun t_ => dI .i64 (slotOf σ 1) fun a_ => dI .i64 (slotOf σ 2) fun n_ => dL (slotOf σ 7) fun out_b_ out_l_ out_c_ => dI .i64 (slotOf σ 8) fun k_ => dS (slotOf σ 9) fun x_ => dI .i64 (slotOf σ 10) fun i_ => sL2 t_ a_ n_ out_b_ out_l_ out_c_ k_ x_ i_ w)] 2000) [(0, [1, 1, 0, 1, 0, 0]), (2, [1, 1, 0, 1, 0, 0]), (1, [0]), (0, [1, 1, 1])] [(0, .pointer t), (1, .int .i64 a), (2, .int .i64 n), (7, .slice out_b out_l out_c), (8, .int .i64 k)] w := by kernel_rfl
theorem store_Store_area.L1b_sound {R : ByteArray → World → Prop} {N1 : Option Addr → Int → Int → Option Addr → Nat → Nat → Int → World → Prop} (hN1 : ∀ t a n out_b out_l out_c k w, N1 t a n out_b out_l out_c k w → KW Tryz.prog 121 43 (store_Store_area.RV R) ([(0, [1, 1, 0, 1, 0, 0]), (2, [1, 1, 0, 1, 0, 0]), (1, [0]), (0, [1, 1, 1])].map (toItem (Tryz.f121.body.getD .skip))) [(0, .pointer t), (1, .int .i64 a), (2, .int .i64 n), (7, .slice out_b out_l out_c), (8, .int .i64 k)] w) (t : Option Addr) (a n : Int) (out_b : Option Addr) (out_l out_c : Nat) (k : Int) (w : World) (h : store_Store_area.L1b t a n out_b out_l out_c k w  N1 R) :
    KW Tryz.prog 121 43 (store_Store_area.RV R) ([(0, [1, 1, 0, 1, 0, 0]), (2, [1, 1, 0, 1, 0, 0]), (1, [0]), (0, [1, 1, 1])].map (toItem (Tryz.f121.body.getD .skip))) [(0, .pointer t), (1, .int .i64 a), (2, .int .i64 n), (7, .slice out_b out_l out_c), (8, .int .i64 k)] w := by
  exact block_spec Tryz.func121 Tryz.mixed (stops_cons (fun σ w h => by
      obtain ⟨t_, e0, h⟩ := dP_elim h
      obtain ⟨a_, e1, h⟩ := dI_elim h
      obtain ⟨n_, e2, h⟩ := dI_elim h
      obtain ⟨out_b_, out_l_, out_c_, e3, h⟩ := dL_elim h
      obtain ⟨k_, e4, h⟩ := dI_elim h
      obtain ⟨x_, e5, h⟩ := dS_elim h
      obtain ⟨i_, e6, h⟩ := dI_elim h
      exact (store_Store_area.L2_sound hN1 t_ a_ n_ out_b_ out_l_ out_c_ k_ x_ i_ w h).weaken (Sub.cons (Sub.cons (Sub.cons (Sub.cons (Sub.cons (Sub.cons (Sub.cons (Sub.nil _) e6) e5) e4) e3) e2) e1) e0)) stops_nil) (Eq.mp (store_Store_area.L1b_eq t a n out_b out_l out_c k w  N1 R (fun t_ a_ n_ out_b_ out_l_ out_c_ k_ x_ i_ w => store_Store_area.L2 t_ a_ n_ out_b_ out_l_ out_c_ k_ x_ i_ w N1 R)) h)
def store_Store_area.L1 (t : Option Addr) (a n : Int) (out_b : Option Addr) (out_l out_c : Nat) (k : Int) (w : World)  (R : ByteArray → World → Prop) : Prop :=
  ∃ (I : Nat → Option Addr → Int → Int → Option Addr → Nat → Nat → Int → World → Prop) (m : Nat), I m t a n out_b out_l out_c k w ∧ ∀ m t a n out_b out_l out_c k w, I m t a n out_b out_l out_c k w → store_Store_area.L1b t a n out_b out_l out_c k w  (fun t' a' n' out_b' out_l' out_c' k' w' => ∃ m', m' < m ∧ I m' t' a' n' out_b' out_l' out_c' k' w') R
theorem store_Store_area.L1_sound {R : ByteArray → World → Prop}  (t : Option Addr) (a n : Int) (out_b : Option Addr) (out_l out_c : Nat) (k : Int) (w : World) (h : store_Store_area.L1 t a n out_b out_l out_c k w  R) :
    KW Tryz.prog 121 43 (store_Store_area.RV R) ([(0, [1, 1, 0, 1, 0, 0]), (2, [1, 1, 0, 1, 0, 0]), (1, [0]), (0, [1, 1, 1])].map (toItem (Tryz.f121.body.getD .skip))) [(0, .pointer t), (1, .int .i64 a), (2, .int .i64 n), (7, .slice out_b out_l out_c), (8, .int .i64 k)] w := by
  obtain ⟨I, m, hBase, hr⟩ := h
  refine KW.loop (fun m σ w => ∃ (t : Option Addr) (a n : Int) (out_b : Option Addr) (out_l out_c : Nat) (k : Int), σ = [(0, .pointer t), (1, .int .i64 a), (2, .int .i64 n), (7, .slice out_b out_l out_c), (8, .int .i64 k)] ∧ I m t a n out_b out_l out_c k w) ?_ m _ w ⟨t, a, n, out_b, out_l, out_c, k, rfl, hBase⟩
  rintro m ih σ w ⟨t, a, n, out_b, out_l, out_c, k, rfl, hI⟩
  exact store_Store_area.L1b_sound  (N1 := fun t' a' n' out_b' out_l' out_c' k' w' => ∃ m', m' < m ∧ I m' t' a' n' out_b' out_l' out_c' k' w') (fun t' a' n' out_b' out_l' out_c' k' w' hx => by obtain ⟨m', hlt, hI'⟩ := hx; exact ih m' hlt _ w' ⟨t', a', n', out_b', out_l', out_c', k', rfl, hI'⟩) t a n out_b out_l out_c k w (hr m t a n out_b out_l out_c k w hI)
def store_Store_area.B0 (t : Option Addr) (a n : Int) (w : World)   (R : ByteArray → World → Prop) : Prop :=
  Make 5 (.int .u8 (0 : Int)) 1 1 (0 : Int) (128 : Int) w fun b11 w1 =>
  store_Store_area.L1 t a n (some ⟨b11, 0, none⟩) 0 128 (0 : Int) w1  R
theorem store_Store_area.B0_eq (t : Option Addr) (a n : Int) (w : World)   (R : ByteArray → World → Prop) (sL1 : Option Addr → Int → Int → Option Addr → Nat → Nat → Int → World → Prop) :
    (
  Make 5 (.int .u8 (0 : Int)) 1 1 (0 : Int) (128 : Int) w fun b11 w1 =>
  sL1 t a n (some ⟨b11, 0, none⟩) 0 128 (0 : Int) w1) = kstep Tryz.prog 43 Tryz.f121.results.toList (Tryz.f121.body.getD .skip) (store_Store_area.RV R) (kvc Tryz.prog 43 Tryz.f121.results.toList (Tryz.f121.body.getD .skip) (store_Store_area.RV R) [([(0, [1, 1, 0, 1, 0, 0]), (2, [1, 1, 0, 1, 0, 0]), (1, [0]), (0, [1, 1, 1])], fun σ w => dP (slotOf σ 0) fun t_ => dI .i64 (slotOf σ 1) fun a_ => dI .i64 (slotOf σ 2) fun n_ => dL (slotOf σ 7) fun out_b_ out_l_ out_c_ => dI .i64 (slotOf σ 8) fun k_ => sL1 t_ a_ n_ out_b_ out_l_ out_c_ k_ w)] 2000) [(0, [])] [(0, .pointer t), (1, .int .i64 a), (2, .int .i64 n)] w := by kernel_rfl
theorem store_Store_area.B0_sound {R : ByteArray → World → Prop}  (t : Option Addr) (a n : Int) (w : World) (h : store_Store_area.B0 t a n w   R) :
    KW Tryz.prog 121 43 (store_Store_area.RV R) ([(0, [])].map (toItem (Tryz.f121.body.getD .skip))) [(0, .pointer t), (1, .int .i64 a), (2, .int .i64 n)] w := by
  exact block_spec Tryz.func121 Tryz.mixed (stops_cons (fun σ w h => by
      obtain ⟨t_, e0, h⟩ := dP_elim h
      obtain ⟨a_, e1, h⟩ := dI_elim h
      obtain ⟨n_, e2, h⟩ := dI_elim h
      obtain ⟨out_b_, out_l_, out_c_, e3, h⟩ := dL_elim h
      obtain ⟨k_, e4, h⟩ := dI_elim h
      exact (store_Store_area.L1_sound  t_ a_ n_ out_b_ out_l_ out_c_ k_ w h).weaken (Sub.cons (Sub.cons (Sub.cons (Sub.cons (Sub.cons (Sub.nil _) e4) e3) e2) e1) e0)) stops_nil) (Eq.mp (store_Store_area.B0_eq t a n w   R (fun t_ a_ n_ out_b_ out_l_ out_c_ k_ w => store_Store_area.L1 t_ a_ n_ out_b_ out_l_ out_c_ k_ w  R)) h)
theorem store_Store_area.sound (t : Option Addr) (a n : Int) (w : World) (R : ByteArray → World → Prop) (h : store_Store_area.B0 t a n w R) : store_Store_area.Call t a n w R := by
  have hc := calls_of_block (args := #[.pointer t, .int .i64 a, .int .i64 n]) Tryz.func121 (body := (Tryz.f121.body.getD .skip)) (by kernel_rfl) (by kernel_rfl) (args_slot _) (store_Store_area.B0_sound t a n w h)
  exact hc.mono fun e w' he => by
    obtain ⟨v, rfl, hv⟩ := he
    exact store_Store_area.RV_elim hv
def store_decRec.L1b (b : ByteArray) (t2 : Nat) (n : Int) (data_b : Option Addr) (data_l data_c : Nat) (i : Int) (w : World)  (N1 : ByteArray → Nat → Int → Option Addr → Nat → Nat → Int → World → Prop) (R : Int → Int → ByteArray → Bool → World → Prop) : Prop :=
  Bm (decide (i < n)) (
    (0 ≤ (IntKind.i64.wrap ((11 : Int) + i)) ∧ (IntKind.i64.wrap ((11 : Int) + i)) < ((b.size : Nat) : Int)) ∧
    Pn data_b fun a =>
    (0 ≤ i ∧ i < ((data_l : Nat) : Int)) ∧
    Sts [.int .u8 (byteAt b (IntKind.i64.wrap ((11 : Int) + i)))] (Addr.add a (i.toNat * 1)) 0 w fun w1 =>
    N1 b t2 n data_b data_l data_c (IntKind.i64.wrap (i + (1 : Int))) w1) (
    store_get8.Call b (2 : Int) w fun r40 w2 =>
    store_get8.Call b (35 : Int) w2 fun r42 w3 =>
    ToStr data_b data_l w3 fun s46 =>
    Sts [.int .i64 r40, .int .i64 r42, .string s46] ⟨t2, 0, none⟩ 0 w3 fun w4 =>
    LdI .i64 ⟨t2, 0, none⟩ w4 fun r_0 =>
    LdI .i64 ⟨t2, 1, none⟩ w4 fun r_1 =>
    LdS ⟨t2, 2, none⟩ w4 fun r_2 =>
    R r_0 r_1 r_2 true w4)
theorem store_decRec.L1b_eq (b : ByteArray) (t2 : Nat) (n : Int) (data_b : Option Addr) (data_l data_c : Nat) (i : Int) (w : World)  (N1 : ByteArray → Nat → Int → Option Addr → Nat → Nat → Int → World → Prop) (R : Int → Int → ByteArray → Bool → World → Prop)  :
    (
  Bm (decide (i < n)) (
    (0 ≤ (IntKind.i64.wrap ((11 : Int) + i)) ∧ (IntKind.i64.wrap ((11 : Int) + i)) < ((b.size : Nat) : Int)) ∧
    Pn data_b fun a =>
    (0 ≤ i ∧ i < ((data_l : Nat) : Int)) ∧
    Sts [.int .u8 (byteAt b (IntKind.i64.wrap ((11 : Int) + i)))] (Addr.add a (i.toNat * 1)) 0 w fun w1 =>
    N1 b t2 n data_b data_l data_c (IntKind.i64.wrap (i + (1 : Int))) w1) (
    store_get8.Call b (2 : Int) w fun r40 w2 =>
    store_get8.Call b (35 : Int) w2 fun r42 w3 =>
    ToStr data_b data_l w3 fun s46 =>
    Sts [.int .i64 r40, .int .i64 r42, .string s46] ⟨t2, 0, none⟩ 0 w3 fun w4 =>
    LdI .i64 ⟨t2, 0, none⟩ w4 fun r_0 =>
    LdI .i64 ⟨t2, 1, none⟩ w4 fun r_1 =>
    LdS ⟨t2, 2, none⟩ w4 fun r_2 =>
    R r_0 r_1 r_2 true w4)) = kstep Tryz.prog 48 Tryz.f122.results.toList (Tryz.f122.body.getD .skip) (store_decRec.RV R) (kvc Tryz.prog 48 Tryz.f122.results.toList (Tryz.f122.body.getD .skip) (store_decRec.RV R) [([(0, [1, 1, 1, 1, 0, 1, 0, 0]), (2, [1, 1, 1, 1, 0, 1, 0, 0]), (1, [0]), (0, [1, 1, 1, 1, 1])], fun σ w => dS (slotOf σ 0) fun b_ => dK (slotOf σ 2) fun t2_ => dI .i64 (slotOf σ 4) fun n_ => dL (slotOf σ 5) fun data_b_ data_l_ data_c_ => dI .i64 (slotOf σ 6) fun i_ => N1 b_ t2_ n_ data_b_ data_l_ data_c_ i_ w)] 2000) [(0, [1, 1, 1, 1, 0, 1, 0, 0]), (2, [1, 1, 1, 1, 0, 1, 0, 0]), (1, [0]), (0, [1, 1, 1, 1, 1])] [(0, .string b), (2, .pointer (some ⟨t2, 0, none⟩)), (4, .int .i64 n), (5, .slice data_b data_l data_c), (6, .int .i64 i)] w := by kernel_rfl
theorem store_decRec.L1b_sound {R : Int → Int → ByteArray → Bool → World → Prop} {N1 : ByteArray → Nat → Int → Option Addr → Nat → Nat → Int → World → Prop} (hN1 : ∀ b t2 n data_b data_l data_c i w, N1 b t2 n data_b data_l data_c i w → KW Tryz.prog 122 48 (store_decRec.RV R) ([(0, [1, 1, 1, 1, 0, 1, 0, 0]), (2, [1, 1, 1, 1, 0, 1, 0, 0]), (1, [0]), (0, [1, 1, 1, 1, 1])].map (toItem (Tryz.f122.body.getD .skip))) [(0, .string b), (2, .pointer (some ⟨t2, 0, none⟩)), (4, .int .i64 n), (5, .slice data_b data_l data_c), (6, .int .i64 i)] w) (b : ByteArray) (t2 : Nat) (n : Int) (data_b : Option Addr) (data_l data_c : Nat) (i : Int) (w : World) (h : store_decRec.L1b b t2 n data_b data_l data_c i w  N1 R) :
    KW Tryz.prog 122 48 (store_decRec.RV R) ([(0, [1, 1, 1, 1, 0, 1, 0, 0]), (2, [1, 1, 1, 1, 0, 1, 0, 0]), (1, [0]), (0, [1, 1, 1, 1, 1])].map (toItem (Tryz.f122.body.getD .skip))) [(0, .string b), (2, .pointer (some ⟨t2, 0, none⟩)), (4, .int .i64 n), (5, .slice data_b data_l data_c), (6, .int .i64 i)] w := by
  exact block_spec Tryz.func122 Tryz.mixed (stops_cons (fun σ w h => by
      obtain ⟨b_, e0, h⟩ := dS_elim h
      obtain ⟨t2_, e1, h⟩ := dK_elim h
      obtain ⟨n_, e2, h⟩ := dI_elim h
      obtain ⟨data_b_, data_l_, data_c_, e3, h⟩ := dL_elim h
      obtain ⟨i_, e4, h⟩ := dI_elim h
      exact (hN1 b_ t2_ n_ data_b_ data_l_ data_c_ i_ w h).weaken (Sub.cons (Sub.cons (Sub.cons (Sub.cons (Sub.cons (Sub.nil _) e4) e3) e2) e1) e0)) stops_nil) (Eq.mp (store_decRec.L1b_eq b t2 n data_b data_l data_c i w  N1 R ) h)
def store_decRec.L1 (b : ByteArray) (t2 : Nat) (n : Int) (data_b : Option Addr) (data_l data_c : Nat) (i : Int) (w : World)  (R : Int → Int → ByteArray → Bool → World → Prop) : Prop :=
  ∃ (I : Nat → ByteArray → Nat → Int → Option Addr → Nat → Nat → Int → World → Prop) (m : Nat), I m b t2 n data_b data_l data_c i w ∧ ∀ m b t2 n data_b data_l data_c i w, I m b t2 n data_b data_l data_c i w → store_decRec.L1b b t2 n data_b data_l data_c i w  (fun b' t2' n' data_b' data_l' data_c' i' w' => ∃ m', m' < m ∧ I m' b' t2' n' data_b' data_l' data_c' i' w') R
theorem store_decRec.L1_sound {R : Int → Int → ByteArray → Bool → World → Prop}  (b : ByteArray) (t2 : Nat) (n : Int) (data_b : Option Addr) (data_l data_c : Nat) (i : Int) (w : World) (h : store_decRec.L1 b t2 n data_b data_l data_c i w  R) :
    KW Tryz.prog 122 48 (store_decRec.RV R) ([(0, [1, 1, 1, 1, 0, 1, 0, 0]), (2, [1, 1, 1, 1, 0, 1, 0, 0]), (1, [0]), (0, [1, 1, 1, 1, 1])].map (toItem (Tryz.f122.body.getD .skip))) [(0, .string b), (2, .pointer (some ⟨t2, 0, none⟩)), (4, .int .i64 n), (5, .slice data_b data_l data_c), (6, .int .i64 i)] w := by
  obtain ⟨I, m, hBase, hr⟩ := h
  refine KW.loop (fun m σ w => ∃ (b : ByteArray) (t2 : Nat) (n : Int) (data_b : Option Addr) (data_l data_c : Nat) (i : Int), σ = [(0, .string b), (2, .pointer (some ⟨t2, 0, none⟩)), (4, .int .i64 n), (5, .slice data_b data_l data_c), (6, .int .i64 i)] ∧ I m b t2 n data_b data_l data_c i w) ?_ m _ w ⟨b, t2, n, data_b, data_l, data_c, i, rfl, hBase⟩
  rintro m ih σ w ⟨b, t2, n, data_b, data_l, data_c, i, rfl, hI⟩
  exact store_decRec.L1b_sound  (N1 := fun b' t2' n' data_b' data_l' data_c' i' w' => ∃ m', m' < m ∧ I m' b' t2' n' data_b' data_l' data_c' i' w') (fun b' t2' n' data_b' data_l' data_c' i' w' hx => by obtain ⟨m', hlt, hI'⟩ := hx; exact ih m' hlt _ w' ⟨b', t2', n', data_b', data_l', data_c', i', rfl, hI'⟩) b t2 n data_b data_l data_c i w (hr m b t2 n data_b data_l data_c i w hI)
def store_decRec.B1 (b : ByteArray) (t2 : Nat) (n : Int) (t23 : Bool) (w : World)   (R : Int → Int → ByteArray → Bool → World → Prop) : Prop :=
  Bm t23 (
    Sts [.int .i64 (0 : Int), .int .i64 (0 : Int), .string (ByteArray.mk #[])] ⟨t2, 0, none⟩ 0 w fun w1 =>
    LdI .i64 ⟨t2, 0, none⟩ w1 fun r_0 =>
    LdI .i64 ⟨t2, 1, none⟩ w1 fun r_1 =>
    LdS ⟨t2, 2, none⟩ w1 fun r_2 =>
    R r_0 r_1 r_2 false w1) (
    Make 5 (.int .u8 (0 : Int)) 1 1 n n w fun b26 w2 =>
    store_decRec.L1 b t2 n (some ⟨b26, 0, none⟩) n.toNat n.toNat (0 : Int) w2  R)
theorem store_decRec.B1_eq (b : ByteArray) (t2 : Nat) (n : Int) (t23 : Bool) (w : World)   (R : Int → Int → ByteArray → Bool → World → Prop) (sL1 : ByteArray → Nat → Int → Option Addr → Nat → Nat → Int → World → Prop) :
    (
  Bm t23 (
    Sts [.int .i64 (0 : Int), .int .i64 (0 : Int), .string (ByteArray.mk #[])] ⟨t2, 0, none⟩ 0 w fun w1 =>
    LdI .i64 ⟨t2, 0, none⟩ w1 fun r_0 =>
    LdI .i64 ⟨t2, 1, none⟩ w1 fun r_1 =>
    LdS ⟨t2, 2, none⟩ w1 fun r_2 =>
    R r_0 r_1 r_2 false w1) (
    Make 5 (.int .u8 (0 : Int)) 1 1 n n w fun b26 w2 =>
    sL1 b t2 n (some ⟨b26, 0, none⟩) n.toNat n.toNat (0 : Int) w2)) = kstep Tryz.prog 48 Tryz.f122.results.toList (Tryz.f122.body.getD .skip) (store_decRec.RV R) (kvc Tryz.prog 48 Tryz.f122.results.toList (Tryz.f122.body.getD .skip) (store_decRec.RV R) [([(0, [1, 1, 1, 1, 0, 1, 0, 0]), (2, [1, 1, 1, 1, 0, 1, 0, 0]), (1, [0]), (0, [1, 1, 1, 1, 1])], fun σ w => dS (slotOf σ 0) fun b_ => dK (slotOf σ 2) fun t2_ => dI .i64 (slotOf σ 4) fun n_ => dL (slotOf σ 5) fun data_b_ data_l_ data_c_ => dI .i64 (slotOf σ 6) fun i_ => sL1 b_ t2_ n_ data_b_ data_l_ data_c_ i_ w)] 2000) [(0, [1, 1, 0, 1]), (0, [1, 1, 1])] [(0, .string b), (2, .pointer (some ⟨t2, 0, none⟩)), (4, .int .i64 n), (23, .bool t23)] w := by kernel_rfl
theorem store_decRec.B1_sound {R : Int → Int → ByteArray → Bool → World → Prop}  (b : ByteArray) (t2 : Nat) (n : Int) (t23 : Bool) (w : World) (h : store_decRec.B1 b t2 n t23 w   R) :
    KW Tryz.prog 122 48 (store_decRec.RV R) ([(0, [1, 1, 0, 1]), (0, [1, 1, 1])].map (toItem (Tryz.f122.body.getD .skip))) [(0, .string b), (2, .pointer (some ⟨t2, 0, none⟩)), (4, .int .i64 n), (23, .bool t23)] w := by
  exact block_spec Tryz.func122 Tryz.mixed (stops_cons (fun σ w h => by
      obtain ⟨b_, e0, h⟩ := dS_elim h
      obtain ⟨t2_, e1, h⟩ := dK_elim h
      obtain ⟨n_, e2, h⟩ := dI_elim h
      obtain ⟨data_b_, data_l_, data_c_, e3, h⟩ := dL_elim h
      obtain ⟨i_, e4, h⟩ := dI_elim h
      exact (store_decRec.L1_sound  b_ t2_ n_ data_b_ data_l_ data_c_ i_ w h).weaken (Sub.cons (Sub.cons (Sub.cons (Sub.cons (Sub.cons (Sub.nil _) e4) e3) e2) e1) e0)) stops_nil) (Eq.mp (store_decRec.B1_eq b t2 n t23 w   R (fun b_ t2_ n_ data_b_ data_l_ data_c_ i_ w => store_decRec.L1 b_ t2_ n_ data_b_ data_l_ data_c_ i_ w  R)) h)
def store_decRec.B0 (b : ByteArray) (w : World)   (R : Int → Int → ByteArray → Bool → World → Prop) : Prop :=
  New (.cells #[.int .i64 (0 : Int), .int .i64 (0 : Int), .string (ByteArray.mk #[])] 185) w fun b2 w1 =>
  (0 ≤ (10 : Int) ∧ (10 : Int) < ((b.size : Nat) : Int)) ∧
  store_whole.Call b w1 fun r13 w2 =>
  Bm (!r13) (
    store_decRec.B1 b b2 (IntKind.i64.wrap (byteAt b (10 : Int))) true w2  R) (
    (0 ≤ (1 : Int) ∧ (1 : Int) < ((b.size : Nat) : Int)) ∧
    Bm ((byteAt b (1 : Int)) != (1 : Int)) (
      store_decRec.B1 b b2 (IntKind.i64.wrap (byteAt b (10 : Int))) true w2  R) (
      store_decRec.B1 b b2 (IntKind.i64.wrap (byteAt b (10 : Int))) (decide ((IntKind.i64.wrap (byteAt b (10 : Int))) > (24 : Int))) w2  R))
theorem store_decRec.B0_eq (b : ByteArray) (w : World)   (R : Int → Int → ByteArray → Bool → World → Prop) (sB1 : ByteArray → Nat → Int → Bool → World → Prop) :
    (
  New (.cells #[.int .i64 (0 : Int), .int .i64 (0 : Int), .string (ByteArray.mk #[])] 185) w fun b2 w1 =>
  (0 ≤ (10 : Int) ∧ (10 : Int) < ((b.size : Nat) : Int)) ∧
  store_whole.Call b w1 fun r13 w2 =>
  Bm (!r13) (
    sB1 b b2 (IntKind.i64.wrap (byteAt b (10 : Int))) true w2) (
    (0 ≤ (1 : Int) ∧ (1 : Int) < ((b.size : Nat) : Int)) ∧
    Bm ((byteAt b (1 : Int)) != (1 : Int)) (
      sB1 b b2 (IntKind.i64.wrap (byteAt b (10 : Int))) true w2) (
      sB1 b b2 (IntKind.i64.wrap (byteAt b (10 : Int))) (decide ((IntKind.i64.wrap (byteAt b (10 : Int))) > (24 : Int))) w2))) = kstep Tryz.prog 48 Tryz.f122.results.toList (Tryz.f122.body.getD .skip) (store_decRec.RV R) (kvc Tryz.prog 48 Tryz.f122.results.toList (Tryz.f122.body.getD .skip) (store_decRec.RV R) [([(0, [1, 1, 0, 1]), (0, [1, 1, 1])], fun σ w => dS (slotOf σ 0) fun b_ => dK (slotOf σ 2) fun t2_ => dI .i64 (slotOf σ 4) fun n_ => dB (slotOf σ 23) fun t23_ => sB1 b_ t2_ n_ t23_ w)] 2000) [(0, [])] [(0, .string b)] w := by kernel_rfl
theorem store_decRec.B0_sound {R : Int → Int → ByteArray → Bool → World → Prop}  (b : ByteArray) (w : World) (h : store_decRec.B0 b w   R) :
    KW Tryz.prog 122 48 (store_decRec.RV R) ([(0, [])].map (toItem (Tryz.f122.body.getD .skip))) [(0, .string b)] w := by
  exact block_spec Tryz.func122 Tryz.mixed (stops_cons (fun σ w h => by
      obtain ⟨b_, e0, h⟩ := dS_elim h
      obtain ⟨t2_, e1, h⟩ := dK_elim h
      obtain ⟨n_, e2, h⟩ := dI_elim h
      obtain ⟨t23_, e3, h⟩ := dB_elim h
      exact (store_decRec.B1_sound  b_ t2_ n_ t23_ w h).weaken (Sub.cons (Sub.cons (Sub.cons (Sub.cons (Sub.nil _) e3) e2) e1) e0)) stops_nil) (Eq.mp (store_decRec.B0_eq b w   R (fun b_ t2_ n_ t23_ w => store_decRec.B1 b_ t2_ n_ t23_ w  R)) h)
theorem store_decRec.sound (b : ByteArray) (w : World) (R : Int → Int → ByteArray → Bool → World → Prop) (h : store_decRec.B0 b w R) : store_decRec.Call b w R := by
  have hc := calls_of_block (args := #[.string b]) Tryz.func122 (body := (Tryz.f122.body.getD .skip)) (by kernel_rfl) (by kernel_rfl) (args_slot _) (store_decRec.B0_sound b w h)
  exact hc.mono fun e w' he => by
    obtain ⟨v, rfl, hv⟩ := he
    exact store_decRec.RV_elim hv
def store_Store_Meta.B0 (t : Option Addr) (w : World)   (R : Int → Int → World → Prop) : Prop :=
  Pn t fun a =>
  LdI .i64 ((a.add 15).add 2) w.drew fun x8 =>
  Pn t fun a_1 =>
  LdI .i64 ((a_1.add 15).add 3) w.drew fun x13 =>
  R x8 x13 w.drew
theorem store_Store_Meta.B0_eq (t : Option Addr) (w : World)   (R : Int → Int → World → Prop)  :
    (
  Pn t fun a =>
  LdI .i64 ((a.add 15).add 2) w.drew fun x8 =>
  Pn t fun a_1 =>
  LdI .i64 ((a_1.add 15).add 3) w.drew fun x13 =>
  R x8 x13 w.drew) = kstep Tryz.prog 14 Tryz.f123.results.toList (Tryz.f123.body.getD .skip) (store_Store_Meta.RV R) (kvc Tryz.prog 14 Tryz.f123.results.toList (Tryz.f123.body.getD .skip) (store_Store_Meta.RV R) [] 2000) [(0, [])] [(0, .pointer t)] w := by kernel_rfl
theorem store_Store_Meta.B0_sound {R : Int → Int → World → Prop}  (t : Option Addr) (w : World) (h : store_Store_Meta.B0 t w   R) :
    KW Tryz.prog 123 14 (store_Store_Meta.RV R) ([(0, [])].map (toItem (Tryz.f123.body.getD .skip))) [(0, .pointer t)] w := by
  exact block_spec Tryz.func123 Tryz.mixed stops_nil (Eq.mp (store_Store_Meta.B0_eq t w   R ) h)
theorem store_Store_Meta.sound (t : Option Addr) (w : World) (R : Int → Int → World → Prop) (h : store_Store_Meta.B0 t w R) : store_Store_Meta.Call t w R := by
  have hc := calls_of_block (args := #[.pointer t]) Tryz.func123 (body := (Tryz.f123.body.getD .skip)) (by kernel_rfl) (by kernel_rfl) (args_slot _) (store_Store_Meta.B0_sound t w h)
  exact hc.mono fun e w' he => by
    obtain ⟨v, rfl, hv⟩ := he
    exact store_Store_Meta.RV_elim hv
def store_Store_Snap.B0 (t : Option Addr) (w : World)   (R : Int → Int → ByteArray → World → Prop) : Prop :=
  Pn t fun a =>
  LdI .i64 ((a.add 20).add 2) w.drew fun x9 =>
  Pn t fun a_1 =>
  LdI .i64 ((a_1.add 20).add 3) w.drew fun x14 =>
  Pn t fun a_2 =>
  LdS (a_2.add 27) w.drew fun x18 =>
  R x9 x14 x18 w.drew
theorem store_Store_Snap.B0_eq (t : Option Addr) (w : World)   (R : Int → Int → ByteArray → World → Prop)  :
    (
  Pn t fun a =>
  LdI .i64 ((a.add 20).add 2) w.drew fun x9 =>
  Pn t fun a_1 =>
  LdI .i64 ((a_1.add 20).add 3) w.drew fun x14 =>
  Pn t fun a_2 =>
  LdS (a_2.add 27) w.drew fun x18 =>
  R x9 x14 x18 w.drew) = kstep Tryz.prog 19 Tryz.f124.results.toList (Tryz.f124.body.getD .skip) (store_Store_Snap.RV R) (kvc Tryz.prog 19 Tryz.f124.results.toList (Tryz.f124.body.getD .skip) (store_Store_Snap.RV R) [] 2000) [(0, [])] [(0, .pointer t)] w := by kernel_rfl
theorem store_Store_Snap.B0_sound {R : Int → Int → ByteArray → World → Prop}  (t : Option Addr) (w : World) (h : store_Store_Snap.B0 t w   R) :
    KW Tryz.prog 124 19 (store_Store_Snap.RV R) ([(0, [])].map (toItem (Tryz.f124.body.getD .skip))) [(0, .pointer t)] w := by
  exact block_spec Tryz.func124 Tryz.mixed stops_nil (Eq.mp (store_Store_Snap.B0_eq t w   R ) h)
theorem store_Store_Snap.sound (t : Option Addr) (w : World) (R : Int → Int → ByteArray → World → Prop) (h : store_Store_Snap.B0 t w R) : store_Store_Snap.Call t w R := by
  have hc := calls_of_block (args := #[.pointer t]) Tryz.func124 (body := (Tryz.f124.body.getD .skip)) (by kernel_rfl) (by kernel_rfl) (args_slot _) (store_Store_Snap.B0_sound t w h)
  exact hc.mono fun e w' he => by
    obtain ⟨v, rfl, hv⟩ := he
    exact store_Store_Snap.RV_elim hv
def rlog_Log_load.B1 (l : Option Addr) (i : Int) (r : Nat) (t26 : Bool) (w : World)   (R : Bool → World → Prop) : Prop :=
  Bm t26 (
    R false w) (
    LdI .i64 ⟨r, 1, none⟩ w.drew fun x31 =>
    Pn l fun a =>
    rlog_slotOf.Call i w.drew fun r29 w1 =>
    w1.cell? ⟨r, 1, none⟩ = some (.int .i64 x31) ∧
    (0 ≤ r29 ∧ r29 < ((6 : Nat) : Int)) ∧
    Sts [.int .i64 x31] (Addr.add (a.add 7) (r29.toNat * 1)) 0 w1 fun w2 =>
    LdS ⟨r, 2, none⟩ w2.drew fun x39 =>
    Pn l fun a_1 =>
    rlog_slotOf.Call i w2.drew fun r37 w3 =>
    w3.cell? ⟨r, 2, none⟩ = some (.string x39) ∧
    (0 ≤ r37 ∧ r37 < ((6 : Nat) : Int)) ∧
    Sts [.string x39] (Addr.add (a_1.add 13) (r37.toNat * 1)) 0 w3 fun w4 =>
    R true w4)
theorem rlog_Log_load.B1_eq (l : Option Addr) (i : Int) (r : Nat) (t26 : Bool) (w : World)   (R : Bool → World → Prop)  :
    (
  Bm t26 (
    R false w) (
    LdI .i64 ⟨r, 1, none⟩ w.drew fun x31 =>
    Pn l fun a =>
    rlog_slotOf.Call i w.drew fun r29 w1 =>
    w1.cell? ⟨r, 1, none⟩ = some (.int .i64 x31) ∧
    (0 ≤ r29 ∧ r29 < ((6 : Nat) : Int)) ∧
    Sts [.int .i64 x31] (Addr.add (a.add 7) (r29.toNat * 1)) 0 w1 fun w2 =>
    LdS ⟨r, 2, none⟩ w2.drew fun x39 =>
    Pn l fun a_1 =>
    rlog_slotOf.Call i w2.drew fun r37 w3 =>
    w3.cell? ⟨r, 2, none⟩ = some (.string x39) ∧
    (0 ≤ r37 ∧ r37 < ((6 : Nat) : Int)) ∧
    Sts [.string x39] (Addr.add (a_1.add 13) (r37.toNat * 1)) 0 w3 fun w4 =>
    R true w4)) = kstep Tryz.prog 43 Tryz.f125.results.toList (Tryz.f125.body.getD .skip) (rlog_Log_load.RV R) (kvc Tryz.prog 43 Tryz.f125.results.toList (Tryz.f125.body.getD .skip) (rlog_Log_load.RV R) [] 2000) [(0, [1, 1, 1, 0, 1]), (0, [1, 1, 1, 1])] [(0, .pointer l), (1, .int .i64 i), (6, .pointer (some ⟨r, 0, none⟩)), (26, .bool t26)] w := by kernel_rfl
theorem rlog_Log_load.B1_sound {R : Bool → World → Prop}  (l : Option Addr) (i : Int) (r : Nat) (t26 : Bool) (w : World) (h : rlog_Log_load.B1 l i r t26 w   R) :
    KW Tryz.prog 125 43 (rlog_Log_load.RV R) ([(0, [1, 1, 1, 0, 1]), (0, [1, 1, 1, 1])].map (toItem (Tryz.f125.body.getD .skip))) [(0, .pointer l), (1, .int .i64 i), (6, .pointer (some ⟨r, 0, none⟩)), (26, .bool t26)] w := by
  exact block_spec Tryz.func125 Tryz.mixed stops_nil (Eq.mp (rlog_Log_load.B1_eq l i r t26 w   R ) h)
def rlog_Log_load.B0 (l : Option Addr) (i : Int) (w : World)   (R : Bool → World → Prop) : Prop :=
  rlog_slotOf.Call i w fun r9 w1 =>
  Pn l fun a =>
  LdP a w1 fun x14 =>
  store_Store_Rec.Call x14 r9 w1 fun r16_0_0 r16_0_1 r16_0_2 r16_1 w2 =>
  New (.cells #[.int .i64 (0 : Int), .int .i64 (0 : Int), .string (ByteArray.mk #[])] 185) w2 fun r_ w3 =>
  Sts [.int .i64 r16_0_0, .int .i64 r16_0_1, .string r16_0_2] ⟨r_, 0, none⟩ 0 w3 fun w4 =>
  Bm (r16_1 != (0 : Int)) (
    rlog_Log_load.B1 l i r_ true w4  R) (
    LdI .i64 ⟨r_, 0, none⟩ w4 fun x23 =>
    rlog_Log_load.B1 l i r_ (x23 != i) w4  R)
theorem rlog_Log_load.B0_eq (l : Option Addr) (i : Int) (w : World)   (R : Bool → World → Prop) (sB1 : Option Addr → Int → Nat → Bool → World → Prop) :
    (
  rlog_slotOf.Call i w fun r9 w1 =>
  Pn l fun a =>
  LdP a w1 fun x14 =>
  store_Store_Rec.Call x14 r9 w1 fun r16_0_0 r16_0_1 r16_0_2 r16_1 w2 =>
  New (.cells #[.int .i64 (0 : Int), .int .i64 (0 : Int), .string (ByteArray.mk #[])] 185) w2 fun r_ w3 =>
  Sts [.int .i64 r16_0_0, .int .i64 r16_0_1, .string r16_0_2] ⟨r_, 0, none⟩ 0 w3 fun w4 =>
  Bm (r16_1 != (0 : Int)) (
    sB1 l i r_ true w4) (
    LdI .i64 ⟨r_, 0, none⟩ w4 fun x23 =>
    sB1 l i r_ (x23 != i) w4)) = kstep Tryz.prog 43 Tryz.f125.results.toList (Tryz.f125.body.getD .skip) (rlog_Log_load.RV R) (kvc Tryz.prog 43 Tryz.f125.results.toList (Tryz.f125.body.getD .skip) (rlog_Log_load.RV R) [([(0, [1, 1, 1, 0, 1]), (0, [1, 1, 1, 1])], fun σ w => dP (slotOf σ 0) fun l_ => dI .i64 (slotOf σ 1) fun i_ => dK (slotOf σ 6) fun r_ => dB (slotOf σ 26) fun t26_ => sB1 l_ i_ r_ t26_ w)] 2000) [(0, [])] [(0, .pointer l), (1, .int .i64 i)] w := by kernel_rfl
theorem rlog_Log_load.B0_sound {R : Bool → World → Prop}  (l : Option Addr) (i : Int) (w : World) (h : rlog_Log_load.B0 l i w   R) :
    KW Tryz.prog 125 43 (rlog_Log_load.RV R) ([(0, [])].map (toItem (Tryz.f125.body.getD .skip))) [(0, .pointer l), (1, .int .i64 i)] w := by
  exact block_spec Tryz.func125 Tryz.mixed (stops_cons (fun σ w h => by
      obtain ⟨l_, e0, h⟩ := dP_elim h
      obtain ⟨i_, e1, h⟩ := dI_elim h
      obtain ⟨r_, e2, h⟩ := dK_elim h
      obtain ⟨t26_, e3, h⟩ := dB_elim h
      exact (rlog_Log_load.B1_sound  l_ i_ r_ t26_ w h).weaken (Sub.cons (Sub.cons (Sub.cons (Sub.cons (Sub.nil _) e3) e2) e1) e0)) stops_nil) (Eq.mp (rlog_Log_load.B0_eq l i w   R (fun l_ i_ r_ t26_ w => rlog_Log_load.B1 l_ i_ r_ t26_ w  R)) h)
theorem rlog_Log_load.sound (l : Option Addr) (i : Int) (w : World) (R : Bool → World → Prop) (h : rlog_Log_load.B0 l i w R) : rlog_Log_load.Call l i w R := by
  have hc := calls_of_block (args := #[.pointer l, .int .i64 i]) Tryz.func125 (body := (Tryz.f125.body.getD .skip)) (by kernel_rfl) (by kernel_rfl) (args_slot _) (rlog_Log_load.B0_sound l i w h)
  exact hc.mono fun e w' he => by
    obtain ⟨v, rfl, hv⟩ := he
    exact rlog_Log_load.RV_elim hv
def rlog_Log_sweep.B2 (l : Option Addr) (s : Int) (w : World) (N1 : Option Addr → Int → World → Prop)  (R : World → Prop) : Prop :=
  N1 l (IntKind.i64.wrap (s + (1 : Int))) w
theorem rlog_Log_sweep.B2_eq (l : Option Addr) (s : Int) (w : World) (N1 : Option Addr → Int → World → Prop)  (R : World → Prop)  :
    (
  N1 l (IntKind.i64.wrap (s + (1 : Int))) w) = kstep Tryz.prog 32 Tryz.f126.results.toList (Tryz.f126.body.getD .skip) (rlog_Log_sweep.RV R) (kvc Tryz.prog 32 Tryz.f126.results.toList (Tryz.f126.body.getD .skip) (rlog_Log_sweep.RV R) [([(0, [1, 0, 0]), (2, [1, 0, 0]), (1, [0])], fun σ w => dP (slotOf σ 0) fun l_ => dI .i64 (slotOf σ 2) fun s_ => N1 l_ s_ w)] 2000) [(0, [1, 0, 0, 1, 1]), (2, [1, 0, 0]), (1, [0])] [(0, .pointer l), (2, .int .i64 s)] w := by kernel_rfl
theorem rlog_Log_sweep.B2_sound {R : World → Prop} {N1 : Option Addr → Int → World → Prop} (hN1 : ∀ l s w, N1 l s w → KW Tryz.prog 126 32 (rlog_Log_sweep.RV R) ([(0, [1, 0, 0]), (2, [1, 0, 0]), (1, [0])].map (toItem (Tryz.f126.body.getD .skip))) [(0, .pointer l), (2, .int .i64 s)] w) (l : Option Addr) (s : Int) (w : World) (h : rlog_Log_sweep.B2 l s w N1  R) :
    KW Tryz.prog 126 32 (rlog_Log_sweep.RV R) ([(0, [1, 0, 0, 1, 1]), (2, [1, 0, 0]), (1, [0])].map (toItem (Tryz.f126.body.getD .skip))) [(0, .pointer l), (2, .int .i64 s)] w := by
  exact block_spec Tryz.func126 Tryz.mixed (stops_cons (fun σ w h => by
      obtain ⟨l_, e0, h⟩ := dP_elim h
      obtain ⟨s_, e1, h⟩ := dI_elim h
      exact (hN1 l_ s_ w h).weaken (Sub.cons (Sub.cons (Sub.nil _) e1) e0)) stops_nil) (Eq.mp (rlog_Log_sweep.B2_eq l s w N1  R ) h)
def rlog_Log_sweep.B1 (l : Option Addr) (s : Int) (t25 : Bool) (w : World) (N1 : Option Addr → Int → World → Prop)  (R : World → Prop) : Prop :=
  Bm t25 (
    Pn l fun a =>
    LdP a w fun x29 =>
    store_Store_DelRec.Call x29 s w fun r31 w1 =>
    rlog_Log_sweep.B2 l s w1 N1 R) (
    rlog_Log_sweep.B2 l s w N1 R)
theorem rlog_Log_sweep.B1_eq (l : Option Addr) (s : Int) (t25 : Bool) (w : World) (N1 : Option Addr → Int → World → Prop)  (R : World → Prop) (sB2 : Option Addr → Int → World → Prop) :
    (
  Bm t25 (
    Pn l fun a =>
    LdP a w fun x29 =>
    store_Store_DelRec.Call x29 s w fun r31 w1 =>
    sB2 l s w1) (
    sB2 l s w)) = kstep Tryz.prog 32 Tryz.f126.results.toList (Tryz.f126.body.getD .skip) (rlog_Log_sweep.RV R) (kvc Tryz.prog 32 Tryz.f126.results.toList (Tryz.f126.body.getD .skip) (rlog_Log_sweep.RV R) [([(0, [1, 0, 0, 1, 1]), (2, [1, 0, 0]), (1, [0])], fun σ w => dP (slotOf σ 0) fun l_ => dI .i64 (slotOf σ 2) fun s_ => sB2 l_ s_ w)] 2000) [(0, [1, 0, 0, 1, 0, 0, 1, 1]), (1, [1]), (0, [1, 0, 0, 1, 1]), (2, [1, 0, 0]), (1, [0])] [(0, .pointer l), (2, .int .i64 s), (25, .bool t25)] w := by kernel_rfl
theorem rlog_Log_sweep.B1_sound {R : World → Prop} {N1 : Option Addr → Int → World → Prop} (hN1 : ∀ l s w, N1 l s w → KW Tryz.prog 126 32 (rlog_Log_sweep.RV R) ([(0, [1, 0, 0]), (2, [1, 0, 0]), (1, [0])].map (toItem (Tryz.f126.body.getD .skip))) [(0, .pointer l), (2, .int .i64 s)] w) (l : Option Addr) (s : Int) (t25 : Bool) (w : World) (h : rlog_Log_sweep.B1 l s t25 w N1  R) :
    KW Tryz.prog 126 32 (rlog_Log_sweep.RV R) ([(0, [1, 0, 0, 1, 0, 0, 1, 1]), (1, [1]), (0, [1, 0, 0, 1, 1]), (2, [1, 0, 0]), (1, [0])].map (toItem (Tryz.f126.body.getD .skip))) [(0, .pointer l), (2, .int .i64 s), (25, .bool t25)] w := by
  exact block_spec Tryz.func126 Tryz.mixed (stops_cons (fun σ w h => by
      obtain ⟨l_, e0, h⟩ := dP_elim h
      obtain ⟨s_, e1, h⟩ := dI_elim h
      exact (rlog_Log_sweep.B2_sound hN1 l_ s_ w h).weaken (Sub.cons (Sub.cons (Sub.nil _) e1) e0)) stops_nil) (Eq.mp (rlog_Log_sweep.B1_eq l s t25 w N1  R (fun l_ s_ w => rlog_Log_sweep.B2 l_ s_ w N1 R)) h)
def rlog_Log_sweep.L1b (l : Option Addr) (s : Int) (w : World)  (N1 : Option Addr → Int → World → Prop) (R : World → Prop) : Prop :=
  Bm (decide (s < (6 : Int))) (
    Pn l fun a =>
    LdP a w fun x13 =>
    store_Store_Rec.Call x13 s w fun r15_0_0 r15_0_1 r15_0_2 r15_1 w1 =>
    New (.cells #[.int .i64 (0 : Int), .int .i64 (0 : Int), .string (ByteArray.mk #[])] 185) w1 fun v__ w2 =>
    Sts [.int .i64 r15_0_0, .int .i64 r15_0_1, .string r15_0_2] ⟨v__, 0, none⟩ 0 w2 fun w3 =>
    Bm (r15_1 == (0 : Int)) (
      rlog_Log_indexIn.Call l s w3 fun r23 w4 =>
      rlog_Log_sweep.B1 l s (r23 == (0 : Int)) w4 N1 R) (
      rlog_Log_sweep.B1 l s false w3 N1 R)) (
    R  w)
theorem rlog_Log_sweep.L1b_eq (l : Option Addr) (s : Int) (w : World)  (N1 : Option Addr → Int → World → Prop) (R : World → Prop) (sB1 : Option Addr → Int → Bool → World → Prop) :
    (
  Bm (decide (s < (6 : Int))) (
    Pn l fun a =>
    LdP a w fun x13 =>
    store_Store_Rec.Call x13 s w fun r15_0_0 r15_0_1 r15_0_2 r15_1 w1 =>
    New (.cells #[.int .i64 (0 : Int), .int .i64 (0 : Int), .string (ByteArray.mk #[])] 185) w1 fun v__ w2 =>
    Sts [.int .i64 r15_0_0, .int .i64 r15_0_1, .string r15_0_2] ⟨v__, 0, none⟩ 0 w2 fun w3 =>
    Bm (r15_1 == (0 : Int)) (
      rlog_Log_indexIn.Call l s w3 fun r23 w4 =>
      sB1 l s (r23 == (0 : Int)) w4) (
      sB1 l s false w3)) (
    R  w)) = kstep Tryz.prog 32 Tryz.f126.results.toList (Tryz.f126.body.getD .skip) (rlog_Log_sweep.RV R) (kvc Tryz.prog 32 Tryz.f126.results.toList (Tryz.f126.body.getD .skip) (rlog_Log_sweep.RV R) [([(0, [1, 0, 0, 1, 0, 0, 1, 1]), (1, [1]), (0, [1, 0, 0, 1, 1]), (2, [1, 0, 0]), (1, [0])], fun σ w => dP (slotOf σ 0) fun l_ => dI .i64 (slotOf σ 2) fun s_ => dB (slotOf σ 25) fun t25_ => sB1 l_ s_ t25_ w)] 2000) [(0, [1, 0, 0]), (2, [1, 0, 0]), (1, [0])] [(0, .pointer l), (2, .int .i64 s)] w := by kernel_rfl
theorem rlog_Log_sweep.L1b_sound {R : World → Prop} {N1 : Option Addr → Int → World → Prop} (hN1 : ∀ l s w, N1 l s w → KW Tryz.prog 126 32 (rlog_Log_sweep.RV R) ([(0, [1, 0, 0]), (2, [1, 0, 0]), (1, [0])].map (toItem (Tryz.f126.body.getD .skip))) [(0, .pointer l), (2, .int .i64 s)] w) (l : Option Addr) (s : Int) (w : World) (h : rlog_Log_sweep.L1b l s w  N1 R) :
    KW Tryz.prog 126 32 (rlog_Log_sweep.RV R) ([(0, [1, 0, 0]), (2, [1, 0, 0]), (1, [0])].map (toItem (Tryz.f126.body.getD .skip))) [(0, .pointer l), (2, .int .i64 s)] w := by
  exact block_spec Tryz.func126 Tryz.mixed (stops_cons (fun σ w h => by
      obtain ⟨l_, e0, h⟩ := dP_elim h
      obtain ⟨s_, e1, h⟩ := dI_elim h
      obtain ⟨t25_, e2, h⟩ := dB_elim h
      exact (rlog_Log_sweep.B1_sound hN1 l_ s_ t25_ w h).weaken (Sub.cons (Sub.cons (Sub.cons (Sub.nil _) e2) e1) e0)) stops_nil) (Eq.mp (rlog_Log_sweep.L1b_eq l s w  N1 R (fun l_ s_ t25_ w => rlog_Log_sweep.B1 l_ s_ t25_ w N1 R)) h)
def rlog_Log_sweep.L1 (l : Option Addr) (s : Int) (w : World)  (R : World → Prop) : Prop :=
  ∃ (I : Nat → Option Addr → Int → World → Prop) (m : Nat), I m l s w ∧ ∀ m l s w, I m l s w → rlog_Log_sweep.L1b l s w  (fun l' s' w' => ∃ m', m' < m ∧ I m' l' s' w') R
theorem rlog_Log_sweep.L1_sound {R : World → Prop}  (l : Option Addr) (s : Int) (w : World) (h : rlog_Log_sweep.L1 l s w  R) :
    KW Tryz.prog 126 32 (rlog_Log_sweep.RV R) ([(0, [1, 0, 0]), (2, [1, 0, 0]), (1, [0])].map (toItem (Tryz.f126.body.getD .skip))) [(0, .pointer l), (2, .int .i64 s)] w := by
  obtain ⟨I, m, hBase, hr⟩ := h
  refine KW.loop (fun m σ w => ∃ (l : Option Addr) (s : Int), σ = [(0, .pointer l), (2, .int .i64 s)] ∧ I m l s w) ?_ m _ w ⟨l, s, rfl, hBase⟩
  rintro m ih σ w ⟨l, s, rfl, hI⟩
  exact rlog_Log_sweep.L1b_sound  (N1 := fun l' s' w' => ∃ m', m' < m ∧ I m' l' s' w') (fun l' s' w' hx => by obtain ⟨m', hlt, hI'⟩ := hx; exact ih m' hlt _ w' ⟨l', s', rfl, hI'⟩) l s w (hr m l s w hI)
def rlog_Log_sweep.B0 (l : Option Addr) (w : World)   (R : World → Prop) : Prop :=
  rlog_Log_sweep.L1 l (0 : Int) w  R
theorem rlog_Log_sweep.B0_eq (l : Option Addr) (w : World)   (R : World → Prop) (sL1 : Option Addr → Int → World → Prop) :
    (
  sL1 l (0 : Int) w) = kstep Tryz.prog 32 Tryz.f126.results.toList (Tryz.f126.body.getD .skip) (rlog_Log_sweep.RV R) (kvc Tryz.prog 32 Tryz.f126.results.toList (Tryz.f126.body.getD .skip) (rlog_Log_sweep.RV R) [([(0, [1, 0, 0]), (2, [1, 0, 0]), (1, [0])], fun σ w => dP (slotOf σ 0) fun l_ => dI .i64 (slotOf σ 2) fun s_ => sL1 l_ s_ w)] 2000) [(0, [])] [(0, .pointer l)] w := by kernel_rfl
theorem rlog_Log_sweep.B0_sound {R : World → Prop}  (l : Option Addr) (w : World) (h : rlog_Log_sweep.B0 l w   R) :
    KW Tryz.prog 126 32 (rlog_Log_sweep.RV R) ([(0, [])].map (toItem (Tryz.f126.body.getD .skip))) [(0, .pointer l)] w := by
  exact block_spec Tryz.func126 Tryz.mixed (stops_cons (fun σ w h => by
      obtain ⟨l_, e0, h⟩ := dP_elim h
      obtain ⟨s_, e1, h⟩ := dI_elim h
      exact (rlog_Log_sweep.L1_sound  l_ s_ w h).weaken (Sub.cons (Sub.cons (Sub.nil _) e1) e0)) stops_nil) (Eq.mp (rlog_Log_sweep.B0_eq l w   R (fun l_ s_ w => rlog_Log_sweep.L1 l_ s_ w  R)) h)
theorem rlog_Log_sweep.sound (l : Option Addr) (w : World) (R : World → Prop) (h : rlog_Log_sweep.B0 l w R) : rlog_Log_sweep.Call l w R := by
  have hc := calls_of_block (args := #[.pointer l]) Tryz.func126 (body := (Tryz.f126.body.getD .skip)) (by kernel_rfl) (by kernel_rfl) (args_slot _) (rlog_Log_sweep.B0_sound l w h)
  exact hc.mono fun e w' he => by
    obtain ⟨v, rfl, hv⟩ := he
    exact rlog_Log_sweep.RV_elim hv
end Go.Proofs.Qxb6500430aGreat
