import Derived.Test.Qxb6500432aSig
set_option maxRecDepth 100000
set_option linter.unusedVariables false
open Go.Vc
namespace Go.Proofs.Qxb6500432a
def store_Store_SetMeta.B1 (t : Option Addr) (term vote : Int) (t21 : Bool) (w : World)   (R : Int → World → Prop) : Prop :=
  Bm t21 (
    R (1 : Int) w) (
    Pn t fun a =>
    LdI .i64 ((a.add 15).add 1) w fun x27 =>
    Pn t fun a_1 =>
    Sts [.bool true, .int .i64 (IntKind.i64.wrap (x27 + (1 : Int))), .int .i64 term, .int .i64 vote] (a_1.add 15) 0 w fun w1 =>
    Pn t fun a_2 =>
    LdI .i64 (a_2.add 19) w1 fun x38 =>
    Pn t fun a_3 =>
    Sts [.int .i64 (IntKind.i64.wrap ((1 : Int) - x38))] (a_3.add 19) 0 w1 fun w2 =>
    Pn t fun a_4 =>
    LdB (a_4.add 15) w2 fun x45_0 =>
    LdI .i64 ((a_4.add 15).add 1) w2 fun x45_1 =>
    LdI .i64 ((a_4.add 15).add 2) w2 fun x45_2 =>
    LdI .i64 ((a_4.add 15).add 3) w2 fun x45_3 =>
    store_encMeta.Call x45_0 x45_1 x45_2 x45_3 w2 fun r46_b r46_l r46_c w3 =>
    Pn t fun a_5 =>
    LdI .i64 (a_5.add 19) w3 fun x51 =>
    store_Store_write.Call t (IntKind.i64.wrap ((0 : Int) + x51)) r46_b r46_l r46_c w3 fun w4 =>
    R (0 : Int) w4)
theorem store_Store_SetMeta.B1_eq (t : Option Addr) (term vote : Int) (t21 : Bool) (w : World)   (R : Int → World → Prop)  :
    (
  Bm t21 (
    R (1 : Int) w) (
    Pn t fun a =>
    LdI .i64 ((a.add 15).add 1) w fun x27 =>
    Pn t fun a_1 =>
    Sts [.bool true, .int .i64 (IntKind.i64.wrap (x27 + (1 : Int))), .int .i64 term, .int .i64 vote] (a_1.add 15) 0 w fun w1 =>
    Pn t fun a_2 =>
    LdI .i64 (a_2.add 19) w1 fun x38 =>
    Pn t fun a_3 =>
    Sts [.int .i64 (IntKind.i64.wrap ((1 : Int) - x38))] (a_3.add 19) 0 w1 fun w2 =>
    Pn t fun a_4 =>
    LdB (a_4.add 15) w2 fun x45_0 =>
    LdI .i64 ((a_4.add 15).add 1) w2 fun x45_1 =>
    LdI .i64 ((a_4.add 15).add 2) w2 fun x45_2 =>
    LdI .i64 ((a_4.add 15).add 3) w2 fun x45_3 =>
    store_encMeta.Call x45_0 x45_1 x45_2 x45_3 w2 fun r46_b r46_l r46_c w3 =>
    Pn t fun a_5 =>
    LdI .i64 (a_5.add 19) w3 fun x51 =>
    store_Store_write.Call t (IntKind.i64.wrap ((0 : Int) + x51)) r46_b r46_l r46_c w3 fun w4 =>
    R (0 : Int) w4)) = kstep Try.prog 55 Try.f44.results.toList (Try.f44.body.getD .skip) (store_Store_SetMeta.RV R) (kvc Try.prog 55 Try.f44.results.toList (Try.f44.body.getD .skip) (store_Store_SetMeta.RV R) [] 2000) [(0, [1, 0, 1]), (0, [1, 1])] [(0, .pointer t), (1, .int .i64 term), (2, .int .i64 vote), (21, .bool t21)] w := by kernel_rfl
theorem store_Store_SetMeta.B1_sound {R : Int → World → Prop}  (t : Option Addr) (term vote : Int) (t21 : Bool) (w : World) (h : store_Store_SetMeta.B1 t term vote t21 w   R) :
    KW Try.prog 44 55 (store_Store_SetMeta.RV R) ([(0, [1, 0, 1]), (0, [1, 1])].map (toItem (Try.f44.body.getD .skip))) [(0, .pointer t), (1, .int .i64 term), (2, .int .i64 vote), (21, .bool t21)] w := by
  exact block_spec Try.func44 Try.mixed stops_nil (Eq.mp (store_Store_SetMeta.B1_eq t term vote t21 w   R ) h)
def store_Store_SetMeta.B0 (t : Option Addr) (term vote : Int) (w : World)   (R : Int → World → Prop) : Prop :=
  Bm (decide (term < (0 : Int))) (
    store_Store_SetMeta.B1 t term vote true w  R) (
    Bm (decide (term > (72057594037927936 : Int))) (
      store_Store_SetMeta.B1 t term vote true w  R) (
      Bm (decide (vote < (-1 : Int))) (
        store_Store_SetMeta.B1 t term vote true w  R) (
        store_Store_SetMeta.B1 t term vote (decide (vote ≥ (3 : Int))) w  R)))
theorem store_Store_SetMeta.B0_eq (t : Option Addr) (term vote : Int) (w : World)   (R : Int → World → Prop) (sB1 : Option Addr → Int → Int → Bool → World → Prop) :
    (
  Bm (decide (term < (0 : Int))) (
    sB1 t term vote true w) (
    Bm (decide (term > (72057594037927936 : Int))) (
      sB1 t term vote true w) (
      Bm (decide (vote < (-1 : Int))) (
        sB1 t term vote true w) (
        sB1 t term vote (decide (vote ≥ (3 : Int))) w)))) = kstep Try.prog 55 Try.f44.results.toList (Try.f44.body.getD .skip) (store_Store_SetMeta.RV R) (kvc Try.prog 55 Try.f44.results.toList (Try.f44.body.getD .skip) (store_Store_SetMeta.RV R) [([(0, [1, 0, 1]), (0, [1, 1])], fun σ w => dP (slotOf σ 0) fun t_ => dI .i64 (slotOf σ 1) fun term_ => dI .i64 (slotOf σ 2) fun vote_ => dB (slotOf σ 21) fun t21_ => sB1 t_ term_ vote_ t21_ w)] 2000) [(0, [])] [(0, .pointer t), (1, .int .i64 term), (2, .int .i64 vote)] w := by kernel_rfl
theorem store_Store_SetMeta.B0_sound {R : Int → World → Prop}  (t : Option Addr) (term vote : Int) (w : World) (h : store_Store_SetMeta.B0 t term vote w   R) :
    KW Try.prog 44 55 (store_Store_SetMeta.RV R) ([(0, [])].map (toItem (Try.f44.body.getD .skip))) [(0, .pointer t), (1, .int .i64 term), (2, .int .i64 vote)] w := by
  exact block_spec Try.func44 Try.mixed (stops_cons (fun σ w h => by
      obtain ⟨t_, e0, h⟩ := dP_elim h
      obtain ⟨term_, e1, h⟩ := dI_elim h
      obtain ⟨vote_, e2, h⟩ := dI_elim h
      obtain ⟨t21_, e3, h⟩ := dB_elim h
      exact (store_Store_SetMeta.B1_sound  t_ term_ vote_ t21_ w h).weaken (Sub.cons (Sub.cons (Sub.cons (Sub.cons (Sub.nil _) e3) e2) e1) e0)) stops_nil) (Eq.mp (store_Store_SetMeta.B0_eq t term vote w   R (fun t_ term_ vote_ t21_ w => store_Store_SetMeta.B1 t_ term_ vote_ t21_ w  R)) h)
theorem store_Store_SetMeta.sound (t : Option Addr) (term vote : Int) (w : World) (R : Int → World → Prop) (h : store_Store_SetMeta.B0 t term vote w R) : store_Store_SetMeta.Call t term vote w R := by
  have hc := calls_of_block (args := #[.pointer t, .int .i64 term, .int .i64 vote]) Try.func44 (body := (Try.f44.body.getD .skip)) (by kernel_rfl) (by kernel_rfl) (args_slot _) (store_Store_SetMeta.B0_sound t term vote w h)
  exact hc.mono fun e w' he => by
    obtain ⟨v, rfl, hv⟩ := he
    exact store_Store_SetMeta.RV_elim hv
def storem_Store_SetMeta.B1 (t : Option Addr) (term vote : Int) (t20 : Bool) (w : World)   (R : Int → World → Prop) : Prop :=
  Bm t20 (
    R (1 : Int) w) (
    Pn t fun a =>
    LdP a w.drew fun x24 =>
    Pn t fun a_1 =>
    LdP a_1 w.drew fun x28 =>
    Pn x24 fun a_2 =>
    Sts [.int .i64 term] a_2 0 w.drew fun w1 =>
    Pn x28 fun a_3 =>
    Sts [.int .i64 vote] (a_3.add 1) 0 w1 fun w2 =>
    storem_Store_step.Call t w2 fun w3 =>
    R (0 : Int) w3)
theorem storem_Store_SetMeta.B1_eq (t : Option Addr) (term vote : Int) (t20 : Bool) (w : World)   (R : Int → World → Prop)  :
    (
  Bm t20 (
    R (1 : Int) w) (
    Pn t fun a =>
    LdP a w.drew fun x24 =>
    Pn t fun a_1 =>
    LdP a_1 w.drew fun x28 =>
    Pn x24 fun a_2 =>
    Sts [.int .i64 term] a_2 0 w.drew fun w1 =>
    Pn x28 fun a_3 =>
    Sts [.int .i64 vote] (a_3.add 1) 0 w1 fun w2 =>
    storem_Store_step.Call t w2 fun w3 =>
    R (0 : Int) w3)) = kstep Try.prog 37 Try.f45.results.toList (Try.f45.body.getD .skip) (storem_Store_SetMeta.RV R) (kvc Try.prog 37 Try.f45.results.toList (Try.f45.body.getD .skip) (storem_Store_SetMeta.RV R) [] 2000) [(0, [1, 0, 1]), (0, [1, 1])] [(0, .pointer t), (1, .int .i64 term), (2, .int .i64 vote), (20, .bool t20)] w := by kernel_rfl
theorem storem_Store_SetMeta.B1_sound {R : Int → World → Prop}  (t : Option Addr) (term vote : Int) (t20 : Bool) (w : World) (h : storem_Store_SetMeta.B1 t term vote t20 w   R) :
    KW Try.prog 45 37 (storem_Store_SetMeta.RV R) ([(0, [1, 0, 1]), (0, [1, 1])].map (toItem (Try.f45.body.getD .skip))) [(0, .pointer t), (1, .int .i64 term), (2, .int .i64 vote), (20, .bool t20)] w := by
  exact block_spec Try.func45 Try.mixed stops_nil (Eq.mp (storem_Store_SetMeta.B1_eq t term vote t20 w   R ) h)
def storem_Store_SetMeta.B0 (t : Option Addr) (term vote : Int) (w : World)   (R : Int → World → Prop) : Prop :=
  Bm (decide (term < (0 : Int))) (
    storem_Store_SetMeta.B1 t term vote true w  R) (
    Bm (decide (term > (72057594037927936 : Int))) (
      storem_Store_SetMeta.B1 t term vote true w  R) (
      Bm (decide (vote < (-1 : Int))) (
        storem_Store_SetMeta.B1 t term vote true w  R) (
        storem_Store_SetMeta.B1 t term vote (decide (vote ≥ (3 : Int))) w  R)))
theorem storem_Store_SetMeta.B0_eq (t : Option Addr) (term vote : Int) (w : World)   (R : Int → World → Prop) (sB1 : Option Addr → Int → Int → Bool → World → Prop) :
    (
  Bm (decide (term < (0 : Int))) (
    sB1 t term vote true w) (
    Bm (decide (term > (72057594037927936 : Int))) (
      sB1 t term vote true w) (
      Bm (decide (vote < (-1 : Int))) (
        sB1 t term vote true w) (
        sB1 t term vote (decide (vote ≥ (3 : Int))) w)))) = kstep Try.prog 37 Try.f45.results.toList (Try.f45.body.getD .skip) (storem_Store_SetMeta.RV R) (kvc Try.prog 37 Try.f45.results.toList (Try.f45.body.getD .skip) (storem_Store_SetMeta.RV R) [([(0, [1, 0, 1]), (0, [1, 1])], fun σ w => dP (slotOf σ 0) fun t_ => dI .i64 (slotOf σ 1) fun term_ => dI .i64 (slotOf σ 2) fun vote_ => dB (slotOf σ 20) fun t20_ => sB1 t_ term_ vote_ t20_ w)] 2000) [(0, [])] [(0, .pointer t), (1, .int .i64 term), (2, .int .i64 vote)] w := by kernel_rfl
theorem storem_Store_SetMeta.B0_sound {R : Int → World → Prop}  (t : Option Addr) (term vote : Int) (w : World) (h : storem_Store_SetMeta.B0 t term vote w   R) :
    KW Try.prog 45 37 (storem_Store_SetMeta.RV R) ([(0, [])].map (toItem (Try.f45.body.getD .skip))) [(0, .pointer t), (1, .int .i64 term), (2, .int .i64 vote)] w := by
  exact block_spec Try.func45 Try.mixed (stops_cons (fun σ w h => by
      obtain ⟨t_, e0, h⟩ := dP_elim h
      obtain ⟨term_, e1, h⟩ := dI_elim h
      obtain ⟨vote_, e2, h⟩ := dI_elim h
      obtain ⟨t20_, e3, h⟩ := dB_elim h
      exact (storem_Store_SetMeta.B1_sound  t_ term_ vote_ t20_ w h).weaken (Sub.cons (Sub.cons (Sub.cons (Sub.cons (Sub.nil _) e3) e2) e1) e0)) stops_nil) (Eq.mp (storem_Store_SetMeta.B0_eq t term vote w   R (fun t_ term_ vote_ t20_ w => storem_Store_SetMeta.B1 t_ term_ vote_ t20_ w  R)) h)
theorem storem_Store_SetMeta.sound (t : Option Addr) (term vote : Int) (w : World) (R : Int → World → Prop) (h : storem_Store_SetMeta.B0 t term vote w R) : storem_Store_SetMeta.Call t term vote w R := by
  have hc := calls_of_block (args := #[.pointer t, .int .i64 term, .int .i64 vote]) Try.func45 (body := (Try.f45.body.getD .skip)) (by kernel_rfl) (by kernel_rfl) (args_slot _) (storem_Store_SetMeta.B0_sound t term vote w h)
  exact hc.mono fun e w' he => by
    obtain ⟨v, rfl, hv⟩ := he
    exact storem_Store_SetMeta.RV_elim hv
def store_Store_SetSnap.L1b (t : Option Addr) (idx term : Int) (data : ByteArray) (a k : Int) (w : World)  (N1 : Option Addr → Int → Int → ByteArray → Int → Int → World → Prop) (R : Int → World → Prop) : Prop :=
  Bm (decide ((IntKind.i64.wrap (k * (64 : Int))) < ((data.size : Nat) : Int))) (
    store_chunk.Call data k w fun r45 w1 =>
    Pn t fun a_1 =>
    LdP a_1 w1 fun x49 =>
    diskm_Disk_Write.Call x49 (IntKind.i64.wrap ((IntKind.i64.wrap ((4 : Int) + (IntKind.i64.wrap (a * (2 : Int))))) + k)) r45 w1 fun r56 w2 =>
    N1 t idx term data a (IntKind.i64.wrap (k + (1 : Int))) w2) (
    Pn t fun a_2 =>
    LdI .i64 ((a_2.add 20).add 1) w fun x62 =>
    Pn t fun a_3 =>
    Sts [.bool true, .int .i64 (IntKind.i64.wrap (x62 + (1 : Int))), .int .i64 idx, .int .i64 term, .int .i64 a, .int .i64 ((data.size : Nat) : Int)] (a_3.add 20) 0 w fun w3 =>
    Pn t fun a_4 =>
    LdI .i64 (a_4.add 26) w3 fun x76 =>
    Pn t fun a_5 =>
    Sts [.int .i64 (IntKind.i64.wrap ((1 : Int) - x76))] (a_5.add 26) 0 w3 fun w4 =>
    Pn t fun a_6 =>
    Sts [.string data] (a_6.add 27) 0 w4 fun w5 =>
    Pn t fun a_7 =>
    LdB (a_7.add 20) w5 fun x87_0 =>
    LdI .i64 ((a_7.add 20).add 1) w5 fun x87_1 =>
    LdI .i64 ((a_7.add 20).add 2) w5 fun x87_2 =>
    LdI .i64 ((a_7.add 20).add 3) w5 fun x87_3 =>
    LdI .i64 ((a_7.add 20).add 4) w5 fun x87_4 =>
    LdI .i64 ((a_7.add 20).add 5) w5 fun x87_5 =>
    store_encHead.Call x87_0 x87_1 x87_2 x87_3 x87_4 x87_5 w5 fun r88_b r88_l r88_c w6 =>
    Pn t fun a_8 =>
    LdI .i64 (a_8.add 26) w6 fun x93 =>
    store_Store_write.Call t (IntKind.i64.wrap ((2 : Int) + x93)) r88_b r88_l r88_c w6 fun w7 =>
    R (0 : Int) w7)
theorem store_Store_SetSnap.L1b_eq (t : Option Addr) (idx term : Int) (data : ByteArray) (a k : Int) (w : World)  (N1 : Option Addr → Int → Int → ByteArray → Int → Int → World → Prop) (R : Int → World → Prop)  :
    (
  Bm (decide ((IntKind.i64.wrap (k * (64 : Int))) < ((data.size : Nat) : Int))) (
    store_chunk.Call data k w fun r45 w1 =>
    Pn t fun a_1 =>
    LdP a_1 w1 fun x49 =>
    diskm_Disk_Write.Call x49 (IntKind.i64.wrap ((IntKind.i64.wrap ((4 : Int) + (IntKind.i64.wrap (a * (2 : Int))))) + k)) r45 w1 fun r56 w2 =>
    N1 t idx term data a (IntKind.i64.wrap (k + (1 : Int))) w2) (
    Pn t fun a_2 =>
    LdI .i64 ((a_2.add 20).add 1) w fun x62 =>
    Pn t fun a_3 =>
    Sts [.bool true, .int .i64 (IntKind.i64.wrap (x62 + (1 : Int))), .int .i64 idx, .int .i64 term, .int .i64 a, .int .i64 ((data.size : Nat) : Int)] (a_3.add 20) 0 w fun w3 =>
    Pn t fun a_4 =>
    LdI .i64 (a_4.add 26) w3 fun x76 =>
    Pn t fun a_5 =>
    Sts [.int .i64 (IntKind.i64.wrap ((1 : Int) - x76))] (a_5.add 26) 0 w3 fun w4 =>
    Pn t fun a_6 =>
    Sts [.string data] (a_6.add 27) 0 w4 fun w5 =>
    Pn t fun a_7 =>
    LdB (a_7.add 20) w5 fun x87_0 =>
    LdI .i64 ((a_7.add 20).add 1) w5 fun x87_1 =>
    LdI .i64 ((a_7.add 20).add 2) w5 fun x87_2 =>
    LdI .i64 ((a_7.add 20).add 3) w5 fun x87_3 =>
    LdI .i64 ((a_7.add 20).add 4) w5 fun x87_4 =>
    LdI .i64 ((a_7.add 20).add 5) w5 fun x87_5 =>
    store_encHead.Call x87_0 x87_1 x87_2 x87_3 x87_4 x87_5 w5 fun r88_b r88_l r88_c w6 =>
    Pn t fun a_8 =>
    LdI .i64 (a_8.add 26) w6 fun x93 =>
    store_Store_write.Call t (IntKind.i64.wrap ((2 : Int) + x93)) r88_b r88_l r88_c w6 fun w7 =>
    R (0 : Int) w7)) = kstep Try.prog 97 Try.f46.results.toList (Try.f46.body.getD .skip) (store_Store_SetSnap.RV R) (kvc Try.prog 97 Try.f46.results.toList (Try.f46.body.getD .skip) (store_Store_SetSnap.RV R) [([(0, [1, 1, 1, 1, 0, 1, 0, 0]), (2, [1, 1, 1, 1, 0, 1, 0, 0]), (1, [0]), (0, [1, 1, 1, 1, 1])], fun σ w => dP (slotOf σ 0) fun t_ => dI .i64 (slotOf σ 1) fun idx_ => dI .i64 (slotOf σ 2) fun term_ => dS (slotOf σ 3) fun data_ => dI .i64 (slotOf σ 9) fun a_ => dI .i64 (slotOf σ 10) fun k_ => N1 t_ idx_ term_ data_ a_ k_ w)] 2000) [(0, [1, 1, 1, 1, 0, 1, 0, 0]), (2, [1, 1, 1, 1, 0, 1, 0, 0]), (1, [0]), (0, [1, 1, 1, 1, 1])] [(0, .pointer t), (1, .int .i64 idx), (2, .int .i64 term), (3, .string data), (9, .int .i64 a), (10, .int .i64 k)] w := by kernel_rfl
theorem store_Store_SetSnap.L1b_sound {R : Int → World → Prop} {N1 : Option Addr → Int → Int → ByteArray → Int → Int → World → Prop} (hN1 : ∀ t idx term data a k w, N1 t idx term data a k w → KW Try.prog 46 97 (store_Store_SetSnap.RV R) ([(0, [1, 1, 1, 1, 0, 1, 0, 0]), (2, [1, 1, 1, 1, 0, 1, 0, 0]), (1, [0]), (0, [1, 1, 1, 1, 1])].map (toItem (Try.f46.body.getD .skip))) [(0, .pointer t), (1, .int .i64 idx), (2, .int .i64 term), (3, .string data), (9, .int .i64 a), (10, .int .i64 k)] w) (t : Option Addr) (idx term : Int) (data : ByteArray) (a k : Int) (w : World) (h : store_Store_SetSnap.L1b t idx term data a k w  N1 R) :
    KW Try.prog 46 97 (store_Store_SetSnap.RV R) ([(0, [1, 1, 1, 1, 0, 1, 0, 0]), (2, [1, 1, 1, 1, 0, 1, 0, 0]), (1, [0]), (0, [1, 1, 1, 1, 1])].map (toItem (Try.f46.body.getD .skip))) [(0, .pointer t), (1, .int .i64 idx), (2, .int .i64 term), (3, .string data), (9, .int .i64 a), (10, .int .i64 k)] w := by
  exact block_spec Try.func46 Try.mixed (stops_cons (fun σ w h => by
      obtain ⟨t_, e0, h⟩ := dP_elim h
      obtain ⟨idx_, e1, h⟩ := dI_elim h
      obtain ⟨term_, e2, h⟩ := dI_elim h
      obtain ⟨data_, e3, h⟩ := dS_elim h
      obtain ⟨a_, e4, h⟩ := dI_elim h
      obtain ⟨k_, e5, h⟩ := dI_elim h
      exact (hN1 t_ idx_ term_ data_ a_ k_ w h).weaken (Sub.cons (Sub.cons (Sub.cons (Sub.cons (Sub.cons (Sub.cons (Sub.nil _) e5) e4) e3) e2) e1) e0)) stops_nil) (Eq.mp (store_Store_SetSnap.L1b_eq t idx term data a k w  N1 R ) h)
def store_Store_SetSnap.L1 (t : Option Addr) (idx term : Int) (data : ByteArray) (a k : Int) (w : World)  (R : Int → World → Prop) : Prop :=
  ∃ (I : Nat → Option Addr → Int → Int → ByteArray → Int → Int → World → Prop) (m : Nat), I m t idx term data a k w ∧ ∀ m t idx term data a k w, I m t idx term data a k w → store_Store_SetSnap.L1b t idx term data a k w  (fun t' idx' term' data' a' k' w' => ∃ m', m' < m ∧ I m' t' idx' term' data' a' k' w') R
theorem store_Store_SetSnap.L1_sound {R : Int → World → Prop}  (t : Option Addr) (idx term : Int) (data : ByteArray) (a k : Int) (w : World) (h : store_Store_SetSnap.L1 t idx term data a k w  R) :
    KW Try.prog 46 97 (store_Store_SetSnap.RV R) ([(0, [1, 1, 1, 1, 0, 1, 0, 0]), (2, [1, 1, 1, 1, 0, 1, 0, 0]), (1, [0]), (0, [1, 1, 1, 1, 1])].map (toItem (Try.f46.body.getD .skip))) [(0, .pointer t), (1, .int .i64 idx), (2, .int .i64 term), (3, .string data), (9, .int .i64 a), (10, .int .i64 k)] w := by
  obtain ⟨I, m, h0, hr⟩ := h
  refine KW.loop (fun m σ w => ∃ (t : Option Addr) (idx term : Int) (data : ByteArray) (a k : Int), σ = [(0, .pointer t), (1, .int .i64 idx), (2, .int .i64 term), (3, .string data), (9, .int .i64 a), (10, .int .i64 k)] ∧ I m t idx term data a k w) ?_ m _ w ⟨t, idx, term, data, a, k, rfl, h0⟩
  rintro m ih σ w ⟨t, idx, term, data, a, k, rfl, hI⟩
  exact store_Store_SetSnap.L1b_sound  (N1 := fun t' idx' term' data' a' k' w' => ∃ m', m' < m ∧ I m' t' idx' term' data' a' k' w') (fun t' idx' term' data' a' k' w' hx => by obtain ⟨m', hlt, hI'⟩ := hx; exact ih m' hlt _ w' ⟨t', idx', term', data', a', k', rfl, hI'⟩) t idx term data a k w (hr m t idx term data a k w hI)
def store_Store_SetSnap.B1 (t : Option Addr) (idx term : Int) (data : ByteArray) (t26 : Bool) (w : World)   (R : Int → World → Prop) : Prop :=
  Bm t26 (
    R (1 : Int) w) (
    Bm (decide (((data.size : Nat) : Int) > (128 : Int))) (
      R (5 : Int) w) (
      Pn t fun a =>
      LdI .i64 ((a.add 20).add 4) w fun x34 =>
      store_Store_SetSnap.L1 t idx term data (IntKind.i64.wrap ((1 : Int) - x34)) (0 : Int) w  R))
theorem store_Store_SetSnap.B1_eq (t : Option Addr) (idx term : Int) (data : ByteArray) (t26 : Bool) (w : World)   (R : Int → World → Prop) (sL1 : Option Addr → Int → Int → ByteArray → Int → Int → World → Prop) :
    (
  Bm t26 (
    R (1 : Int) w) (
    Bm (decide (((data.size : Nat) : Int) > (128 : Int))) (
      R (5 : Int) w) (
      Pn t fun a =>
      LdI .i64 ((a.add 20).add 4) w fun x34 =>
      sL1 t idx term data (IntKind.i64.wrap ((1 : Int) - x34)) (0 : Int) w))) = kstep Try.prog 97 Try.f46.results.toList (Try.f46.body.getD .skip) (store_Store_SetSnap.RV R) (kvc Try.prog 97 Try.f46.results.toList (Try.f46.body.getD .skip) (store_Store_SetSnap.RV R) [([(0, [1, 1, 1, 1, 0, 1, 0, 0]), (2, [1, 1, 1, 1, 0, 1, 0, 0]), (1, [0]), (0, [1, 1, 1, 1, 1])], fun σ w => dP (slotOf σ 0) fun t_ => dI .i64 (slotOf σ 1) fun idx_ => dI .i64 (slotOf σ 2) fun term_ => dS (slotOf σ 3) fun data_ => dI .i64 (slotOf σ 9) fun a_ => dI .i64 (slotOf σ 10) fun k_ => sL1 t_ idx_ term_ data_ a_ k_ w)] 2000) [(0, [1, 0, 1]), (0, [1, 1])] [(0, .pointer t), (1, .int .i64 idx), (2, .int .i64 term), (3, .string data), (26, .bool t26)] w := by kernel_rfl
theorem store_Store_SetSnap.B1_sound {R : Int → World → Prop}  (t : Option Addr) (idx term : Int) (data : ByteArray) (t26 : Bool) (w : World) (h : store_Store_SetSnap.B1 t idx term data t26 w   R) :
    KW Try.prog 46 97 (store_Store_SetSnap.RV R) ([(0, [1, 0, 1]), (0, [1, 1])].map (toItem (Try.f46.body.getD .skip))) [(0, .pointer t), (1, .int .i64 idx), (2, .int .i64 term), (3, .string data), (26, .bool t26)] w := by
  exact block_spec Try.func46 Try.mixed (stops_cons (fun σ w h => by
      obtain ⟨t_, e0, h⟩ := dP_elim h
      obtain ⟨idx_, e1, h⟩ := dI_elim h
      obtain ⟨term_, e2, h⟩ := dI_elim h
      obtain ⟨data_, e3, h⟩ := dS_elim h
      obtain ⟨a_, e4, h⟩ := dI_elim h
      obtain ⟨k_, e5, h⟩ := dI_elim h
      exact (store_Store_SetSnap.L1_sound  t_ idx_ term_ data_ a_ k_ w h).weaken (Sub.cons (Sub.cons (Sub.cons (Sub.cons (Sub.cons (Sub.cons (Sub.nil _) e5) e4) e3) e2) e1) e0)) stops_nil) (Eq.mp (store_Store_SetSnap.B1_eq t idx term data t26 w   R (fun t_ idx_ term_ data_ a_ k_ w => store_Store_SetSnap.L1 t_ idx_ term_ data_ a_ k_ w  R)) h)
def store_Store_SetSnap.B0 (t : Option Addr) (idx term : Int) (data : ByteArray) (w : World)   (R : Int → World → Prop) : Prop :=
  Bm (decide (idx < (0 : Int))) (
    store_Store_SetSnap.B1 t idx term data true w  R) (
    Bm (decide (idx > (72057594037927936 : Int))) (
      store_Store_SetSnap.B1 t idx term data true w  R) (
      Bm (decide (term < (0 : Int))) (
        store_Store_SetSnap.B1 t idx term data true w  R) (
        store_Store_SetSnap.B1 t idx term data (decide (term > (72057594037927936 : Int))) w  R)))
theorem store_Store_SetSnap.B0_eq (t : Option Addr) (idx term : Int) (data : ByteArray) (w : World)   (R : Int → World → Prop) (sB1 : Option Addr → Int → Int → ByteArray → Bool → World → Prop) :
    (
  Bm (decide (idx < (0 : Int))) (
    sB1 t idx term data true w) (
    Bm (decide (idx > (72057594037927936 : Int))) (
      sB1 t idx term data true w) (
      Bm (decide (term < (0 : Int))) (
        sB1 t idx term data true w) (
        sB1 t idx term data (decide (term > (72057594037927936 : Int))) w)))) = kstep Try.prog 97 Try.f46.results.toList (Try.f46.body.getD .skip) (store_Store_SetSnap.RV R) (kvc Try.prog 97 Try.f46.results.toList (Try.f46.body.getD .skip) (store_Store_SetSnap.RV R) [([(0, [1, 0, 1]), (0, [1, 1])], fun σ w => dP (slotOf σ 0) fun t_ => dI .i64 (slotOf σ 1) fun idx_ => dI .i64 (slotOf σ 2) fun term_ => dS (slotOf σ 3) fun data_ => dB (slotOf σ 26) fun t26_ => sB1 t_ idx_ term_ data_ t26_ w)] 2000) [(0, [])] [(0, .pointer t), (1, .int .i64 idx), (2, .int .i64 term), (3, .string data)] w := by kernel_rfl
theorem store_Store_SetSnap.B0_sound {R : Int → World → Prop}  (t : Option Addr) (idx term : Int) (data : ByteArray) (w : World) (h : store_Store_SetSnap.B0 t idx term data w   R) :
    KW Try.prog 46 97 (store_Store_SetSnap.RV R) ([(0, [])].map (toItem (Try.f46.body.getD .skip))) [(0, .pointer t), (1, .int .i64 idx), (2, .int .i64 term), (3, .string data)] w := by
  exact block_spec Try.func46 Try.mixed (stops_cons (fun σ w h => by
      obtain ⟨t_, e0, h⟩ := dP_elim h
      obtain ⟨idx_, e1, h⟩ := dI_elim h
      obtain ⟨term_, e2, h⟩ := dI_elim h
      obtain ⟨data_, e3, h⟩ := dS_elim h
      obtain ⟨t26_, e4, h⟩ := dB_elim h
      exact (store_Store_SetSnap.B1_sound  t_ idx_ term_ data_ t26_ w h).weaken (Sub.cons (Sub.cons (Sub.cons (Sub.cons (Sub.cons (Sub.nil _) e4) e3) e2) e1) e0)) stops_nil) (Eq.mp (store_Store_SetSnap.B0_eq t idx term data w   R (fun t_ idx_ term_ data_ t26_ w => store_Store_SetSnap.B1 t_ idx_ term_ data_ t26_ w  R)) h)
theorem store_Store_SetSnap.sound (t : Option Addr) (idx term : Int) (data : ByteArray) (w : World) (R : Int → World → Prop) (h : store_Store_SetSnap.B0 t idx term data w R) : store_Store_SetSnap.Call t idx term data w R := by
  have hc := calls_of_block (args := #[.pointer t, .int .i64 idx, .int .i64 term, .string data]) Try.func46 (body := (Try.f46.body.getD .skip)) (by kernel_rfl) (by kernel_rfl) (args_slot _) (store_Store_SetSnap.B0_sound t idx term data w h)
  exact hc.mono fun e w' he => by
    obtain ⟨v, rfl, hv⟩ := he
    exact store_Store_SetSnap.RV_elim hv
def storem_Store_SetSnap.B1 (t : Option Addr) (idx term : Int) (data : ByteArray) (t22 : Bool) (w : World)   (R : Int → World → Prop) : Prop :=
  Bm t22 (
    R (1 : Int) w) (
    Bm (decide (((data.size : Nat) : Int) > (128 : Int))) (
      R (5 : Int) w) (
      Pn t fun a =>
      LdP a w.drew fun x29 =>
      Pn t fun a_1 =>
      LdP a_1 w.drew fun x33 =>
      Pn t fun a_2 =>
      LdP a_2 w.drew fun x37 =>
      Pn x29 fun a_3 =>
      Sts [.int .i64 idx] (a_3.add 2) 0 w.drew fun w1 =>
      Pn x33 fun a_4 =>
      Sts [.int .i64 term] (a_4.add 3) 0 w1 fun w2 =>
      Pn x37 fun a_5 =>
      Sts [.string data] (a_5.add 4) 0 w2 fun w3 =>
      storem_Store_step.Call t w3 fun w4 =>
      R (0 : Int) w4))
theorem storem_Store_SetSnap.B1_eq (t : Option Addr) (idx term : Int) (data : ByteArray) (t22 : Bool) (w : World)   (R : Int → World → Prop)  :
    (
  Bm t22 (
    R (1 : Int) w) (
    Bm (decide (((data.size : Nat) : Int) > (128 : Int))) (
      R (5 : Int) w) (
      Pn t fun a =>
      LdP a w.drew fun x29 =>
      Pn t fun a_1 =>
      LdP a_1 w.drew fun x33 =>
      Pn t fun a_2 =>
      LdP a_2 w.drew fun x37 =>
      Pn x29 fun a_3 =>
      Sts [.int .i64 idx] (a_3.add 2) 0 w.drew fun w1 =>
      Pn x33 fun a_4 =>
      Sts [.int .i64 term] (a_4.add 3) 0 w1 fun w2 =>
      Pn x37 fun a_5 =>
      Sts [.string data] (a_5.add 4) 0 w2 fun w3 =>
      storem_Store_step.Call t w3 fun w4 =>
      R (0 : Int) w4))) = kstep Try.prog 49 Try.f47.results.toList (Try.f47.body.getD .skip) (storem_Store_SetSnap.RV R) (kvc Try.prog 49 Try.f47.results.toList (Try.f47.body.getD .skip) (storem_Store_SetSnap.RV R) [] 2000) [(0, [1, 0, 1]), (0, [1, 1])] [(0, .pointer t), (1, .int .i64 idx), (2, .int .i64 term), (3, .string data), (22, .bool t22)] w := by kernel_rfl
theorem storem_Store_SetSnap.B1_sound {R : Int → World → Prop}  (t : Option Addr) (idx term : Int) (data : ByteArray) (t22 : Bool) (w : World) (h : storem_Store_SetSnap.B1 t idx term data t22 w   R) :
    KW Try.prog 47 49 (storem_Store_SetSnap.RV R) ([(0, [1, 0, 1]), (0, [1, 1])].map (toItem (Try.f47.body.getD .skip))) [(0, .pointer t), (1, .int .i64 idx), (2, .int .i64 term), (3, .string data), (22, .bool t22)] w := by
  exact block_spec Try.func47 Try.mixed stops_nil (Eq.mp (storem_Store_SetSnap.B1_eq t idx term data t22 w   R ) h)
def storem_Store_SetSnap.B0 (t : Option Addr) (idx term : Int) (data : ByteArray) (w : World)   (R : Int → World → Prop) : Prop :=
  Bm (decide (idx < (0 : Int))) (
    storem_Store_SetSnap.B1 t idx term data true w  R) (
    Bm (decide (idx > (72057594037927936 : Int))) (
      storem_Store_SetSnap.B1 t idx term data true w  R) (
      Bm (decide (term < (0 : Int))) (
        storem_Store_SetSnap.B1 t idx term data true w  R) (
        storem_Store_SetSnap.B1 t idx term data (decide (term > (72057594037927936 : Int))) w  R)))
theorem storem_Store_SetSnap.B0_eq (t : Option Addr) (idx term : Int) (data : ByteArray) (w : World)   (R : Int → World → Prop) (sB1 : Option Addr → Int → Int → ByteArray → Bool → World → Prop) :
    (
  Bm (decide (idx < (0 : Int))) (
    sB1 t idx term data true w) (
    Bm (decide (idx > (72057594037927936 : Int))) (
      sB1 t idx term data true w) (
      Bm (decide (term < (0 : Int))) (
        sB1 t idx term data true w) (
        sB1 t idx term data (decide (term > (72057594037927936 : Int))) w)))) = kstep Try.prog 49 Try.f47.results.toList (Try.f47.body.getD .skip) (storem_Store_SetSnap.RV R) (kvc Try.prog 49 Try.f47.results.toList (Try.f47.body.getD .skip) (storem_Store_SetSnap.RV R) [([(0, [1, 0, 1]), (0, [1, 1])], fun σ w => dP (slotOf σ 0) fun t_ => dI .i64 (slotOf σ 1) fun idx_ => dI .i64 (slotOf σ 2) fun term_ => dS (slotOf σ 3) fun data_ => dB (slotOf σ 22) fun t22_ => sB1 t_ idx_ term_ data_ t22_ w)] 2000) [(0, [])] [(0, .pointer t), (1, .int .i64 idx), (2, .int .i64 term), (3, .string data)] w := by kernel_rfl
theorem storem_Store_SetSnap.B0_sound {R : Int → World → Prop}  (t : Option Addr) (idx term : Int) (data : ByteArray) (w : World) (h : storem_Store_SetSnap.B0 t idx term data w   R) :
    KW Try.prog 47 49 (storem_Store_SetSnap.RV R) ([(0, [])].map (toItem (Try.f47.body.getD .skip))) [(0, .pointer t), (1, .int .i64 idx), (2, .int .i64 term), (3, .string data)] w := by
  exact block_spec Try.func47 Try.mixed (stops_cons (fun σ w h => by
      obtain ⟨t_, e0, h⟩ := dP_elim h
      obtain ⟨idx_, e1, h⟩ := dI_elim h
      obtain ⟨term_, e2, h⟩ := dI_elim h
      obtain ⟨data_, e3, h⟩ := dS_elim h
      obtain ⟨t22_, e4, h⟩ := dB_elim h
      exact (storem_Store_SetSnap.B1_sound  t_ idx_ term_ data_ t22_ w h).weaken (Sub.cons (Sub.cons (Sub.cons (Sub.cons (Sub.cons (Sub.nil _) e4) e3) e2) e1) e0)) stops_nil) (Eq.mp (storem_Store_SetSnap.B0_eq t idx term data w   R (fun t_ idx_ term_ data_ t22_ w => storem_Store_SetSnap.B1 t_ idx_ term_ data_ t22_ w  R)) h)
theorem storem_Store_SetSnap.sound (t : Option Addr) (idx term : Int) (data : ByteArray) (w : World) (R : Int → World → Prop) (h : storem_Store_SetSnap.B0 t idx term data w R) : storem_Store_SetSnap.Call t idx term data w R := by
  have hc := calls_of_block (args := #[.pointer t, .int .i64 idx, .int .i64 term, .string data]) Try.func47 (body := (Try.f47.body.getD .skip)) (by kernel_rfl) (by kernel_rfl) (args_slot _) (storem_Store_SetSnap.B0_sound t idx term data w h)
  exact hc.mono fun e w' he => by
    obtain ⟨v, rfl, hv⟩ := he
    exact storem_Store_SetSnap.RV_elim hv
def store_Store_PutRec.B2 (t : Option Addr) (slot : Int) (r : Nat) (t37 : Bool) (w : World)   (R : Int → World → Prop) : Prop :=
  Bm t37 (
    R (4 : Int) w) (
    Pn t fun a =>
    (0 ≤ slot ∧ slot < ((6 : Nat) : Int)) ∧
    LdB (Addr.add (a.add 28) (slot.toNat * 1)) w fun x43 =>
    Bm x43 (
      R (3 : Int) w) (
      LdI .i64 ⟨r, 0, none⟩ w.drew fun x48_0 =>
      LdI .i64 ⟨r, 1, none⟩ w.drew fun x48_1 =>
      LdS ⟨r, 2, none⟩ w.drew fun x48_2 =>
      Pn t fun a_1 =>
      (0 ≤ slot ∧ slot < ((6 : Nat) : Int)) ∧
      Pn t fun a_2 =>
      Sts [.bool true] (Addr.add (a_1.add 28) (slot.toNat * 1)) 0 w.drew fun w1 =>
      w1.cell? ⟨r, 0, none⟩ = some (.int .i64 x48_0) ∧
      w1.cell? ⟨r, 1, none⟩ = some (.int .i64 x48_1) ∧
      w1.cell? ⟨r, 2, none⟩ = some (.string x48_2) ∧
      (0 ≤ slot ∧ slot < ((6 : Nat) : Int)) ∧
      Sts [.int .i64 x48_0, .int .i64 x48_1, .string x48_2] (Addr.add (a_2.add 34) (slot.toNat * 3)) 0 w1 fun w2 =>
      LdI .i64 ⟨r, 0, none⟩ w2 fun x55_0 =>
      LdI .i64 ⟨r, 1, none⟩ w2 fun x55_1 =>
      LdS ⟨r, 2, none⟩ w2 fun x55_2 =>
      store_encRec.Call x55_0 x55_1 x55_2 w2 fun r56_b r56_l r56_c w3 =>
      store_Store_write.Call t (IntKind.i64.wrap ((8 : Int) + slot)) r56_b r56_l r56_c w3 fun w4 =>
      R (0 : Int) w4))
theorem store_Store_PutRec.B2_eq (t : Option Addr) (slot : Int) (r : Nat) (t37 : Bool) (w : World)   (R : Int → World → Prop)  :
    (
  Bm t37 (
    R (4 : Int) w) (
    Pn t fun a =>
    (0 ≤ slot ∧ slot < ((6 : Nat) : Int)) ∧
    LdB (Addr.add (a.add 28) (slot.toNat * 1)) w fun x43 =>
    Bm x43 (
      R (3 : Int) w) (
      LdI .i64 ⟨r, 0, none⟩ w.drew fun x48_0 =>
      LdI .i64 ⟨r, 1, none⟩ w.drew fun x48_1 =>
      LdS ⟨r, 2, none⟩ w.drew fun x48_2 =>
      Pn t fun a_1 =>
      (0 ≤ slot ∧ slot < ((6 : Nat) : Int)) ∧
      Pn t fun a_2 =>
      Sts [.bool true] (Addr.add (a_1.add 28) (slot.toNat * 1)) 0 w.drew fun w1 =>
      w1.cell? ⟨r, 0, none⟩ = some (.int .i64 x48_0) ∧
      w1.cell? ⟨r, 1, none⟩ = some (.int .i64 x48_1) ∧
      w1.cell? ⟨r, 2, none⟩ = some (.string x48_2) ∧
      (0 ≤ slot ∧ slot < ((6 : Nat) : Int)) ∧
      Sts [.int .i64 x48_0, .int .i64 x48_1, .string x48_2] (Addr.add (a_2.add 34) (slot.toNat * 3)) 0 w1 fun w2 =>
      LdI .i64 ⟨r, 0, none⟩ w2 fun x55_0 =>
      LdI .i64 ⟨r, 1, none⟩ w2 fun x55_1 =>
      LdS ⟨r, 2, none⟩ w2 fun x55_2 =>
      store_encRec.Call x55_0 x55_1 x55_2 w2 fun r56_b r56_l r56_c w3 =>
      store_Store_write.Call t (IntKind.i64.wrap ((8 : Int) + slot)) r56_b r56_l r56_c w3 fun w4 =>
      R (0 : Int) w4))) = kstep Try.prog 62 Try.f48.results.toList (Try.f48.body.getD .skip) (store_Store_PutRec.RV R) (kvc Try.prog 62 Try.f48.results.toList (Try.f48.body.getD .skip) (store_Store_PutRec.RV R) [] 2000) [(0, [1, 1, 0, 1]), (0, [1, 1, 1])] [(0, .pointer t), (1, .int .i64 slot), (5, .pointer (some ⟨r, 0, none⟩)), (37, .bool t37)] w := by kernel_rfl
theorem store_Store_PutRec.B2_sound {R : Int → World → Prop}  (t : Option Addr) (slot : Int) (r : Nat) (t37 : Bool) (w : World) (h : store_Store_PutRec.B2 t slot r t37 w   R) :
    KW Try.prog 48 62 (store_Store_PutRec.RV R) ([(0, [1, 1, 0, 1]), (0, [1, 1, 1])].map (toItem (Try.f48.body.getD .skip))) [(0, .pointer t), (1, .int .i64 slot), (5, .pointer (some ⟨r, 0, none⟩)), (37, .bool t37)] w := by
  exact block_spec Try.func48 Try.mixed stops_nil (Eq.mp (store_Store_PutRec.B2_eq t slot r t37 w   R ) h)
def store_Store_PutRec.B1 (t : Option Addr) (slot : Int) (r : Nat) (t13 : Bool) (w : World)   (R : Int → World → Prop) : Prop :=
  Bm t13 (
    R (1 : Int) w) (
    LdI .i64 ⟨r, 0, none⟩ w fun x15 =>
    Bm (decide (x15 < (1 : Int))) (
      store_Store_PutRec.B2 t slot r true w  R) (
      LdI .i64 ⟨r, 0, none⟩ w fun x19 =>
      Bm (decide (x19 > (72057594037927936 : Int))) (
        store_Store_PutRec.B2 t slot r true w  R) (
        LdI .i64 ⟨r, 1, none⟩ w fun x24 =>
        Bm (decide (x24 < (0 : Int))) (
          store_Store_PutRec.B2 t slot r true w  R) (
          LdI .i64 ⟨r, 1, none⟩ w fun x29 =>
          Bm (decide (x29 > (72057594037927936 : Int))) (
            store_Store_PutRec.B2 t slot r true w  R) (
            LdS ⟨r, 2, none⟩ w fun x34 =>
            store_Store_PutRec.B2 t slot r (decide (((x34.size : Nat) : Int) > (24 : Int))) w  R)))))
theorem store_Store_PutRec.B1_eq (t : Option Addr) (slot : Int) (r : Nat) (t13 : Bool) (w : World)   (R : Int → World → Prop) (sB2 : Option Addr → Int → Nat → Bool → World → Prop) :
    (
  Bm t13 (
    R (1 : Int) w) (
    LdI .i64 ⟨r, 0, none⟩ w fun x15 =>
    Bm (decide (x15 < (1 : Int))) (
      sB2 t slot r true w) (
      LdI .i64 ⟨r, 0, none⟩ w fun x19 =>
      Bm (decide (x19 > (72057594037927936 : Int))) (
        sB2 t slot r true w) (
        LdI .i64 ⟨r, 1, none⟩ w fun x24 =>
        Bm (decide (x24 < (0 : Int))) (
          sB2 t slot r true w) (
          LdI .i64 ⟨r, 1, none⟩ w fun x29 =>
          Bm (decide (x29 > (72057594037927936 : Int))) (
            sB2 t slot r true w) (
            LdS ⟨r, 2, none⟩ w fun x34 =>
            sB2 t slot r (decide (((x34.size : Nat) : Int) > (24 : Int))) w)))))) = kstep Try.prog 62 Try.f48.results.toList (Try.f48.body.getD .skip) (store_Store_PutRec.RV R) (kvc Try.prog 62 Try.f48.results.toList (Try.f48.body.getD .skip) (store_Store_PutRec.RV R) [([(0, [1, 1, 0, 1]), (0, [1, 1, 1])], fun σ w => dP (slotOf σ 0) fun t_ => dI .i64 (slotOf σ 1) fun slot_ => dK (slotOf σ 5) fun r_ => dB (slotOf σ 37) fun t37_ => sB2 t_ slot_ r_ t37_ w)] 2000) [(0, [1, 0, 1]), (0, [1, 1])] [(0, .pointer t), (1, .int .i64 slot), (5, .pointer (some ⟨r, 0, none⟩)), (13, .bool t13)] w := by kernel_rfl
theorem store_Store_PutRec.B1_sound {R : Int → World → Prop}  (t : Option Addr) (slot : Int) (r : Nat) (t13 : Bool) (w : World) (h : store_Store_PutRec.B1 t slot r t13 w   R) :
    KW Try.prog 48 62 (store_Store_PutRec.RV R) ([(0, [1, 0, 1]), (0, [1, 1])].map (toItem (Try.f48.body.getD .skip))) [(0, .pointer t), (1, .int .i64 slot), (5, .pointer (some ⟨r, 0, none⟩)), (13, .bool t13)] w := by
  exact block_spec Try.func48 Try.mixed (stops_cons (fun σ w h => by
      obtain ⟨t_, e0, h⟩ := dP_elim h
      obtain ⟨slot_, e1, h⟩ := dI_elim h
      obtain ⟨r_, e2, h⟩ := dK_elim h
      obtain ⟨t37_, e3, h⟩ := dB_elim h
      exact (store_Store_PutRec.B2_sound  t_ slot_ r_ t37_ w h).weaken (Sub.cons (Sub.cons (Sub.cons (Sub.cons (Sub.nil _) e3) e2) e1) e0)) stops_nil) (Eq.mp (store_Store_PutRec.B1_eq t slot r t13 w   R (fun t_ slot_ r_ t37_ w => store_Store_PutRec.B2 t_ slot_ r_ t37_ w  R)) h)
def store_Store_PutRec.B0 (t : Option Addr) (slot r_0 r_1 : Int) (r_2 : ByteArray) (w : World)   (R : Int → World → Prop) : Prop :=
  New (.cells #[.int .i64 r_0, .int .i64 r_1, .string r_2] 38) w fun r_ w1 =>
  Bm (decide (slot < (0 : Int))) (
    store_Store_PutRec.B1 t slot r_ true w1  R) (
    store_Store_PutRec.B1 t slot r_ (decide (slot ≥ (6 : Int))) w1  R)
theorem store_Store_PutRec.B0_eq (t : Option Addr) (slot r_0 r_1 : Int) (r_2 : ByteArray) (w : World)   (R : Int → World → Prop) (sB1 : Option Addr → Int → Nat → Bool → World → Prop) :
    (
  New (.cells #[.int .i64 r_0, .int .i64 r_1, .string r_2] 38) w fun r_ w1 =>
  Bm (decide (slot < (0 : Int))) (
    sB1 t slot r_ true w1) (
    sB1 t slot r_ (decide (slot ≥ (6 : Int))) w1)) = kstep Try.prog 62 Try.f48.results.toList (Try.f48.body.getD .skip) (store_Store_PutRec.RV R) (kvc Try.prog 62 Try.f48.results.toList (Try.f48.body.getD .skip) (store_Store_PutRec.RV R) [([(0, [1, 0, 1]), (0, [1, 1])], fun σ w => dP (slotOf σ 0) fun t_ => dI .i64 (slotOf σ 1) fun slot_ => dK (slotOf σ 5) fun r_ => dB (slotOf σ 13) fun t13_ => sB1 t_ slot_ r_ t13_ w)] 2000) [(0, [])] [(0, .pointer t), (1, .int .i64 slot), (2, .agg #[.int .i64 r_0, .int .i64 r_1, .string r_2])] w := by kernel_rfl
theorem store_Store_PutRec.B0_sound {R : Int → World → Prop}  (t : Option Addr) (slot r_0 r_1 : Int) (r_2 : ByteArray) (w : World) (h : store_Store_PutRec.B0 t slot r_0 r_1 r_2 w   R) :
    KW Try.prog 48 62 (store_Store_PutRec.RV R) ([(0, [])].map (toItem (Try.f48.body.getD .skip))) [(0, .pointer t), (1, .int .i64 slot), (2, .agg #[.int .i64 r_0, .int .i64 r_1, .string r_2])] w := by
  exact block_spec Try.func48 Try.mixed (stops_cons (fun σ w h => by
      obtain ⟨t_, e0, h⟩ := dP_elim h
      obtain ⟨slot_, e1, h⟩ := dI_elim h
      obtain ⟨r_, e2, h⟩ := dK_elim h
      obtain ⟨t13_, e3, h⟩ := dB_elim h
      exact (store_Store_PutRec.B1_sound  t_ slot_ r_ t13_ w h).weaken (Sub.cons (Sub.cons (Sub.cons (Sub.cons (Sub.nil _) e3) e2) e1) e0)) stops_nil) (Eq.mp (store_Store_PutRec.B0_eq t slot r_0 r_1 r_2 w   R (fun t_ slot_ r_ t13_ w => store_Store_PutRec.B1 t_ slot_ r_ t13_ w  R)) h)
theorem store_Store_PutRec.sound (t : Option Addr) (slot r_0 r_1 : Int) (r_2 : ByteArray) (w : World) (R : Int → World → Prop) (h : store_Store_PutRec.B0 t slot r_0 r_1 r_2 w R) : store_Store_PutRec.Call t slot r_0 r_1 r_2 w R := by
  have hc := calls_of_block (args := #[.pointer t, .int .i64 slot, .agg #[.int .i64 r_0, .int .i64 r_1, .string r_2]]) Try.func48 (body := (Try.f48.body.getD .skip)) (by kernel_rfl) (by kernel_rfl) (args_slot _) (store_Store_PutRec.B0_sound t slot r_0 r_1 r_2 w h)
  exact hc.mono fun e w' he => by
    obtain ⟨v, rfl, hv⟩ := he
    exact store_Store_PutRec.RV_elim hv
def storem_Store_PutRec.B2 (t : Option Addr) (slot : Int) (r : Nat) (t36 : Bool) (w : World)   (R : Int → World → Prop) : Prop :=
  Bm t36 (
    R (4 : Int) w) (
    Pn t fun a =>
    LdP a w fun x40 =>
    Pn x40 fun a_1 =>
    (0 ≤ slot ∧ slot < ((6 : Nat) : Int)) ∧
    LdB (Addr.add (a_1.add 5) (slot.toNat * 1)) w fun x45 =>
    Bm x45 (
      R (3 : Int) w) (
      Pn t fun a_2 =>
      LdP a_2 w.drew fun x49 =>
      Pn t fun a_3 =>
      LdP a_3 w.drew fun x54 =>
      LdI .i64 ⟨r, 0, none⟩ w.drew fun x56_0 =>
      LdI .i64 ⟨r, 1, none⟩ w.drew fun x56_1 =>
      LdS ⟨r, 2, none⟩ w.drew fun x56_2 =>
      Pn x49 fun a_4 =>
      (0 ≤ slot ∧ slot < ((6 : Nat) : Int)) ∧
      Pn x54 fun a_5 =>
      Sts [.bool true] (Addr.add (a_4.add 5) (slot.toNat * 1)) 0 w.drew fun w1 =>
      w1.cell? ⟨r, 0, none⟩ = some (.int .i64 x56_0) ∧
      w1.cell? ⟨r, 1, none⟩ = some (.int .i64 x56_1) ∧
      w1.cell? ⟨r, 2, none⟩ = some (.string x56_2) ∧
      (0 ≤ slot ∧ slot < ((6 : Nat) : Int)) ∧
      Sts [.int .i64 x56_0, .int .i64 x56_1, .string x56_2] (Addr.add (a_5.add 11) (slot.toNat * 3)) 0 w1 fun w2 =>
      storem_Store_step.Call t w2 fun w3 =>
      R (0 : Int) w3))
theorem storem_Store_PutRec.B2_eq (t : Option Addr) (slot : Int) (r : Nat) (t36 : Bool) (w : World)   (R : Int → World → Prop)  :
    (
  Bm t36 (
    R (4 : Int) w) (
    Pn t fun a =>
    LdP a w fun x40 =>
    Pn x40 fun a_1 =>
    (0 ≤ slot ∧ slot < ((6 : Nat) : Int)) ∧
    LdB (Addr.add (a_1.add 5) (slot.toNat * 1)) w fun x45 =>
    Bm x45 (
      R (3 : Int) w) (
      Pn t fun a_2 =>
      LdP a_2 w.drew fun x49 =>
      Pn t fun a_3 =>
      LdP a_3 w.drew fun x54 =>
      LdI .i64 ⟨r, 0, none⟩ w.drew fun x56_0 =>
      LdI .i64 ⟨r, 1, none⟩ w.drew fun x56_1 =>
      LdS ⟨r, 2, none⟩ w.drew fun x56_2 =>
      Pn x49 fun a_4 =>
      (0 ≤ slot ∧ slot < ((6 : Nat) : Int)) ∧
      Pn x54 fun a_5 =>
      Sts [.bool true] (Addr.add (a_4.add 5) (slot.toNat * 1)) 0 w.drew fun w1 =>
      w1.cell? ⟨r, 0, none⟩ = some (.int .i64 x56_0) ∧
      w1.cell? ⟨r, 1, none⟩ = some (.int .i64 x56_1) ∧
      w1.cell? ⟨r, 2, none⟩ = some (.string x56_2) ∧
      (0 ≤ slot ∧ slot < ((6 : Nat) : Int)) ∧
      Sts [.int .i64 x56_0, .int .i64 x56_1, .string x56_2] (Addr.add (a_5.add 11) (slot.toNat * 3)) 0 w1 fun w2 =>
      storem_Store_step.Call t w2 fun w3 =>
      R (0 : Int) w3))) = kstep Try.prog 65 Try.f49.results.toList (Try.f49.body.getD .skip) (storem_Store_PutRec.RV R) (kvc Try.prog 65 Try.f49.results.toList (Try.f49.body.getD .skip) (storem_Store_PutRec.RV R) [] 2000) [(0, [1, 1, 0, 1]), (0, [1, 1, 1])] [(0, .pointer t), (1, .int .i64 slot), (5, .pointer (some ⟨r, 0, none⟩)), (36, .bool t36)] w := by kernel_rfl
theorem storem_Store_PutRec.B2_sound {R : Int → World → Prop}  (t : Option Addr) (slot : Int) (r : Nat) (t36 : Bool) (w : World) (h : storem_Store_PutRec.B2 t slot r t36 w   R) :
    KW Try.prog 49 65 (storem_Store_PutRec.RV R) ([(0, [1, 1, 0, 1]), (0, [1, 1, 1])].map (toItem (Try.f49.body.getD .skip))) [(0, .pointer t), (1, .int .i64 slot), (5, .pointer (some ⟨r, 0, none⟩)), (36, .bool t36)] w := by
  exact block_spec Try.func49 Try.mixed stops_nil (Eq.mp (storem_Store_PutRec.B2_eq t slot r t36 w   R ) h)
def storem_Store_PutRec.B1 (t : Option Addr) (slot : Int) (r : Nat) (t12 : Bool) (w : World)   (R : Int → World → Prop) : Prop :=
  Bm t12 (
    R (1 : Int) w) (
    LdI .i64 ⟨r, 0, none⟩ w fun x14 =>
    Bm (decide (x14 < (1 : Int))) (
      storem_Store_PutRec.B2 t slot r true w  R) (
      LdI .i64 ⟨r, 0, none⟩ w fun x18 =>
      Bm (decide (x18 > (72057594037927936 : Int))) (
        storem_Store_PutRec.B2 t slot r true w  R) (
        LdI .i64 ⟨r, 1, none⟩ w fun x23 =>
        Bm (decide (x23 < (0 : Int))) (
          storem_Store_PutRec.B2 t slot r true w  R) (
          LdI .i64 ⟨r, 1, none⟩ w fun x28 =>
          Bm (decide (x28 > (72057594037927936 : Int))) (
            storem_Store_PutRec.B2 t slot r true w  R) (
            LdS ⟨r, 2, none⟩ w fun x33 =>
            storem_Store_PutRec.B2 t slot r (decide (((x33.size : Nat) : Int) > (24 : Int))) w  R)))))
theorem storem_Store_PutRec.B1_eq (t : Option Addr) (slot : Int) (r : Nat) (t12 : Bool) (w : World)   (R : Int → World → Prop) (sB2 : Option Addr → Int → Nat → Bool → World → Prop) :
    (
  Bm t12 (
    R (1 : Int) w) (
    LdI .i64 ⟨r, 0, none⟩ w fun x14 =>
    Bm (decide (x14 < (1 : Int))) (
      sB2 t slot r true w) (
      LdI .i64 ⟨r, 0, none⟩ w fun x18 =>
      Bm (decide (x18 > (72057594037927936 : Int))) (
        sB2 t slot r true w) (
        LdI .i64 ⟨r, 1, none⟩ w fun x23 =>
        Bm (decide (x23 < (0 : Int))) (
          sB2 t slot r true w) (
          LdI .i64 ⟨r, 1, none⟩ w fun x28 =>
          Bm (decide (x28 > (72057594037927936 : Int))) (
            sB2 t slot r true w) (
            LdS ⟨r, 2, none⟩ w fun x33 =>
            sB2 t slot r (decide (((x33.size : Nat) : Int) > (24 : Int))) w)))))) = kstep Try.prog 65 Try.f49.results.toList (Try.f49.body.getD .skip) (storem_Store_PutRec.RV R) (kvc Try.prog 65 Try.f49.results.toList (Try.f49.body.getD .skip) (storem_Store_PutRec.RV R) [([(0, [1, 1, 0, 1]), (0, [1, 1, 1])], fun σ w => dP (slotOf σ 0) fun t_ => dI .i64 (slotOf σ 1) fun slot_ => dK (slotOf σ 5) fun r_ => dB (slotOf σ 36) fun t36_ => sB2 t_ slot_ r_ t36_ w)] 2000) [(0, [1, 0, 1]), (0, [1, 1])] [(0, .pointer t), (1, .int .i64 slot), (5, .pointer (some ⟨r, 0, none⟩)), (12, .bool t12)] w := by kernel_rfl
theorem storem_Store_PutRec.B1_sound {R : Int → World → Prop}  (t : Option Addr) (slot : Int) (r : Nat) (t12 : Bool) (w : World) (h : storem_Store_PutRec.B1 t slot r t12 w   R) :
    KW Try.prog 49 65 (storem_Store_PutRec.RV R) ([(0, [1, 0, 1]), (0, [1, 1])].map (toItem (Try.f49.body.getD .skip))) [(0, .pointer t), (1, .int .i64 slot), (5, .pointer (some ⟨r, 0, none⟩)), (12, .bool t12)] w := by
  exact block_spec Try.func49 Try.mixed (stops_cons (fun σ w h => by
      obtain ⟨t_, e0, h⟩ := dP_elim h
      obtain ⟨slot_, e1, h⟩ := dI_elim h
      obtain ⟨r_, e2, h⟩ := dK_elim h
      obtain ⟨t36_, e3, h⟩ := dB_elim h
      exact (storem_Store_PutRec.B2_sound  t_ slot_ r_ t36_ w h).weaken (Sub.cons (Sub.cons (Sub.cons (Sub.cons (Sub.nil _) e3) e2) e1) e0)) stops_nil) (Eq.mp (storem_Store_PutRec.B1_eq t slot r t12 w   R (fun t_ slot_ r_ t36_ w => storem_Store_PutRec.B2 t_ slot_ r_ t36_ w  R)) h)
def storem_Store_PutRec.B0 (t : Option Addr) (slot r_0 r_1 : Int) (r_2 : ByteArray) (w : World)   (R : Int → World → Prop) : Prop :=
  New (.cells #[.int .i64 r_0, .int .i64 r_1, .string r_2] 38) w fun r_ w1 =>
  Bm (decide (slot < (0 : Int))) (
    storem_Store_PutRec.B1 t slot r_ true w1  R) (
    storem_Store_PutRec.B1 t slot r_ (decide (slot ≥ (6 : Int))) w1  R)
theorem storem_Store_PutRec.B0_eq (t : Option Addr) (slot r_0 r_1 : Int) (r_2 : ByteArray) (w : World)   (R : Int → World → Prop) (sB1 : Option Addr → Int → Nat → Bool → World → Prop) :
    (
  New (.cells #[.int .i64 r_0, .int .i64 r_1, .string r_2] 38) w fun r_ w1 =>
  Bm (decide (slot < (0 : Int))) (
    sB1 t slot r_ true w1) (
    sB1 t slot r_ (decide (slot ≥ (6 : Int))) w1)) = kstep Try.prog 65 Try.f49.results.toList (Try.f49.body.getD .skip) (storem_Store_PutRec.RV R) (kvc Try.prog 65 Try.f49.results.toList (Try.f49.body.getD .skip) (storem_Store_PutRec.RV R) [([(0, [1, 0, 1]), (0, [1, 1])], fun σ w => dP (slotOf σ 0) fun t_ => dI .i64 (slotOf σ 1) fun slot_ => dK (slotOf σ 5) fun r_ => dB (slotOf σ 12) fun t12_ => sB1 t_ slot_ r_ t12_ w)] 2000) [(0, [])] [(0, .pointer t), (1, .int .i64 slot), (2, .agg #[.int .i64 r_0, .int .i64 r_1, .string r_2])] w := by kernel_rfl
theorem storem_Store_PutRec.B0_sound {R : Int → World → Prop}  (t : Option Addr) (slot r_0 r_1 : Int) (r_2 : ByteArray) (w : World) (h : storem_Store_PutRec.B0 t slot r_0 r_1 r_2 w   R) :
    KW Try.prog 49 65 (storem_Store_PutRec.RV R) ([(0, [])].map (toItem (Try.f49.body.getD .skip))) [(0, .pointer t), (1, .int .i64 slot), (2, .agg #[.int .i64 r_0, .int .i64 r_1, .string r_2])] w := by
  exact block_spec Try.func49 Try.mixed (stops_cons (fun σ w h => by
      obtain ⟨t_, e0, h⟩ := dP_elim h
      obtain ⟨slot_, e1, h⟩ := dI_elim h
      obtain ⟨r_, e2, h⟩ := dK_elim h
      obtain ⟨t12_, e3, h⟩ := dB_elim h
      exact (storem_Store_PutRec.B1_sound  t_ slot_ r_ t12_ w h).weaken (Sub.cons (Sub.cons (Sub.cons (Sub.cons (Sub.nil _) e3) e2) e1) e0)) stops_nil) (Eq.mp (storem_Store_PutRec.B0_eq t slot r_0 r_1 r_2 w   R (fun t_ slot_ r_ t12_ w => storem_Store_PutRec.B1 t_ slot_ r_ t12_ w  R)) h)
theorem storem_Store_PutRec.sound (t : Option Addr) (slot r_0 r_1 : Int) (r_2 : ByteArray) (w : World) (R : Int → World → Prop) (h : storem_Store_PutRec.B0 t slot r_0 r_1 r_2 w R) : storem_Store_PutRec.Call t slot r_0 r_1 r_2 w R := by
  have hc := calls_of_block (args := #[.pointer t, .int .i64 slot, .agg #[.int .i64 r_0, .int .i64 r_1, .string r_2]]) Try.func49 (body := (Try.f49.body.getD .skip)) (by kernel_rfl) (by kernel_rfl) (args_slot _) (storem_Store_PutRec.B0_sound t slot r_0 r_1 r_2 w h)
  exact hc.mono fun e w' he => by
    obtain ⟨v, rfl, hv⟩ := he
    exact storem_Store_PutRec.RV_elim hv
def store_Store_DelRec.B1 (t : Option Addr) (slot : Int) (t11 : Bool) (w : World)   (R : Int → World → Prop) : Prop :=
  Bm t11 (
    R (1 : Int) w) (
    Pn t fun a =>
    (0 ≤ slot ∧ slot < ((6 : Nat) : Int)) ∧
    LdB (Addr.add (a.add 28) (slot.toNat * 1)) w fun x17 =>
    Bm (!x17) (
      R (2 : Int) w) (
      Pn t fun a_1 =>
      (0 ≤ slot ∧ slot < ((6 : Nat) : Int)) ∧
      Pn t fun a_2 =>
      Sts [.bool false] (Addr.add (a_1.add 28) (slot.toNat * 1)) 0 w.drew fun w1 =>
      (0 ≤ slot ∧ slot < ((6 : Nat) : Int)) ∧
      Sts [.int .i64 (0 : Int), .int .i64 (0 : Int), .string (ByteArray.mk #[])] (Addr.add (a_2.add 34) (slot.toNat * 3)) 0 w1 fun w2 =>
      Make 5 (.int .u8 (0 : Int)) 1 1 (64 : Int) (64 : Int) w2 fun b30 w3 =>
      store_Store_write.Call t (IntKind.i64.wrap ((8 : Int) + slot)) (some ⟨b30, 0, none⟩) 64 64 w3 fun w4 =>
      R (0 : Int) w4))
theorem store_Store_DelRec.B1_eq (t : Option Addr) (slot : Int) (t11 : Bool) (w : World)   (R : Int → World → Prop)  :
    (
  Bm t11 (
    R (1 : Int) w) (
    Pn t fun a =>
    (0 ≤ slot ∧ slot < ((6 : Nat) : Int)) ∧
    LdB (Addr.add (a.add 28) (slot.toNat * 1)) w fun x17 =>
    Bm (!x17) (
      R (2 : Int) w) (
      Pn t fun a_1 =>
      (0 ≤ slot ∧ slot < ((6 : Nat) : Int)) ∧
      Pn t fun a_2 =>
      Sts [.bool false] (Addr.add (a_1.add 28) (slot.toNat * 1)) 0 w.drew fun w1 =>
      (0 ≤ slot ∧ slot < ((6 : Nat) : Int)) ∧
      Sts [.int .i64 (0 : Int), .int .i64 (0 : Int), .string (ByteArray.mk #[])] (Addr.add (a_2.add 34) (slot.toNat * 3)) 0 w1 fun w2 =>
      Make 5 (.int .u8 (0 : Int)) 1 1 (64 : Int) (64 : Int) w2 fun b30 w3 =>
      store_Store_write.Call t (IntKind.i64.wrap ((8 : Int) + slot)) (some ⟨b30, 0, none⟩) 64 64 w3 fun w4 =>
      R (0 : Int) w4))) = kstep Try.prog 36 Try.f50.results.toList (Try.f50.body.getD .skip) (store_Store_DelRec.RV R) (kvc Try.prog 36 Try.f50.results.toList (Try.f50.body.getD .skip) (store_Store_DelRec.RV R) [] 2000) [(0, [1, 0, 1]), (0, [1, 1])] [(0, .pointer t), (1, .int .i64 slot), (11, .bool t11)] w := by kernel_rfl
theorem store_Store_DelRec.B1_sound {R : Int → World → Prop}  (t : Option Addr) (slot : Int) (t11 : Bool) (w : World) (h : store_Store_DelRec.B1 t slot t11 w   R) :
    KW Try.prog 50 36 (store_Store_DelRec.RV R) ([(0, [1, 0, 1]), (0, [1, 1])].map (toItem (Try.f50.body.getD .skip))) [(0, .pointer t), (1, .int .i64 slot), (11, .bool t11)] w := by
  exact block_spec Try.func50 Try.mixed stops_nil (Eq.mp (store_Store_DelRec.B1_eq t slot t11 w   R ) h)
def store_Store_DelRec.B0 (t : Option Addr) (slot : Int) (w : World)   (R : Int → World → Prop) : Prop :=
  Bm (decide (slot < (0 : Int))) (
    store_Store_DelRec.B1 t slot true w  R) (
    store_Store_DelRec.B1 t slot (decide (slot ≥ (6 : Int))) w  R)
theorem store_Store_DelRec.B0_eq (t : Option Addr) (slot : Int) (w : World)   (R : Int → World → Prop) (sB1 : Option Addr → Int → Bool → World → Prop) :
    (
  Bm (decide (slot < (0 : Int))) (
    sB1 t slot true w) (
    sB1 t slot (decide (slot ≥ (6 : Int))) w)) = kstep Try.prog 36 Try.f50.results.toList (Try.f50.body.getD .skip) (store_Store_DelRec.RV R) (kvc Try.prog 36 Try.f50.results.toList (Try.f50.body.getD .skip) (store_Store_DelRec.RV R) [([(0, [1, 0, 1]), (0, [1, 1])], fun σ w => dP (slotOf σ 0) fun t_ => dI .i64 (slotOf σ 1) fun slot_ => dB (slotOf σ 11) fun t11_ => sB1 t_ slot_ t11_ w)] 2000) [(0, [])] [(0, .pointer t), (1, .int .i64 slot)] w := by kernel_rfl
theorem store_Store_DelRec.B0_sound {R : Int → World → Prop}  (t : Option Addr) (slot : Int) (w : World) (h : store_Store_DelRec.B0 t slot w   R) :
    KW Try.prog 50 36 (store_Store_DelRec.RV R) ([(0, [])].map (toItem (Try.f50.body.getD .skip))) [(0, .pointer t), (1, .int .i64 slot)] w := by
  exact block_spec Try.func50 Try.mixed (stops_cons (fun σ w h => by
      obtain ⟨t_, e0, h⟩ := dP_elim h
      obtain ⟨slot_, e1, h⟩ := dI_elim h
      obtain ⟨t11_, e2, h⟩ := dB_elim h
      exact (store_Store_DelRec.B1_sound  t_ slot_ t11_ w h).weaken (Sub.cons (Sub.cons (Sub.cons (Sub.nil _) e2) e1) e0)) stops_nil) (Eq.mp (store_Store_DelRec.B0_eq t slot w   R (fun t_ slot_ t11_ w => store_Store_DelRec.B1 t_ slot_ t11_ w  R)) h)
theorem store_Store_DelRec.sound (t : Option Addr) (slot : Int) (w : World) (R : Int → World → Prop) (h : store_Store_DelRec.B0 t slot w R) : store_Store_DelRec.Call t slot w R := by
  have hc := calls_of_block (args := #[.pointer t, .int .i64 slot]) Try.func50 (body := (Try.f50.body.getD .skip)) (by kernel_rfl) (by kernel_rfl) (args_slot _) (store_Store_DelRec.B0_sound t slot w h)
  exact hc.mono fun e w' he => by
    obtain ⟨v, rfl, hv⟩ := he
    exact store_Store_DelRec.RV_elim hv
def storem_Store_DelRec.B1 (t : Option Addr) (slot : Int) (t10 : Bool) (w : World)   (R : Int → World → Prop) : Prop :=
  Bm t10 (
    R (1 : Int) w) (
    Pn t fun a =>
    LdP a w fun x14 =>
    Pn x14 fun a_1 =>
    (0 ≤ slot ∧ slot < ((6 : Nat) : Int)) ∧
    LdB (Addr.add (a_1.add 5) (slot.toNat * 1)) w fun x19 =>
    Bm (!x19) (
      R (2 : Int) w) (
      Pn t fun a_2 =>
      LdP a_2 w.drew fun x24 =>
      Pn t fun a_3 =>
      LdP a_3 w.drew fun x29 =>
      Pn x24 fun a_4 =>
      (0 ≤ slot ∧ slot < ((6 : Nat) : Int)) ∧
      Pn x29 fun a_5 =>
      Sts [.bool false] (Addr.add (a_4.add 5) (slot.toNat * 1)) 0 w.drew fun w1 =>
      (0 ≤ slot ∧ slot < ((6 : Nat) : Int)) ∧
      Sts [.int .i64 (0 : Int), .int .i64 (0 : Int), .string (ByteArray.mk #[])] (Addr.add (a_5.add 11) (slot.toNat * 3)) 0 w1 fun w2 =>
      storem_Store_step.Call t w2 fun w3 =>
      R (0 : Int) w3))
theorem storem_Store_DelRec.B1_eq (t : Option Addr) (slot : Int) (t10 : Bool) (w : World)   (R : Int → World → Prop)  :
    (
  Bm t10 (
    R (1 : Int) w) (
    Pn t fun a =>
    LdP a w fun x14 =>
    Pn x14 fun a_1 =>
    (0 ≤ slot ∧ slot < ((6 : Nat) : Int)) ∧
    LdB (Addr.add (a_1.add 5) (slot.toNat * 1)) w fun x19 =>
    Bm (!x19) (
      R (2 : Int) w) (
      Pn t fun a_2 =>
      LdP a_2 w.drew fun x24 =>
      Pn t fun a_3 =>
      LdP a_3 w.drew fun x29 =>
      Pn x24 fun a_4 =>
      (0 ≤ slot ∧ slot < ((6 : Nat) : Int)) ∧
      Pn x29 fun a_5 =>
      Sts [.bool false] (Addr.add (a_4.add 5) (slot.toNat * 1)) 0 w.drew fun w1 =>
      (0 ≤ slot ∧ slot < ((6 : Nat) : Int)) ∧
      Sts [.int .i64 (0 : Int), .int .i64 (0 : Int), .string (ByteArray.mk #[])] (Addr.add (a_5.add 11) (slot.toNat * 3)) 0 w1 fun w2 =>
      storem_Store_step.Call t w2 fun w3 =>
      R (0 : Int) w3))) = kstep Try.prog 40 Try.f51.results.toList (Try.f51.body.getD .skip) (storem_Store_DelRec.RV R) (kvc Try.prog 40 Try.f51.results.toList (Try.f51.body.getD .skip) (storem_Store_DelRec.RV R) [] 2000) [(0, [1, 0, 1]), (0, [1, 1])] [(0, .pointer t), (1, .int .i64 slot), (10, .bool t10)] w := by kernel_rfl
theorem storem_Store_DelRec.B1_sound {R : Int → World → Prop}  (t : Option Addr) (slot : Int) (t10 : Bool) (w : World) (h : storem_Store_DelRec.B1 t slot t10 w   R) :
    KW Try.prog 51 40 (storem_Store_DelRec.RV R) ([(0, [1, 0, 1]), (0, [1, 1])].map (toItem (Try.f51.body.getD .skip))) [(0, .pointer t), (1, .int .i64 slot), (10, .bool t10)] w := by
  exact block_spec Try.func51 Try.mixed stops_nil (Eq.mp (storem_Store_DelRec.B1_eq t slot t10 w   R ) h)
def storem_Store_DelRec.B0 (t : Option Addr) (slot : Int) (w : World)   (R : Int → World → Prop) : Prop :=
  Bm (decide (slot < (0 : Int))) (
    storem_Store_DelRec.B1 t slot true w  R) (
    storem_Store_DelRec.B1 t slot (decide (slot ≥ (6 : Int))) w  R)
theorem storem_Store_DelRec.B0_eq (t : Option Addr) (slot : Int) (w : World)   (R : Int → World → Prop) (sB1 : Option Addr → Int → Bool → World → Prop) :
    (
  Bm (decide (slot < (0 : Int))) (
    sB1 t slot true w) (
    sB1 t slot (decide (slot ≥ (6 : Int))) w)) = kstep Try.prog 40 Try.f51.results.toList (Try.f51.body.getD .skip) (storem_Store_DelRec.RV R) (kvc Try.prog 40 Try.f51.results.toList (Try.f51.body.getD .skip) (storem_Store_DelRec.RV R) [([(0, [1, 0, 1]), (0, [1, 1])], fun σ w => dP (slotOf σ 0) fun t_ => dI .i64 (slotOf σ 1) fun slot_ => dB (slotOf σ 10) fun t10_ => sB1 t_ slot_ t10_ w)] 2000) [(0, [])] [(0, .pointer t), (1, .int .i64 slot)] w := by kernel_rfl
theorem storem_Store_DelRec.B0_sound {R : Int → World → Prop}  (t : Option Addr) (slot : Int) (w : World) (h : storem_Store_DelRec.B0 t slot w   R) :
    KW Try.prog 51 40 (storem_Store_DelRec.RV R) ([(0, [])].map (toItem (Try.f51.body.getD .skip))) [(0, .pointer t), (1, .int .i64 slot)] w := by
  exact block_spec Try.func51 Try.mixed (stops_cons (fun σ w h => by
      obtain ⟨t_, e0, h⟩ := dP_elim h
      obtain ⟨slot_, e1, h⟩ := dI_elim h
      obtain ⟨t10_, e2, h⟩ := dB_elim h
      exact (storem_Store_DelRec.B1_sound  t_ slot_ t10_ w h).weaken (Sub.cons (Sub.cons (Sub.cons (Sub.nil _) e2) e1) e0)) stops_nil) (Eq.mp (storem_Store_DelRec.B0_eq t slot w   R (fun t_ slot_ t10_ w => storem_Store_DelRec.B1 t_ slot_ t10_ w  R)) h)
theorem storem_Store_DelRec.sound (t : Option Addr) (slot : Int) (w : World) (R : Int → World → Prop) (h : storem_Store_DelRec.B0 t slot w R) : storem_Store_DelRec.Call t slot w R := by
  have hc := calls_of_block (args := #[.pointer t, .int .i64 slot]) Try.func51 (body := (Try.f51.body.getD .skip)) (by kernel_rfl) (by kernel_rfl) (args_slot _) (storem_Store_DelRec.B0_sound t slot w h)
  exact hc.mono fun e w' he => by
    obtain ⟨v, rfl, hv⟩ := he
    exact storem_Store_DelRec.RV_elim hv
def storelaw_SameRec.B0 (x m0 : Option Addr) (slot : Int) (w : World)   (R : Bool → World → Prop) : Prop :=
  store_Store_Rec.Call x slot w fun r14_0_0 r14_0_1 r14_0_2 r14_1 w1 =>
  New (.cells #[.int .i64 (0 : Int), .int .i64 (0 : Int), .string (ByteArray.mk #[])] 38) w1 fun r_ w2 =>
  Sts [.int .i64 r14_0_0, .int .i64 r14_0_1, .string r14_0_2] ⟨r_, 0, none⟩ 0 w2 fun w3 =>
  storem_Store_Rec.Call m0 slot w3 fun r20_0_0 r20_0_1 r20_0_2 r20_1 w4 =>
  New (.cells #[.int .i64 (0 : Int), .int .i64 (0 : Int), .string (ByteArray.mk #[])] 38) w4 fun q_ w5 =>
  Sts [.int .i64 r20_0_0, .int .i64 r20_0_1, .string r20_0_2] ⟨q_, 0, none⟩ 0 w5 fun w6 =>
  Bm (r14_1 == r20_1) (
    LdI .i64 ⟨r_, 0, none⟩ w6 fun x28 =>
    LdI .i64 ⟨q_, 0, none⟩ w6 fun x30 =>
    Bm (x28 == x30) (
      LdI .i64 ⟨r_, 1, none⟩ w6 fun x35 =>
      LdI .i64 ⟨q_, 1, none⟩ w6 fun x37 =>
      Bm (x35 == x37) (
        LdS ⟨r_, 2, none⟩ w6 fun x42 =>
        LdS ⟨q_, 2, none⟩ w6 fun x44 =>
        R (x42.toList == x44.toList) w6) (
        R false w6)) (
      R false w6)) (
    R false w6)
theorem storelaw_SameRec.B0_eq (x m0 : Option Addr) (slot : Int) (w : World)   (R : Bool → World → Prop)  :
    (
  store_Store_Rec.Call x slot w fun r14_0_0 r14_0_1 r14_0_2 r14_1 w1 =>
  New (.cells #[.int .i64 (0 : Int), .int .i64 (0 : Int), .string (ByteArray.mk #[])] 38) w1 fun r_ w2 =>
  Sts [.int .i64 r14_0_0, .int .i64 r14_0_1, .string r14_0_2] ⟨r_, 0, none⟩ 0 w2 fun w3 =>
  storem_Store_Rec.Call m0 slot w3 fun r20_0_0 r20_0_1 r20_0_2 r20_1 w4 =>
  New (.cells #[.int .i64 (0 : Int), .int .i64 (0 : Int), .string (ByteArray.mk #[])] 38) w4 fun q_ w5 =>
  Sts [.int .i64 r20_0_0, .int .i64 r20_0_1, .string r20_0_2] ⟨q_, 0, none⟩ 0 w5 fun w6 =>
  Bm (r14_1 == r20_1) (
    LdI .i64 ⟨r_, 0, none⟩ w6 fun x28 =>
    LdI .i64 ⟨q_, 0, none⟩ w6 fun x30 =>
    Bm (x28 == x30) (
      LdI .i64 ⟨r_, 1, none⟩ w6 fun x35 =>
      LdI .i64 ⟨q_, 1, none⟩ w6 fun x37 =>
      Bm (x35 == x37) (
        LdS ⟨r_, 2, none⟩ w6 fun x42 =>
        LdS ⟨q_, 2, none⟩ w6 fun x44 =>
        R (x42.toList == x44.toList) w6) (
        R false w6)) (
      R false w6)) (
    R false w6)) = kstep Try.prog 47 Try.f52.results.toList (Try.f52.body.getD .skip) (storelaw_SameRec.RV R) (kvc Try.prog 47 Try.f52.results.toList (Try.f52.body.getD .skip) (storelaw_SameRec.RV R) [] 2000) [(0, [])] [(0, .pointer x), (1, .pointer m0), (2, .int .i64 slot)] w := by kernel_rfl
theorem storelaw_SameRec.B0_sound {R : Bool → World → Prop}  (x m0 : Option Addr) (slot : Int) (w : World) (h : storelaw_SameRec.B0 x m0 slot w   R) :
    KW Try.prog 52 47 (storelaw_SameRec.RV R) ([(0, [])].map (toItem (Try.f52.body.getD .skip))) [(0, .pointer x), (1, .pointer m0), (2, .int .i64 slot)] w := by
  exact block_spec Try.func52 Try.mixed stops_nil (Eq.mp (storelaw_SameRec.B0_eq x m0 slot w   R ) h)
theorem storelaw_SameRec.sound (x m0 : Option Addr) (slot : Int) (w : World) (R : Bool → World → Prop) (h : storelaw_SameRec.B0 x m0 slot w R) : storelaw_SameRec.Call x m0 slot w R := by
  have hc := calls_of_block (args := #[.pointer x, .pointer m0, .int .i64 slot]) Try.func52 (body := (Try.f52.body.getD .skip)) (by kernel_rfl) (by kernel_rfl) (args_slot _) (storelaw_SameRec.B0_sound x m0 slot w h)
  exact hc.mono fun e w' he => by
    obtain ⟨v, rfl, hv⟩ := he
    exact storelaw_SameRec.RV_elim hv
def storelaw_SameMeta.B0 (x m0 : Option Addr) (w : World)   (R : Bool → World → Prop) : Prop :=
  store_Store_Meta.Call x w fun r11_0 r11_1 w1 =>
  storem_Store_Meta.Call m0 w1 fun r16_0 r16_1 w2 =>
  Bm (r11_0 == r16_0) (
    R (r11_1 == r16_1) w2) (
    R false w2)
theorem storelaw_SameMeta.B0_eq (x m0 : Option Addr) (w : World)   (R : Bool → World → Prop)  :
    (
  store_Store_Meta.Call x w fun r11_0 r11_1 w1 =>
  storem_Store_Meta.Call m0 w1 fun r16_0 r16_1 w2 =>
  Bm (r11_0 == r16_0) (
    R (r11_1 == r16_1) w2) (
    R false w2)) = kstep Try.prog 27 Try.f53.results.toList (Try.f53.body.getD .skip) (storelaw_SameMeta.RV R) (kvc Try.prog 27 Try.f53.results.toList (Try.f53.body.getD .skip) (storelaw_SameMeta.RV R) [] 2000) [(0, [])] [(0, .pointer x), (1, .pointer m0)] w := by kernel_rfl
theorem storelaw_SameMeta.B0_sound {R : Bool → World → Prop}  (x m0 : Option Addr) (w : World) (h : storelaw_SameMeta.B0 x m0 w   R) :
    KW Try.prog 53 27 (storelaw_SameMeta.RV R) ([(0, [])].map (toItem (Try.f53.body.getD .skip))) [(0, .pointer x), (1, .pointer m0)] w := by
  exact block_spec Try.func53 Try.mixed stops_nil (Eq.mp (storelaw_SameMeta.B0_eq x m0 w   R ) h)
theorem storelaw_SameMeta.sound (x m0 : Option Addr) (w : World) (R : Bool → World → Prop) (h : storelaw_SameMeta.B0 x m0 w R) : storelaw_SameMeta.Call x m0 w R := by
  have hc := calls_of_block (args := #[.pointer x, .pointer m0]) Try.func53 (body := (Try.f53.body.getD .skip)) (by kernel_rfl) (by kernel_rfl) (args_slot _) (storelaw_SameMeta.B0_sound x m0 w h)
  exact hc.mono fun e w' he => by
    obtain ⟨v, rfl, hv⟩ := he
    exact storelaw_SameMeta.RV_elim hv
end Go.Proofs.Qxb6500432a
