import Derived.Test.Qxb6500432aSig
set_option maxRecDepth 100000
set_option linter.unusedVariables false
open Go.Vc
namespace Go.Proofs.Qxb6500432a
def store_sameHead.B0 (a_0 : Bool) (a_1 a_2 a_3 a_4 a_5 : Int) (b_0 : Bool) (b_1 b_2 b_3 b_4 b_5 : Int) (w : World)   (R : Bool → World → Prop) : Prop :=
  New (.cells #[.bool a_0, .int .i64 a_1, .int .i64 a_2, .int .i64 a_3, .int .i64 a_4, .int .i64 a_5] 54) w fun a_ w1 =>
  New (.cells #[.bool b_0, .int .i64 b_1, .int .i64 b_2, .int .i64 b_3, .int .i64 b_4, .int .i64 b_5] 54) w1 fun b_ w2 =>
  LdB ⟨a_, 0, none⟩ w2 fun x6 =>
  LdB ⟨b_, 0, none⟩ w2 fun x8 =>
  Bm (x6 == x8) (
    LdI .i64 ⟨a_, 1, none⟩ w2 fun x12 =>
    LdI .i64 ⟨b_, 1, none⟩ w2 fun x14 =>
    Bm (x12 == x14) (
      LdI .i64 ⟨a_, 2, none⟩ w2 fun x19 =>
      LdI .i64 ⟨b_, 2, none⟩ w2 fun x21 =>
      Bm (x19 == x21) (
        LdI .i64 ⟨a_, 3, none⟩ w2 fun x26 =>
        LdI .i64 ⟨b_, 3, none⟩ w2 fun x28 =>
        Bm (x26 == x28) (
          LdI .i64 ⟨a_, 4, none⟩ w2 fun x33 =>
          LdI .i64 ⟨b_, 4, none⟩ w2 fun x35 =>
          Bm (x33 == x35) (
            LdI .i64 ⟨a_, 5, none⟩ w2 fun x40 =>
            LdI .i64 ⟨b_, 5, none⟩ w2 fun x42 =>
            R (x40 == x42) w2) (
            R false w2)) (
          R false w2)) (
        R false w2)) (
      R false w2)) (
    R false w2)
theorem store_sameHead.B0_eq (a_0 : Bool) (a_1 a_2 a_3 a_4 a_5 : Int) (b_0 : Bool) (b_1 b_2 b_3 b_4 b_5 : Int) (w : World)   (R : Bool → World → Prop)  :
    (
  New (.cells #[.bool a_0, .int .i64 a_1, .int .i64 a_2, .int .i64 a_3, .int .i64 a_4, .int .i64 a_5] 54) w fun a_ w1 =>
  New (.cells #[.bool b_0, .int .i64 b_1, .int .i64 b_2, .int .i64 b_3, .int .i64 b_4, .int .i64 b_5] 54) w1 fun b_ w2 =>
  LdB ⟨a_, 0, none⟩ w2 fun x6 =>
  LdB ⟨b_, 0, none⟩ w2 fun x8 =>
  Bm (x6 == x8) (
    LdI .i64 ⟨a_, 1, none⟩ w2 fun x12 =>
    LdI .i64 ⟨b_, 1, none⟩ w2 fun x14 =>
    Bm (x12 == x14) (
      LdI .i64 ⟨a_, 2, none⟩ w2 fun x19 =>
      LdI .i64 ⟨b_, 2, none⟩ w2 fun x21 =>
      Bm (x19 == x21) (
        LdI .i64 ⟨a_, 3, none⟩ w2 fun x26 =>
        LdI .i64 ⟨b_, 3, none⟩ w2 fun x28 =>
        Bm (x26 == x28) (
          LdI .i64 ⟨a_, 4, none⟩ w2 fun x33 =>
          LdI .i64 ⟨b_, 4, none⟩ w2 fun x35 =>
          Bm (x33 == x35) (
            LdI .i64 ⟨a_, 5, none⟩ w2 fun x40 =>
            LdI .i64 ⟨b_, 5, none⟩ w2 fun x42 =>
            R (x40 == x42) w2) (
            R false w2)) (
          R false w2)) (
        R false w2)) (
      R false w2)) (
    R false w2)) = kstep Try.prog 45 Try.f27.results.toList (Try.f27.body.getD .skip) (store_sameHead.RV R) (kvc Try.prog 45 Try.f27.results.toList (Try.f27.body.getD .skip) (store_sameHead.RV R) [] 2000) [(0, [])] [(0, .agg #[.bool a_0, .int .i64 a_1, .int .i64 a_2, .int .i64 a_3, .int .i64 a_4, .int .i64 a_5]), (1, .agg #[.bool b_0, .int .i64 b_1, .int .i64 b_2, .int .i64 b_3, .int .i64 b_4, .int .i64 b_5])] w := by kernel_rfl
theorem store_sameHead.B0_sound {R : Bool → World → Prop}  (a_0 : Bool) (a_1 a_2 a_3 a_4 a_5 : Int) (b_0 : Bool) (b_1 b_2 b_3 b_4 b_5 : Int) (w : World) (h : store_sameHead.B0 a_0 a_1 a_2 a_3 a_4 a_5 b_0 b_1 b_2 b_3 b_4 b_5 w   R) :
    KW Try.prog 27 45 (store_sameHead.RV R) ([(0, [])].map (toItem (Try.f27.body.getD .skip))) [(0, .agg #[.bool a_0, .int .i64 a_1, .int .i64 a_2, .int .i64 a_3, .int .i64 a_4, .int .i64 a_5]), (1, .agg #[.bool b_0, .int .i64 b_1, .int .i64 b_2, .int .i64 b_3, .int .i64 b_4, .int .i64 b_5])] w := by
  exact block_spec Try.func27 Try.mixed stops_nil (Eq.mp (store_sameHead.B0_eq a_0 a_1 a_2 a_3 a_4 a_5 b_0 b_1 b_2 b_3 b_4 b_5 w   R ) h)
theorem store_sameHead.sound (a_0 : Bool) (a_1 a_2 a_3 a_4 a_5 : Int) (b_0 : Bool) (b_1 b_2 b_3 b_4 b_5 : Int) (w : World) (R : Bool → World → Prop) (h : store_sameHead.B0 a_0 a_1 a_2 a_3 a_4 a_5 b_0 b_1 b_2 b_3 b_4 b_5 w R) : store_sameHead.Call a_0 a_1 a_2 a_3 a_4 a_5 b_0 b_1 b_2 b_3 b_4 b_5 w R := by
  have hc := calls_of_block (args := #[.agg #[.bool a_0, .int .i64 a_1, .int .i64 a_2, .int .i64 a_3, .int .i64 a_4, .int .i64 a_5], .agg #[.bool b_0, .int .i64 b_1, .int .i64 b_2, .int .i64 b_3, .int .i64 b_4, .int .i64 b_5]]) Try.func27 (body := (Try.f27.body.getD .skip)) (by kernel_rfl) (by kernel_rfl) (args_slot _) (store_sameHead.B0_sound a_0 a_1 a_2 a_3 a_4 a_5 b_0 b_1 b_2 b_3 b_4 b_5 w h)
  exact hc.mono fun e w' he => by
    obtain ⟨v, rfl, hv⟩ := he
    exact store_sameHead.RV_elim hv
def diskm_Disk_Steps.B0 (d : Option Addr) (w : World)   (R : Int → World → Prop) : Prop :=
  Pn d fun a =>
  LdL (a.add 2) w fun x6_b x6_l x6_c =>
  R ((x6_l : Nat) : Int) w
theorem diskm_Disk_Steps.B0_eq (d : Option Addr) (w : World)   (R : Int → World → Prop)  :
    (
  Pn d fun a =>
  LdL (a.add 2) w fun x6_b x6_l x6_c =>
  R ((x6_l : Nat) : Int) w) = kstep Try.prog 8 Try.f28.results.toList (Try.f28.body.getD .skip) (diskm_Disk_Steps.RV R) (kvc Try.prog 8 Try.f28.results.toList (Try.f28.body.getD .skip) (diskm_Disk_Steps.RV R) [] 2000) [(0, [])] [(0, .pointer d)] w := by kernel_rfl
theorem diskm_Disk_Steps.B0_sound {R : Int → World → Prop}  (d : Option Addr) (w : World) (h : diskm_Disk_Steps.B0 d w   R) :
    KW Try.prog 28 8 (diskm_Disk_Steps.RV R) ([(0, [])].map (toItem (Try.f28.body.getD .skip))) [(0, .pointer d)] w := by
  exact block_spec Try.func28 Try.mixed stops_nil (Eq.mp (diskm_Disk_Steps.B0_eq d w   R ) h)
theorem diskm_Disk_Steps.sound (d : Option Addr) (w : World) (R : Int → World → Prop) (h : diskm_Disk_Steps.B0 d w R) : diskm_Disk_Steps.Call d w R := by
  have hc := calls_of_block (args := #[.pointer d]) Try.func28 (body := (Try.f28.body.getD .skip)) (by kernel_rfl) (by kernel_rfl) (args_slot _) (diskm_Disk_Steps.B0_sound d w h)
  exact hc.mono fun e w' he => by
    obtain ⟨v, rfl, hv⟩ := he
    exact diskm_Disk_Steps.RV_elim hv
def store_New.B0 (d : Option Addr) (w : World)   (R : Option Addr → World → Prop) : Prop :=
  store_Open.Call d w fun r4 w1 =>
  R r4 w1
theorem store_New.B0_eq (d : Option Addr) (w : World)   (R : Option Addr → World → Prop)  :
    (
  store_Open.Call d w fun r4 w1 =>
  R r4 w1) = kstep Try.prog 5 Try.f29.results.toList (Try.f29.body.getD .skip) (store_New.RV R) (kvc Try.prog 5 Try.f29.results.toList (Try.f29.body.getD .skip) (store_New.RV R) [] 2000) [(0, [])] [(0, .pointer d)] w := by kernel_rfl
theorem store_New.B0_sound {R : Option Addr → World → Prop}  (d : Option Addr) (w : World) (h : store_New.B0 d w   R) :
    KW Try.prog 29 5 (store_New.RV R) ([(0, [])].map (toItem (Try.f29.body.getD .skip))) [(0, .pointer d)] w := by
  exact block_spec Try.func29 Try.mixed stops_nil (Eq.mp (store_New.B0_eq d w   R ) h)
theorem store_New.sound (d : Option Addr) (w : World) (R : Option Addr → World → Prop) (h : store_New.B0 d w R) : store_New.Call d w R := by
  have hc := calls_of_block (args := #[.pointer d]) Try.func29 (body := (Try.f29.body.getD .skip)) (by kernel_rfl) (by kernel_rfl) (args_slot _) (store_New.B0_sound d w h)
  exact hc.mono fun e w' he => by
    obtain ⟨v, rfl, hv⟩ := he
    exact store_New.RV_elim hv
def storem_New.B0  (w : World)   (R : Option Addr → World → Prop) : Prop :=
  New (.cells #[.int .i64 (0 : Int), .int .i64 (-1 : Int), .int .i64 (0 : Int), .int .i64 (0 : Int), .string (ByteArray.mk #[]), .bool false, .bool false, .bool false, .bool false, .bool false, .bool false, .int .i64 (0 : Int), .int .i64 (0 : Int), .string (ByteArray.mk #[]), .int .i64 (0 : Int), .int .i64 (0 : Int), .string (ByteArray.mk #[]), .int .i64 (0 : Int), .int .i64 (0 : Int), .string (ByteArray.mk #[]), .int .i64 (0 : Int), .int .i64 (0 : Int), .string (ByteArray.mk #[]), .int .i64 (0 : Int), .int .i64 (0 : Int), .string (ByteArray.mk #[]), .int .i64 (0 : Int), .int .i64 (0 : Int), .string (ByteArray.mk #[])] 90) w fun b3 w1 =>
  New (.cells #[.pointer (some ⟨b3, 0, none⟩), .pointer none, .slice none 0 0] 93) w1 fun b5 w2 =>
  LdP ⟨b5, 0, none⟩ w2 fun x10 =>
  storem_state_clone.Call x10 w2 fun r11 w3 =>
  Sts [.pointer r11] ⟨b5, 1, none⟩ 0 w3 fun w4 =>
  R (some ⟨b5, 0, none⟩) w4
theorem storem_New.B0_eq  (w : World)   (R : Option Addr → World → Prop)  :
    (
  New (.cells #[.int .i64 (0 : Int), .int .i64 (-1 : Int), .int .i64 (0 : Int), .int .i64 (0 : Int), .string (ByteArray.mk #[]), .bool false, .bool false, .bool false, .bool false, .bool false, .bool false, .int .i64 (0 : Int), .int .i64 (0 : Int), .string (ByteArray.mk #[]), .int .i64 (0 : Int), .int .i64 (0 : Int), .string (ByteArray.mk #[]), .int .i64 (0 : Int), .int .i64 (0 : Int), .string (ByteArray.mk #[]), .int .i64 (0 : Int), .int .i64 (0 : Int), .string (ByteArray.mk #[]), .int .i64 (0 : Int), .int .i64 (0 : Int), .string (ByteArray.mk #[]), .int .i64 (0 : Int), .int .i64 (0 : Int), .string (ByteArray.mk #[])] 90) w fun b3 w1 =>
  New (.cells #[.pointer (some ⟨b3, 0, none⟩), .pointer none, .slice none 0 0] 93) w1 fun b5 w2 =>
  LdP ⟨b5, 0, none⟩ w2 fun x10 =>
  storem_state_clone.Call x10 w2 fun r11 w3 =>
  Sts [.pointer r11] ⟨b5, 1, none⟩ 0 w3 fun w4 =>
  R (some ⟨b5, 0, none⟩) w4) = kstep Try.prog 15 Try.f30.results.toList (Try.f30.body.getD .skip) (storem_New.RV R) (kvc Try.prog 15 Try.f30.results.toList (Try.f30.body.getD .skip) (storem_New.RV R) [] 2000) [(0, [])] [] w := by kernel_rfl
theorem storem_New.B0_sound {R : Option Addr → World → Prop}   (w : World) (h : storem_New.B0  w   R) :
    KW Try.prog 30 15 (storem_New.RV R) ([(0, [])].map (toItem (Try.f30.body.getD .skip))) [] w := by
  exact block_spec Try.func30 Try.mixed stops_nil (Eq.mp (storem_New.B0_eq  w   R ) h)
theorem storem_New.sound  (w : World) (R : Option Addr → World → Prop) (h : storem_New.B0  w R) : storem_New.Call  w R := by
  have hc := calls_of_block (args := #[]) Try.func30 (body := (Try.f30.body.getD .skip)) (by kernel_rfl) (by kernel_rfl) (args_slot _) (storem_New.B0_sound  w h)
  exact hc.mono fun e w' he => by
    obtain ⟨v, rfl, hv⟩ := he
    exact storem_New.RV_elim hv
def storelaw_Seen.B0 (b_0 x m0 : Option Addr) (n : Int) (w : World)   (R : Bool → World → Prop) : Prop :=
  New (.cells #[.pointer b_0] 25) w fun b_ w1 =>
  storelaw_Alike.Call x m0 w1 fun r13 w2 =>
  Bm (!r13) (
    R false w2) (
    store_Store_Check.Call x w2 fun r16 w3 =>
    LdP ⟨b_, 0, none⟩ w3 fun x17_0 =>
    storelaw_Steps.Call x17_0 w3 fun r18 w4 =>
    Bm (r16.toList == (ByteArray.mk #[]).toList) (
      R (r18 == n) w4) (
      R false w4))
theorem storelaw_Seen.B0_eq (b_0 x m0 : Option Addr) (n : Int) (w : World)   (R : Bool → World → Prop)  :
    (
  New (.cells #[.pointer b_0] 25) w fun b_ w1 =>
  storelaw_Alike.Call x m0 w1 fun r13 w2 =>
  Bm (!r13) (
    R false w2) (
    store_Store_Check.Call x w2 fun r16 w3 =>
    LdP ⟨b_, 0, none⟩ w3 fun x17_0 =>
    storelaw_Steps.Call x17_0 w3 fun r18 w4 =>
    Bm (r16.toList == (ByteArray.mk #[]).toList) (
      R (r18 == n) w4) (
      R false w4))) = kstep Try.prog 26 Try.f31.results.toList (Try.f31.body.getD .skip) (storelaw_Seen.RV R) (kvc Try.prog 26 Try.f31.results.toList (Try.f31.body.getD .skip) (storelaw_Seen.RV R) [] 2000) [(0, [])] [(0, .agg #[.pointer b_0]), (1, .pointer x), (2, .pointer m0), (3, .int .i64 n)] w := by kernel_rfl
theorem storelaw_Seen.B0_sound {R : Bool → World → Prop}  (b_0 x m0 : Option Addr) (n : Int) (w : World) (h : storelaw_Seen.B0 b_0 x m0 n w   R) :
    KW Try.prog 31 26 (storelaw_Seen.RV R) ([(0, [])].map (toItem (Try.f31.body.getD .skip))) [(0, .agg #[.pointer b_0]), (1, .pointer x), (2, .pointer m0), (3, .int .i64 n)] w := by
  exact block_spec Try.func31 Try.mixed stops_nil (Eq.mp (storelaw_Seen.B0_eq b_0 x m0 n w   R ) h)
theorem storelaw_Seen.sound (b_0 x m0 : Option Addr) (n : Int) (w : World) (R : Bool → World → Prop) (h : storelaw_Seen.B0 b_0 x m0 n w R) : storelaw_Seen.Call b_0 x m0 n w R := by
  have hc := calls_of_block (args := #[.agg #[.pointer b_0], .pointer x, .pointer m0, .int .i64 n]) Try.func31 (body := (Try.f31.body.getD .skip)) (by kernel_rfl) (by kernel_rfl) (args_slot _) (storelaw_Seen.B0_sound b_0 x m0 n w h)
  exact hc.mono fun e w' he => by
    obtain ⟨v, rfl, hv⟩ := he
    exact storelaw_Seen.RV_elim hv
def storem_Store_Mark.B0 (t : Option Addr) (w : World)   (R : World → Prop) : Prop :=
  Pn t fun a =>
  LdP a w fun x6 =>
  storem_state_clone.Call x6 w fun r7 w1 =>
  Pn t fun a_1 =>
  Sts [.pointer r7] (a_1.add 1) 0 w1 fun w2 =>
  Pn t fun a_2 =>
  Sts [.slice none 0 0] (a_2.add 2) 0 w2 fun w3 =>
  R  w3
theorem storem_Store_Mark.B0_eq (t : Option Addr) (w : World)   (R : World → Prop)  :
    (
  Pn t fun a =>
  LdP a w fun x6 =>
  storem_state_clone.Call x6 w fun r7 w1 =>
  Pn t fun a_1 =>
  Sts [.pointer r7] (a_1.add 1) 0 w1 fun w2 =>
  Pn t fun a_2 =>
  Sts [.slice none 0 0] (a_2.add 2) 0 w2 fun w3 =>
  R  w3) = kstep Try.prog 13 Try.f32.results.toList (Try.f32.body.getD .skip) (storem_Store_Mark.RV R) (kvc Try.prog 13 Try.f32.results.toList (Try.f32.body.getD .skip) (storem_Store_Mark.RV R) [] 2000) [(0, [])] [(0, .pointer t)] w := by kernel_rfl
theorem storem_Store_Mark.B0_sound {R : World → Prop}  (t : Option Addr) (w : World) (h : storem_Store_Mark.B0 t w   R) :
    KW Try.prog 32 13 (storem_Store_Mark.RV R) ([(0, [])].map (toItem (Try.f32.body.getD .skip))) [(0, .pointer t)] w := by
  exact block_spec Try.func32 Try.mixed stops_nil (Eq.mp (storem_Store_Mark.B0_eq t w   R ) h)
theorem storem_Store_Mark.sound (t : Option Addr) (w : World) (R : World → Prop) (h : storem_Store_Mark.B0 t w R) : storem_Store_Mark.Call t w R := by
  have hc := calls_of_block (args := #[.pointer t]) Try.func32 (body := (Try.f32.body.getD .skip)) (by kernel_rfl) (by kernel_rfl) (args_slot _) (storem_Store_Mark.B0_sound t w h)
  exact hc.mono fun e w' he => by
    obtain ⟨v, rfl, hv⟩ := he
    exact storem_Store_Mark.RV_elim hv
def storelaw_Play.B0 (x m0 : Option Addr) (o_0 o_1 o_2 o_3 : Int) (o_4 o_5 : ByteArray) (w : World)   (R : Bool → Bool → World → Prop) : Prop :=
  New (.cells #[.int .i64 o_0, .int .i64 o_1, .int .i64 o_2, .int .i64 o_3, .string o_4, .string o_5] 29) w fun o_ w1 =>
  LdI .i64 ⟨o_, 0, none⟩ w1 fun x11 =>
  Bm (x11 == (1 : Int)) (
    LdI .i64 ⟨o_, 1, none⟩ w1 fun x16 =>
    LdI .i64 ⟨o_, 2, none⟩ w1 fun x18 =>
    store_Store_SetMeta.Call x x16 x18 w1 fun r19 w2 =>
    LdI .i64 ⟨o_, 1, none⟩ w2 fun x22 =>
    LdI .i64 ⟨o_, 2, none⟩ w2 fun x24 =>
    storem_Store_SetMeta.Call m0 x22 x24 w2 fun r25 w3 =>
    R (r19 == r25) (r19 == (0 : Int)) w3) (
    Bm (x11 == (2 : Int)) (
      LdI .i64 ⟨o_, 1, none⟩ w1 fun x30 =>
      LdI .i64 ⟨o_, 2, none⟩ w1 fun x32 =>
      LdS ⟨o_, 4, none⟩ w1 fun x34 =>
      store_Store_SetSnap.Call x x30 x32 x34 w1 fun r35 w4 =>
      LdI .i64 ⟨o_, 1, none⟩ w4 fun x38 =>
      LdI .i64 ⟨o_, 2, none⟩ w4 fun x40 =>
      LdS ⟨o_, 4, none⟩ w4 fun x42 =>
      storem_Store_SetSnap.Call m0 x38 x40 x42 w4 fun r43 w5 =>
      R (r35 == r43) (r35 == (0 : Int)) w5) (
      Bm (x11 == (3 : Int)) (
        LdI .i64 ⟨o_, 1, none⟩ w1 fun x48 =>
        LdI .i64 ⟨o_, 2, none⟩ w1 fun x50 =>
        LdI .i64 ⟨o_, 3, none⟩ w1 fun x52 =>
        LdS ⟨o_, 4, none⟩ w1 fun x54 =>
        store_Store_PutRec.Call x x48 x50 x52 x54 w1 fun r56 w6 =>
        LdI .i64 ⟨o_, 1, none⟩ w6 fun x59 =>
        LdI .i64 ⟨o_, 2, none⟩ w6 fun x61 =>
        LdI .i64 ⟨o_, 3, none⟩ w6 fun x63 =>
        LdS ⟨o_, 4, none⟩ w6 fun x65 =>
        storem_Store_PutRec.Call m0 x59 x61 x63 x65 w6 fun r67 w7 =>
        R (r56 == r67) (r56 == (0 : Int)) w7) (
        Bm (x11 == (4 : Int)) (
          LdI .i64 ⟨o_, 1, none⟩ w1 fun x72 =>
          store_Store_DelRec.Call x x72 w1 fun r73 w8 =>
          LdI .i64 ⟨o_, 1, none⟩ w8 fun x76 =>
          storem_Store_DelRec.Call m0 x76 w8 fun r77 w9 =>
          R (r73 == r77) (r73 == (0 : Int)) w9) (
          Bm (x11 == (5 : Int)) (
            LdI .i64 ⟨o_, 1, none⟩ w1 fun x83 =>
            storelaw_SameRec.Call x m0 x83 w1 fun r84 w10 =>
            R r84 false w10) (
            Bm (x11 == (21 : Int)) (
              storelaw_SameMeta.Call x m0 w1 fun r89 w11 =>
              R r89 false w11) (
              Bm (x11 == (22 : Int)) (
                storelaw_SameSnap.Call x m0 w1 fun r94 w12 =>
                R r94 false w12) (
                Bm (x11 == (23 : Int)) (
                  store_Store_Check.Call x w1 fun r98 w13 =>
                  R (r98.toList == (ByteArray.mk #[]).toList) false w13) (
                  R ((2 : Int) == (2 : Int)) ((2 : Int) == (0 : Int)) w1))))))))
theorem storelaw_Play.B0_eq (x m0 : Option Addr) (o_0 o_1 o_2 o_3 : Int) (o_4 o_5 : ByteArray) (w : World)   (R : Bool → Bool → World → Prop)  :
    (
  New (.cells #[.int .i64 o_0, .int .i64 o_1, .int .i64 o_2, .int .i64 o_3, .string o_4, .string o_5] 29) w fun o_ w1 =>
  LdI .i64 ⟨o_, 0, none⟩ w1 fun x11 =>
  Bm (x11 == (1 : Int)) (
    LdI .i64 ⟨o_, 1, none⟩ w1 fun x16 =>
    LdI .i64 ⟨o_, 2, none⟩ w1 fun x18 =>
    store_Store_SetMeta.Call x x16 x18 w1 fun r19 w2 =>
    LdI .i64 ⟨o_, 1, none⟩ w2 fun x22 =>
    LdI .i64 ⟨o_, 2, none⟩ w2 fun x24 =>
    storem_Store_SetMeta.Call m0 x22 x24 w2 fun r25 w3 =>
    R (r19 == r25) (r19 == (0 : Int)) w3) (
    Bm (x11 == (2 : Int)) (
      LdI .i64 ⟨o_, 1, none⟩ w1 fun x30 =>
      LdI .i64 ⟨o_, 2, none⟩ w1 fun x32 =>
      LdS ⟨o_, 4, none⟩ w1 fun x34 =>
      store_Store_SetSnap.Call x x30 x32 x34 w1 fun r35 w4 =>
      LdI .i64 ⟨o_, 1, none⟩ w4 fun x38 =>
      LdI .i64 ⟨o_, 2, none⟩ w4 fun x40 =>
      LdS ⟨o_, 4, none⟩ w4 fun x42 =>
      storem_Store_SetSnap.Call m0 x38 x40 x42 w4 fun r43 w5 =>
      R (r35 == r43) (r35 == (0 : Int)) w5) (
      Bm (x11 == (3 : Int)) (
        LdI .i64 ⟨o_, 1, none⟩ w1 fun x48 =>
        LdI .i64 ⟨o_, 2, none⟩ w1 fun x50 =>
        LdI .i64 ⟨o_, 3, none⟩ w1 fun x52 =>
        LdS ⟨o_, 4, none⟩ w1 fun x54 =>
        store_Store_PutRec.Call x x48 x50 x52 x54 w1 fun r56 w6 =>
        LdI .i64 ⟨o_, 1, none⟩ w6 fun x59 =>
        LdI .i64 ⟨o_, 2, none⟩ w6 fun x61 =>
        LdI .i64 ⟨o_, 3, none⟩ w6 fun x63 =>
        LdS ⟨o_, 4, none⟩ w6 fun x65 =>
        storem_Store_PutRec.Call m0 x59 x61 x63 x65 w6 fun r67 w7 =>
        R (r56 == r67) (r56 == (0 : Int)) w7) (
        Bm (x11 == (4 : Int)) (
          LdI .i64 ⟨o_, 1, none⟩ w1 fun x72 =>
          store_Store_DelRec.Call x x72 w1 fun r73 w8 =>
          LdI .i64 ⟨o_, 1, none⟩ w8 fun x76 =>
          storem_Store_DelRec.Call m0 x76 w8 fun r77 w9 =>
          R (r73 == r77) (r73 == (0 : Int)) w9) (
          Bm (x11 == (5 : Int)) (
            LdI .i64 ⟨o_, 1, none⟩ w1 fun x83 =>
            storelaw_SameRec.Call x m0 x83 w1 fun r84 w10 =>
            R r84 false w10) (
            Bm (x11 == (21 : Int)) (
              storelaw_SameMeta.Call x m0 w1 fun r89 w11 =>
              R r89 false w11) (
              Bm (x11 == (22 : Int)) (
                storelaw_SameSnap.Call x m0 w1 fun r94 w12 =>
                R r94 false w12) (
                Bm (x11 == (23 : Int)) (
                  store_Store_Check.Call x w1 fun r98 w13 =>
                  R (r98.toList == (ByteArray.mk #[]).toList) false w13) (
                  R ((2 : Int) == (2 : Int)) ((2 : Int) == (0 : Int)) w1))))))))) = kstep Try.prog 105 Try.f33.results.toList (Try.f33.body.getD .skip) (storelaw_Play.RV R) (kvc Try.prog 105 Try.f33.results.toList (Try.f33.body.getD .skip) (storelaw_Play.RV R) [] 2000) [(0, [])] [(0, .pointer x), (1, .pointer m0), (2, .agg #[.int .i64 o_0, .int .i64 o_1, .int .i64 o_2, .int .i64 o_3, .string o_4, .string o_5])] w := by kernel_rfl
theorem storelaw_Play.B0_sound {R : Bool → Bool → World → Prop}  (x m0 : Option Addr) (o_0 o_1 o_2 o_3 : Int) (o_4 o_5 : ByteArray) (w : World) (h : storelaw_Play.B0 x m0 o_0 o_1 o_2 o_3 o_4 o_5 w   R) :
    KW Try.prog 33 105 (storelaw_Play.RV R) ([(0, [])].map (toItem (Try.f33.body.getD .skip))) [(0, .pointer x), (1, .pointer m0), (2, .agg #[.int .i64 o_0, .int .i64 o_1, .int .i64 o_2, .int .i64 o_3, .string o_4, .string o_5])] w := by
  exact block_spec Try.func33 Try.mixed stops_nil (Eq.mp (storelaw_Play.B0_eq x m0 o_0 o_1 o_2 o_3 o_4 o_5 w   R ) h)
theorem storelaw_Play.sound (x m0 : Option Addr) (o_0 o_1 o_2 o_3 : Int) (o_4 o_5 : ByteArray) (w : World) (R : Bool → Bool → World → Prop) (h : storelaw_Play.B0 x m0 o_0 o_1 o_2 o_3 o_4 o_5 w R) : storelaw_Play.Call x m0 o_0 o_1 o_2 o_3 o_4 o_5 w R := by
  have hc := calls_of_block (args := #[.pointer x, .pointer m0, .agg #[.int .i64 o_0, .int .i64 o_1, .int .i64 o_2, .int .i64 o_3, .string o_4, .string o_5]]) Try.func33 (body := (Try.f33.body.getD .skip)) (by kernel_rfl) (by kernel_rfl) (args_slot _) (storelaw_Play.B0_sound x m0 o_0 o_1 o_2 o_3 o_4 o_5 w h)
  exact hc.mono fun e w' he => by
    obtain ⟨v, rfl, hv⟩ := he
    exact storelaw_Play.RV_elim hv
def storelaw_After.B0 (b_0 : Option Addr) (k : Int) (w : World)   (R : Option Addr → World → Prop) : Prop :=
  New (.cells #[.pointer b_0] 25) w fun b_ w1 =>
  New (.cells #[.pointer none] 25) w1 fun b4 w2 =>
  LdP ⟨b_, 0, none⟩ w2 fun x7 =>
  diskm_Disk_After.Call x7 k w2 fun r9 w3 =>
  diskm_Disk_Mark.Call r9 w3 fun w4 =>
  Sts [.pointer r9] ⟨b4, 0, none⟩ 0 w4 fun w5 =>
  LdP ⟨b4, 0, none⟩ w5 fun r_0 =>
  R r_0 w5
theorem storelaw_After.B0_eq (b_0 : Option Addr) (k : Int) (w : World)   (R : Option Addr → World → Prop)  :
    (
  New (.cells #[.pointer b_0] 25) w fun b_ w1 =>
  New (.cells #[.pointer none] 25) w1 fun b4 w2 =>
  LdP ⟨b_, 0, none⟩ w2 fun x7 =>
  diskm_Disk_After.Call x7 k w2 fun r9 w3 =>
  diskm_Disk_Mark.Call r9 w3 fun w4 =>
  Sts [.pointer r9] ⟨b4, 0, none⟩ 0 w4 fun w5 =>
  LdP ⟨b4, 0, none⟩ w5 fun r_0 =>
  R r_0 w5) = kstep Try.prog 14 Try.f34.results.toList (Try.f34.body.getD .skip) (storelaw_After.RV R) (kvc Try.prog 14 Try.f34.results.toList (Try.f34.body.getD .skip) (storelaw_After.RV R) [] 2000) [(0, [])] [(0, .agg #[.pointer b_0]), (1, .int .i64 k)] w := by kernel_rfl
theorem storelaw_After.B0_sound {R : Option Addr → World → Prop}  (b_0 : Option Addr) (k : Int) (w : World) (h : storelaw_After.B0 b_0 k w   R) :
    KW Try.prog 34 14 (storelaw_After.RV R) ([(0, [])].map (toItem (Try.f34.body.getD .skip))) [(0, .agg #[.pointer b_0]), (1, .int .i64 k)] w := by
  exact block_spec Try.func34 Try.mixed stops_nil (Eq.mp (storelaw_After.B0_eq b_0 k w   R ) h)
theorem storelaw_After.sound (b_0 : Option Addr) (k : Int) (w : World) (R : Option Addr → World → Prop) (h : storelaw_After.B0 b_0 k w R) : storelaw_After.Call b_0 k w R := by
  have hc := calls_of_block (args := #[.agg #[.pointer b_0], .int .i64 k]) Try.func34 (body := (Try.f34.body.getD .skip)) (by kernel_rfl) (by kernel_rfl) (args_slot _) (storelaw_After.B0_sound b_0 k w h)
  exact hc.mono fun e w' he => by
    obtain ⟨v, rfl, hv⟩ := he
    exact storelaw_After.RV_elim hv
def storelaw_Fits.L1b (x m0 : Option Addr) (n j : Int) (w : World)  (N1 : Option Addr → Option Addr → Int → Int → World → Prop) (R : Int → World → Prop) : Prop :=
  Bm (decide (j ≤ n)) (
    storem_Store_After.Call m0 j w fun r17 w1 =>
    storelaw_Alike.Call x r17 w1 fun r20 w2 =>
    Bm r20 (
      R j w2) (
      N1 x m0 n (IntKind.i64.wrap (j + (1 : Int))) w2)) (
    R (-1 : Int) w)
theorem storelaw_Fits.L1b_eq (x m0 : Option Addr) (n j : Int) (w : World)  (N1 : Option Addr → Option Addr → Int → Int → World → Prop) (R : Int → World → Prop)  :
    (
  Bm (decide (j ≤ n)) (
    storem_Store_After.Call m0 j w fun r17 w1 =>
    storelaw_Alike.Call x r17 w1 fun r20 w2 =>
    Bm r20 (
      R j w2) (
      N1 x m0 n (IntKind.i64.wrap (j + (1 : Int))) w2)) (
    R (-1 : Int) w)) = kstep Try.prog 22 Try.f35.results.toList (Try.f35.body.getD .skip) (storelaw_Fits.RV R) (kvc Try.prog 22 Try.f35.results.toList (Try.f35.body.getD .skip) (storelaw_Fits.RV R) [([(0, [1, 1, 0, 1, 0, 0]), (2, [1, 1, 0, 1, 0, 0]), (1, [0]), (0, [1, 1, 1])], fun σ w => dP (slotOf σ 0) fun x_ => dP (slotOf σ 1) fun m0_ => dI .i64 (slotOf σ 5) fun n_ => dI .i64 (slotOf σ 6) fun j_ => N1 x_ m0_ n_ j_ w)] 2000) [(0, [1, 1, 0, 1, 0, 0]), (2, [1, 1, 0, 1, 0, 0]), (1, [0]), (0, [1, 1, 1])] [(0, .pointer x), (1, .pointer m0), (5, .int .i64 n), (6, .int .i64 j)] w := by kernel_rfl
theorem storelaw_Fits.L1b_sound {R : Int → World → Prop} {N1 : Option Addr → Option Addr → Int → Int → World → Prop} (hN1 : ∀ x m0 n j w, N1 x m0 n j w → KW Try.prog 35 22 (storelaw_Fits.RV R) ([(0, [1, 1, 0, 1, 0, 0]), (2, [1, 1, 0, 1, 0, 0]), (1, [0]), (0, [1, 1, 1])].map (toItem (Try.f35.body.getD .skip))) [(0, .pointer x), (1, .pointer m0), (5, .int .i64 n), (6, .int .i64 j)] w) (x m0 : Option Addr) (n j : Int) (w : World) (h : storelaw_Fits.L1b x m0 n j w  N1 R) :
    KW Try.prog 35 22 (storelaw_Fits.RV R) ([(0, [1, 1, 0, 1, 0, 0]), (2, [1, 1, 0, 1, 0, 0]), (1, [0]), (0, [1, 1, 1])].map (toItem (Try.f35.body.getD .skip))) [(0, .pointer x), (1, .pointer m0), (5, .int .i64 n), (6, .int .i64 j)] w := by
  exact block_spec Try.func35 Try.mixed (stops_cons (fun σ w h => by
      obtain ⟨x_, e0, h⟩ := dP_elim h
      obtain ⟨m0_, e1, h⟩ := dP_elim h
      obtain ⟨n_, e2, h⟩ := dI_elim h
      obtain ⟨j_, e3, h⟩ := dI_elim h
      exact (hN1 x_ m0_ n_ j_ w h).weaken (Sub.cons (Sub.cons (Sub.cons (Sub.cons (Sub.nil _) e3) e2) e1) e0)) stops_nil) (Eq.mp (storelaw_Fits.L1b_eq x m0 n j w  N1 R ) h)
def storelaw_Fits.L1 (x m0 : Option Addr) (n j : Int) (w : World)  (R : Int → World → Prop) : Prop :=
  ∃ (I : Nat → Option Addr → Option Addr → Int → Int → World → Prop) (m : Nat), I m x m0 n j w ∧ ∀ m x m0 n j w, I m x m0 n j w → storelaw_Fits.L1b x m0 n j w  (fun x' m0' n' j' w' => ∃ m', m' < m ∧ I m' x' m0' n' j' w') R
theorem storelaw_Fits.L1_sound {R : Int → World → Prop}  (x m0 : Option Addr) (n j : Int) (w : World) (h : storelaw_Fits.L1 x m0 n j w  R) :
    KW Try.prog 35 22 (storelaw_Fits.RV R) ([(0, [1, 1, 0, 1, 0, 0]), (2, [1, 1, 0, 1, 0, 0]), (1, [0]), (0, [1, 1, 1])].map (toItem (Try.f35.body.getD .skip))) [(0, .pointer x), (1, .pointer m0), (5, .int .i64 n), (6, .int .i64 j)] w := by
  obtain ⟨I, m, h0, hr⟩ := h
  refine KW.loop (fun m σ w => ∃ (x m0 : Option Addr) (n j : Int), σ = [(0, .pointer x), (1, .pointer m0), (5, .int .i64 n), (6, .int .i64 j)] ∧ I m x m0 n j w) ?_ m _ w ⟨x, m0, n, j, rfl, h0⟩
  rintro m ih σ w ⟨x, m0, n, j, rfl, hI⟩
  exact storelaw_Fits.L1b_sound  (N1 := fun x' m0' n' j' w' => ∃ m', m' < m ∧ I m' x' m0' n' j' w') (fun x' m0' n' j' w' hx => by obtain ⟨m', hlt, hI'⟩ := hx; exact ih m' hlt _ w' ⟨x', m0', n', j', rfl, hI'⟩) x m0 n j w (hr m x m0 n j w hI)
def storelaw_Fits.B0 (x m0 : Option Addr) (w : World)   (R : Int → World → Prop) : Prop :=
  storem_Store_Steps.Call m0 w fun r9 w1 =>
  storelaw_Fits.L1 x m0 r9 (0 : Int) w1  R
theorem storelaw_Fits.B0_eq (x m0 : Option Addr) (w : World)   (R : Int → World → Prop) (sL1 : Option Addr → Option Addr → Int → Int → World → Prop) :
    (
  storem_Store_Steps.Call m0 w fun r9 w1 =>
  sL1 x m0 r9 (0 : Int) w1) = kstep Try.prog 22 Try.f35.results.toList (Try.f35.body.getD .skip) (storelaw_Fits.RV R) (kvc Try.prog 22 Try.f35.results.toList (Try.f35.body.getD .skip) (storelaw_Fits.RV R) [([(0, [1, 1, 0, 1, 0, 0]), (2, [1, 1, 0, 1, 0, 0]), (1, [0]), (0, [1, 1, 1])], fun σ w => dP (slotOf σ 0) fun x_ => dP (slotOf σ 1) fun m0_ => dI .i64 (slotOf σ 5) fun n_ => dI .i64 (slotOf σ 6) fun j_ => sL1 x_ m0_ n_ j_ w)] 2000) [(0, [])] [(0, .pointer x), (1, .pointer m0)] w := by kernel_rfl
theorem storelaw_Fits.B0_sound {R : Int → World → Prop}  (x m0 : Option Addr) (w : World) (h : storelaw_Fits.B0 x m0 w   R) :
    KW Try.prog 35 22 (storelaw_Fits.RV R) ([(0, [])].map (toItem (Try.f35.body.getD .skip))) [(0, .pointer x), (1, .pointer m0)] w := by
  exact block_spec Try.func35 Try.mixed (stops_cons (fun σ w h => by
      obtain ⟨x_, e0, h⟩ := dP_elim h
      obtain ⟨m0_, e1, h⟩ := dP_elim h
      obtain ⟨n_, e2, h⟩ := dI_elim h
      obtain ⟨j_, e3, h⟩ := dI_elim h
      exact (storelaw_Fits.L1_sound  x_ m0_ n_ j_ w h).weaken (Sub.cons (Sub.cons (Sub.cons (Sub.cons (Sub.nil _) e3) e2) e1) e0)) stops_nil) (Eq.mp (storelaw_Fits.B0_eq x m0 w   R (fun x_ m0_ n_ j_ w => storelaw_Fits.L1 x_ m0_ n_ j_ w  R)) h)
theorem storelaw_Fits.sound (x m0 : Option Addr) (w : World) (R : Int → World → Prop) (h : storelaw_Fits.B0 x m0 w R) : storelaw_Fits.Call x m0 w R := by
  have hc := calls_of_block (args := #[.pointer x, .pointer m0]) Try.func35 (body := (Try.f35.body.getD .skip)) (by kernel_rfl) (by kernel_rfl) (args_slot _) (storelaw_Fits.B0_sound x m0 w h)
  exact hc.mono fun e w' he => by
    obtain ⟨v, rfl, hv⟩ := he
    exact storelaw_Fits.RV_elim hv
def storem_Store_Steps.B0 (t : Option Addr) (w : World)   (R : Int → World → Prop) : Prop :=
  Pn t fun a =>
  LdL (a.add 2) w fun x6_b x6_l x6_c =>
  R ((x6_l : Nat) : Int) w
theorem storem_Store_Steps.B0_eq (t : Option Addr) (w : World)   (R : Int → World → Prop)  :
    (
  Pn t fun a =>
  LdL (a.add 2) w fun x6_b x6_l x6_c =>
  R ((x6_l : Nat) : Int) w) = kstep Try.prog 8 Try.f36.results.toList (Try.f36.body.getD .skip) (storem_Store_Steps.RV R) (kvc Try.prog 8 Try.f36.results.toList (Try.f36.body.getD .skip) (storem_Store_Steps.RV R) [] 2000) [(0, [])] [(0, .pointer t)] w := by kernel_rfl
theorem storem_Store_Steps.B0_sound {R : Int → World → Prop}  (t : Option Addr) (w : World) (h : storem_Store_Steps.B0 t w   R) :
    KW Try.prog 36 8 (storem_Store_Steps.RV R) ([(0, [])].map (toItem (Try.f36.body.getD .skip))) [(0, .pointer t)] w := by
  exact block_spec Try.func36 Try.mixed stops_nil (Eq.mp (storem_Store_Steps.B0_eq t w   R ) h)
theorem storem_Store_Steps.sound (t : Option Addr) (w : World) (R : Int → World → Prop) (h : storem_Store_Steps.B0 t w R) : storem_Store_Steps.Call t w R := by
  have hc := calls_of_block (args := #[.pointer t]) Try.func36 (body := (Try.f36.body.getD .skip)) (by kernel_rfl) (by kernel_rfl) (args_slot _) (storem_Store_Steps.B0_sound t w h)
  exact hc.mono fun e w' he => by
    obtain ⟨v, rfl, hv⟩ := he
    exact storem_Store_Steps.RV_elim hv
def storem_Store_After.B2 (from0 : Option Addr) (w : World)   (R : Option Addr → World → Prop) : Prop :=
  New (.cells #[.pointer none, .pointer none, .slice none 0 0] 93) w fun b34 w1 =>
  storem_state_clone.Call from0 w1 fun r37 w2 =>
  Sts [.pointer r37] ⟨b34, 0, none⟩ 0 w2 fun w3 =>
  storem_state_clone.Call from0 w3 fun r42 w4 =>
  Sts [.pointer r42] ⟨b34, 1, none⟩ 0 w4 fun w5 =>
  R (some ⟨b34, 0, none⟩) w5
theorem storem_Store_After.B2_eq (from0 : Option Addr) (w : World)   (R : Option Addr → World → Prop)  :
    (
  New (.cells #[.pointer none, .pointer none, .slice none 0 0] 93) w fun b34 w1 =>
  storem_state_clone.Call from0 w1 fun r37 w2 =>
  Sts [.pointer r37] ⟨b34, 0, none⟩ 0 w2 fun w3 =>
  storem_state_clone.Call from0 w3 fun r42 w4 =>
  Sts [.pointer r42] ⟨b34, 1, none⟩ 0 w4 fun w5 =>
  R (some ⟨b34, 0, none⟩) w5) = kstep Try.prog 46 Try.f37.results.toList (Try.f37.body.getD .skip) (storem_Store_After.RV R) (kvc Try.prog 46 Try.f37.results.toList (Try.f37.body.getD .skip) (storem_Store_After.RV R) [] 2000) [(0, [1, 1, 1, 1])] [(5, .pointer from0)] w := by kernel_rfl
theorem storem_Store_After.B2_sound {R : Option Addr → World → Prop}  (from0 : Option Addr) (w : World) (h : storem_Store_After.B2 from0 w   R) :
    KW Try.prog 37 46 (storem_Store_After.RV R) ([(0, [1, 1, 1, 1])].map (toItem (Try.f37.body.getD .skip))) [(5, .pointer from0)] w := by
  exact block_spec Try.func37 Try.mixed stops_nil (Eq.mp (storem_Store_After.B2_eq from0 w   R ) h)
def storem_Store_After.B1 (t : Option Addr) (k : Int) (from0 : Option Addr) (w : World)   (R : Option Addr → World → Prop) : Prop :=
  Bm (decide (k > (0 : Int))) (
    Pn t fun a =>
    LdL (a.add 2) w fun x28_b x28_l x28_c =>
    Pn x28_b fun a_1 =>
    (0 ≤ (IntKind.i64.wrap (k - (1 : Int))) ∧ (IntKind.i64.wrap (k - (1 : Int))) < ((x28_l : Nat) : Int)) ∧
    LdP (Addr.add a_1 ((IntKind.i64.wrap (k - (1 : Int))).toNat * 1)) w fun x32 =>
    storem_Store_After.B2 x32 w  R) (
    storem_Store_After.B2 from0 w  R)
theorem storem_Store_After.B1_eq (t : Option Addr) (k : Int) (from0 : Option Addr) (w : World)   (R : Option Addr → World → Prop) (sB2 : Option Addr → World → Prop) :
    (
  Bm (decide (k > (0 : Int))) (
    Pn t fun a =>
    LdL (a.add 2) w fun x28_b x28_l x28_c =>
    Pn x28_b fun a_1 =>
    (0 ≤ (IntKind.i64.wrap (k - (1 : Int))) ∧ (IntKind.i64.wrap (k - (1 : Int))) < ((x28_l : Nat) : Int)) ∧
    LdP (Addr.add a_1 ((IntKind.i64.wrap (k - (1 : Int))).toNat * 1)) w fun x32 =>
    sB2 x32 w) (
    sB2 from0 w)) = kstep Try.prog 46 Try.f37.results.toList (Try.f37.body.getD .skip) (storem_Store_After.RV R) (kvc Try.prog 46 Try.f37.results.toList (Try.f37.body.getD .skip) (storem_Store_After.RV R) [([(0, [1, 1, 1, 1])], fun σ w => dP (slotOf σ 5) fun from0_ => sB2 from0_ w)] 2000) [(0, [1, 1, 1])] [(0, .pointer t), (1, .int .i64 k), (5, .pointer from0)] w := by kernel_rfl
theorem storem_Store_After.B1_sound {R : Option Addr → World → Prop}  (t : Option Addr) (k : Int) (from0 : Option Addr) (w : World) (h : storem_Store_After.B1 t k from0 w   R) :
    KW Try.prog 37 46 (storem_Store_After.RV R) ([(0, [1, 1, 1])].map (toItem (Try.f37.body.getD .skip))) [(0, .pointer t), (1, .int .i64 k), (5, .pointer from0)] w := by
  exact block_spec Try.func37 Try.mixed (stops_cons (fun σ w h => by
      obtain ⟨from0_, e0, h⟩ := dP_elim h
      exact (storem_Store_After.B2_sound  from0_ w h).weaken (Sub.cons (Sub.nil _) e0)) stops_nil) (Eq.mp (storem_Store_After.B1_eq t k from0 w   R (fun from0_ w => storem_Store_After.B2 from0_ w  R)) h)
def storem_Store_After.B0 (t : Option Addr) (k : Int) (w : World)   (R : Option Addr → World → Prop) : Prop :=
  Pn t fun a =>
  LdP (a.add 1) w fun x10 =>
  Pn t fun a_1 =>
  LdL (a_1.add 2) w fun x15_b x15_l x15_c =>
  Bm (decide (k > ((x15_l : Nat) : Int))) (
    Pn t fun a_2 =>
    LdL (a_2.add 2) w fun x21_b x21_l x21_c =>
    storem_Store_After.B1 t ((x21_l : Nat) : Int) x10 w  R) (
    storem_Store_After.B1 t k x10 w  R)
theorem storem_Store_After.B0_eq (t : Option Addr) (k : Int) (w : World)   (R : Option Addr → World → Prop) (sB1 : Option Addr → Int → Option Addr → World → Prop) :
    (
  Pn t fun a =>
  LdP (a.add 1) w fun x10 =>
  Pn t fun a_1 =>
  LdL (a_1.add 2) w fun x15_b x15_l x15_c =>
  Bm (decide (k > ((x15_l : Nat) : Int))) (
    Pn t fun a_2 =>
    LdL (a_2.add 2) w fun x21_b x21_l x21_c =>
    sB1 t ((x21_l : Nat) : Int) x10 w) (
    sB1 t k x10 w)) = kstep Try.prog 46 Try.f37.results.toList (Try.f37.body.getD .skip) (storem_Store_After.RV R) (kvc Try.prog 46 Try.f37.results.toList (Try.f37.body.getD .skip) (storem_Store_After.RV R) [([(0, [1, 1, 1])], fun σ w => dP (slotOf σ 0) fun t_ => dI .i64 (slotOf σ 1) fun k_ => dP (slotOf σ 5) fun from0_ => sB1 t_ k_ from0_ w)] 2000) [(0, [])] [(0, .pointer t), (1, .int .i64 k)] w := by kernel_rfl
theorem storem_Store_After.B0_sound {R : Option Addr → World → Prop}  (t : Option Addr) (k : Int) (w : World) (h : storem_Store_After.B0 t k w   R) :
    KW Try.prog 37 46 (storem_Store_After.RV R) ([(0, [])].map (toItem (Try.f37.body.getD .skip))) [(0, .pointer t), (1, .int .i64 k)] w := by
  exact block_spec Try.func37 Try.mixed (stops_cons (fun σ w h => by
      obtain ⟨t_, e0, h⟩ := dP_elim h
      obtain ⟨k_, e1, h⟩ := dI_elim h
      obtain ⟨from0_, e2, h⟩ := dP_elim h
      exact (storem_Store_After.B1_sound  t_ k_ from0_ w h).weaken (Sub.cons (Sub.cons (Sub.cons (Sub.nil _) e2) e1) e0)) stops_nil) (Eq.mp (storem_Store_After.B0_eq t k w   R (fun t_ k_ from0_ w => storem_Store_After.B1 t_ k_ from0_ w  R)) h)
theorem storem_Store_After.sound (t : Option Addr) (k : Int) (w : World) (R : Option Addr → World → Prop) (h : storem_Store_After.B0 t k w R) : storem_Store_After.Call t k w R := by
  have hc := calls_of_block (args := #[.pointer t, .int .i64 k]) Try.func37 (body := (Try.f37.body.getD .skip)) (by kernel_rfl) (by kernel_rfl) (args_slot _) (storem_Store_After.B0_sound t k w h)
  exact hc.mono fun e w' he => by
    obtain ⟨v, rfl, hv⟩ := he
    exact storem_Store_After.RV_elim hv
def storelaw_Alike.L1b (x m0 : Option Addr) (s : Int) (w : World)  (N1 : Option Addr → Option Addr → Int → World → Prop) (R : Bool → World → Prop) : Prop :=
  Bm (decide (s ≤ (6 : Int))) (
    storelaw_SameRec.Call x m0 s w fun r21 w1 =>
    Bm (!r21) (
      R false w1) (
      N1 x m0 (IntKind.i64.wrap (s + (1 : Int))) w1)) (
    R true w)
theorem storelaw_Alike.L1b_eq (x m0 : Option Addr) (s : Int) (w : World)  (N1 : Option Addr → Option Addr → Int → World → Prop) (R : Bool → World → Prop)  :
    (
  Bm (decide (s ≤ (6 : Int))) (
    storelaw_SameRec.Call x m0 s w fun r21 w1 =>
    Bm (!r21) (
      R false w1) (
      N1 x m0 (IntKind.i64.wrap (s + (1 : Int))) w1)) (
    R true w)) = kstep Try.prog 23 Try.f38.results.toList (Try.f38.body.getD .skip) (storelaw_Alike.RV R) (kvc Try.prog 23 Try.f38.results.toList (Try.f38.body.getD .skip) (storelaw_Alike.RV R) [([(0, [1, 1, 1, 0, 1, 0, 0]), (2, [1, 1, 1, 0, 1, 0, 0]), (1, [0]), (0, [1, 1, 1, 1])], fun σ w => dP (slotOf σ 0) fun x_ => dP (slotOf σ 1) fun m0_ => dI .i64 (slotOf σ 5) fun s_ => N1 x_ m0_ s_ w)] 2000) [(0, [1, 1, 1, 0, 1, 0, 0]), (2, [1, 1, 1, 0, 1, 0, 0]), (1, [0]), (0, [1, 1, 1, 1])] [(0, .pointer x), (1, .pointer m0), (5, .int .i64 s)] w := by kernel_rfl
theorem storelaw_Alike.L1b_sound {R : Bool → World → Prop} {N1 : Option Addr → Option Addr → Int → World → Prop} (hN1 : ∀ x m0 s w, N1 x m0 s w → KW Try.prog 38 23 (storelaw_Alike.RV R) ([(0, [1, 1, 1, 0, 1, 0, 0]), (2, [1, 1, 1, 0, 1, 0, 0]), (1, [0]), (0, [1, 1, 1, 1])].map (toItem (Try.f38.body.getD .skip))) [(0, .pointer x), (1, .pointer m0), (5, .int .i64 s)] w) (x m0 : Option Addr) (s : Int) (w : World) (h : storelaw_Alike.L1b x m0 s w  N1 R) :
    KW Try.prog 38 23 (storelaw_Alike.RV R) ([(0, [1, 1, 1, 0, 1, 0, 0]), (2, [1, 1, 1, 0, 1, 0, 0]), (1, [0]), (0, [1, 1, 1, 1])].map (toItem (Try.f38.body.getD .skip))) [(0, .pointer x), (1, .pointer m0), (5, .int .i64 s)] w := by
  exact block_spec Try.func38 Try.mixed (stops_cons (fun σ w h => by
      obtain ⟨x_, e0, h⟩ := dP_elim h
      obtain ⟨m0_, e1, h⟩ := dP_elim h
      obtain ⟨s_, e2, h⟩ := dI_elim h
      exact (hN1 x_ m0_ s_ w h).weaken (Sub.cons (Sub.cons (Sub.cons (Sub.nil _) e2) e1) e0)) stops_nil) (Eq.mp (storelaw_Alike.L1b_eq x m0 s w  N1 R ) h)
def storelaw_Alike.L1 (x m0 : Option Addr) (s : Int) (w : World)  (R : Bool → World → Prop) : Prop :=
  ∃ (I : Nat → Option Addr → Option Addr → Int → World → Prop) (m : Nat), I m x m0 s w ∧ ∀ m x m0 s w, I m x m0 s w → storelaw_Alike.L1b x m0 s w  (fun x' m0' s' w' => ∃ m', m' < m ∧ I m' x' m0' s' w') R
theorem storelaw_Alike.L1_sound {R : Bool → World → Prop}  (x m0 : Option Addr) (s : Int) (w : World) (h : storelaw_Alike.L1 x m0 s w  R) :
    KW Try.prog 38 23 (storelaw_Alike.RV R) ([(0, [1, 1, 1, 0, 1, 0, 0]), (2, [1, 1, 1, 0, 1, 0, 0]), (1, [0]), (0, [1, 1, 1, 1])].map (toItem (Try.f38.body.getD .skip))) [(0, .pointer x), (1, .pointer m0), (5, .int .i64 s)] w := by
  obtain ⟨I, m, h0, hr⟩ := h
  refine KW.loop (fun m σ w => ∃ (x m0 : Option Addr) (s : Int), σ = [(0, .pointer x), (1, .pointer m0), (5, .int .i64 s)] ∧ I m x m0 s w) ?_ m _ w ⟨x, m0, s, rfl, h0⟩
  rintro m ih σ w ⟨x, m0, s, rfl, hI⟩
  exact storelaw_Alike.L1b_sound  (N1 := fun x' m0' s' w' => ∃ m', m' < m ∧ I m' x' m0' s' w') (fun x' m0' s' w' hx => by obtain ⟨m', hlt, hI'⟩ := hx; exact ih m' hlt _ w' ⟨x', m0', s', rfl, hI'⟩) x m0 s w (hr m x m0 s w hI)
def storelaw_Alike.B0 (x m0 : Option Addr) (w : World)   (R : Bool → World → Prop) : Prop :=
  storelaw_SameMeta.Call x m0 w fun r8 w1 =>
  Bm (!r8) (
    R false w1) (
    storelaw_SameSnap.Call x m0 w1 fun r12 w2 =>
    Bm (!r12) (
      R false w2) (
      storelaw_Alike.L1 x m0 (-1 : Int) w2  R))
theorem storelaw_Alike.B0_eq (x m0 : Option Addr) (w : World)   (R : Bool → World → Prop) (sL1 : Option Addr → Option Addr → Int → World → Prop) :
    (
  storelaw_SameMeta.Call x m0 w fun r8 w1 =>
  Bm (!r8) (
    R false w1) (
    storelaw_SameSnap.Call x m0 w1 fun r12 w2 =>
    Bm (!r12) (
      R false w2) (
      sL1 x m0 (-1 : Int) w2))) = kstep Try.prog 23 Try.f38.results.toList (Try.f38.body.getD .skip) (storelaw_Alike.RV R) (kvc Try.prog 23 Try.f38.results.toList (Try.f38.body.getD .skip) (storelaw_Alike.RV R) [([(0, [1, 1, 1, 0, 1, 0, 0]), (2, [1, 1, 1, 0, 1, 0, 0]), (1, [0]), (0, [1, 1, 1, 1])], fun σ w => dP (slotOf σ 0) fun x_ => dP (slotOf σ 1) fun m0_ => dI .i64 (slotOf σ 5) fun s_ => sL1 x_ m0_ s_ w)] 2000) [(0, [])] [(0, .pointer x), (1, .pointer m0)] w := by kernel_rfl
theorem storelaw_Alike.B0_sound {R : Bool → World → Prop}  (x m0 : Option Addr) (w : World) (h : storelaw_Alike.B0 x m0 w   R) :
    KW Try.prog 38 23 (storelaw_Alike.RV R) ([(0, [])].map (toItem (Try.f38.body.getD .skip))) [(0, .pointer x), (1, .pointer m0)] w := by
  exact block_spec Try.func38 Try.mixed (stops_cons (fun σ w h => by
      obtain ⟨x_, e0, h⟩ := dP_elim h
      obtain ⟨m0_, e1, h⟩ := dP_elim h
      obtain ⟨s_, e2, h⟩ := dI_elim h
      exact (storelaw_Alike.L1_sound  x_ m0_ s_ w h).weaken (Sub.cons (Sub.cons (Sub.cons (Sub.nil _) e2) e1) e0)) stops_nil) (Eq.mp (storelaw_Alike.B0_eq x m0 w   R (fun x_ m0_ s_ w => storelaw_Alike.L1 x_ m0_ s_ w  R)) h)
theorem storelaw_Alike.sound (x m0 : Option Addr) (w : World) (R : Bool → World → Prop) (h : storelaw_Alike.B0 x m0 w R) : storelaw_Alike.Call x m0 w R := by
  have hc := calls_of_block (args := #[.pointer x, .pointer m0]) Try.func38 (body := (Try.f38.body.getD .skip)) (by kernel_rfl) (by kernel_rfl) (args_slot _) (storelaw_Alike.B0_sound x m0 w h)
  exact hc.mono fun e w' he => by
    obtain ⟨v, rfl, hv⟩ := he
    exact storelaw_Alike.RV_elim hv
def diskm_blocks.B0 (a_b : Option Addr) (a_l a_c : Nat) (w : World)   (R : Option Addr → Nat → Nat → World → Prop) : Prop :=
  Make 9 (.string (ByteArray.mk #[])) 1 16 ((a_l : Nat) : Int) ((a_l : Nat) : Int) w fun b6 w1 =>
  Copy 1 (some ⟨b6, 0, none⟩) (((a_l : Nat) : Int).toNat) a_b a_l w1 fun n9 w2 =>
  R (some ⟨b6, 0, none⟩) (((a_l : Nat) : Int).toNat) (((a_l : Nat) : Int).toNat) w2
theorem diskm_blocks.B0_eq (a_b : Option Addr) (a_l a_c : Nat) (w : World)   (R : Option Addr → Nat → Nat → World → Prop)  :
    (
  Make 9 (.string (ByteArray.mk #[])) 1 16 ((a_l : Nat) : Int) ((a_l : Nat) : Int) w fun b6 w1 =>
  Copy 1 (some ⟨b6, 0, none⟩) (((a_l : Nat) : Int).toNat) a_b a_l w1 fun n9 w2 =>
  R (some ⟨b6, 0, none⟩) (((a_l : Nat) : Int).toNat) (((a_l : Nat) : Int).toNat) w2) = kstep Try.prog 11 Try.f39.results.toList (Try.f39.body.getD .skip) (diskm_blocks.RV R) (kvc Try.prog 11 Try.f39.results.toList (Try.f39.body.getD .skip) (diskm_blocks.RV R) [] 2000) [(0, [])] [(0, .slice a_b a_l a_c)] w := by kernel_rfl
theorem diskm_blocks.B0_sound {R : Option Addr → Nat → Nat → World → Prop}  (a_b : Option Addr) (a_l a_c : Nat) (w : World) (h : diskm_blocks.B0 a_b a_l a_c w   R) :
    KW Try.prog 39 11 (diskm_blocks.RV R) ([(0, [])].map (toItem (Try.f39.body.getD .skip))) [(0, .slice a_b a_l a_c)] w := by
  exact block_spec Try.func39 Try.mixed stops_nil (Eq.mp (diskm_blocks.B0_eq a_b a_l a_c w   R ) h)
theorem diskm_blocks.sound (a_b : Option Addr) (a_l a_c : Nat) (w : World) (R : Option Addr → Nat → Nat → World → Prop) (h : diskm_blocks.B0 a_b a_l a_c w R) : diskm_blocks.Call a_b a_l a_c w R := by
  have hc := calls_of_block (args := #[.slice a_b a_l a_c]) Try.func39 (body := (Try.f39.body.getD .skip)) (by kernel_rfl) (by kernel_rfl) (args_slot _) (diskm_blocks.B0_sound a_b a_l a_c w h)
  exact hc.mono fun e w' he => by
    obtain ⟨v, rfl, hv⟩ := he
    exact diskm_blocks.RV_elim hv
def diskm_Disk_Read.B1 (d : Option Addr) (b : Int) (t11 : Bool) (w : World)   (R : ByteArray → Int → World → Prop) : Prop :=
  Bm t11 (
    R (ByteArray.mk #[]) (1 : Int) w) (
    Pn d fun a =>
    LdL a w fun x15_b x15_l x15_c =>
    Pn x15_b fun a_1 =>
    (0 ≤ b ∧ b < ((x15_l : Nat) : Int)) ∧
    LdS (Addr.add a_1 (b.toNat * 1)) w fun x18 =>
    R x18 (0 : Int) w)
theorem diskm_Disk_Read.B1_eq (d : Option Addr) (b : Int) (t11 : Bool) (w : World)   (R : ByteArray → Int → World → Prop)  :
    (
  Bm t11 (
    R (ByteArray.mk #[]) (1 : Int) w) (
    Pn d fun a =>
    LdL a w fun x15_b x15_l x15_c =>
    Pn x15_b fun a_1 =>
    (0 ≤ b ∧ b < ((x15_l : Nat) : Int)) ∧
    LdS (Addr.add a_1 (b.toNat * 1)) w fun x18 =>
    R x18 (0 : Int) w)) = kstep Try.prog 19 Try.f40.results.toList (Try.f40.body.getD .skip) (diskm_Disk_Read.RV R) (kvc Try.prog 19 Try.f40.results.toList (Try.f40.body.getD .skip) (diskm_Disk_Read.RV R) [] 2000) [(0, [1, 0, 1]), (0, [1, 1])] [(0, .pointer d), (1, .int .i64 b), (11, .bool t11)] w := by kernel_rfl
theorem diskm_Disk_Read.B1_sound {R : ByteArray → Int → World → Prop}  (d : Option Addr) (b : Int) (t11 : Bool) (w : World) (h : diskm_Disk_Read.B1 d b t11 w   R) :
    KW Try.prog 40 19 (diskm_Disk_Read.RV R) ([(0, [1, 0, 1]), (0, [1, 1])].map (toItem (Try.f40.body.getD .skip))) [(0, .pointer d), (1, .int .i64 b), (11, .bool t11)] w := by
  exact block_spec Try.func40 Try.mixed stops_nil (Eq.mp (diskm_Disk_Read.B1_eq d b t11 w   R ) h)
def diskm_Disk_Read.B0 (d : Option Addr) (b : Int) (w : World)   (R : ByteArray → Int → World → Prop) : Prop :=
  Bm (decide (b < (0 : Int))) (
    diskm_Disk_Read.B1 d b true w  R) (
    diskm_Disk_Read.B1 d b (decide (b ≥ (14 : Int))) w  R)
theorem diskm_Disk_Read.B0_eq (d : Option Addr) (b : Int) (w : World)   (R : ByteArray → Int → World → Prop) (sB1 : Option Addr → Int → Bool → World → Prop) :
    (
  Bm (decide (b < (0 : Int))) (
    sB1 d b true w) (
    sB1 d b (decide (b ≥ (14 : Int))) w)) = kstep Try.prog 19 Try.f40.results.toList (Try.f40.body.getD .skip) (diskm_Disk_Read.RV R) (kvc Try.prog 19 Try.f40.results.toList (Try.f40.body.getD .skip) (diskm_Disk_Read.RV R) [([(0, [1, 0, 1]), (0, [1, 1])], fun σ w => dP (slotOf σ 0) fun d_ => dI .i64 (slotOf σ 1) fun b_ => dB (slotOf σ 11) fun t11_ => sB1 d_ b_ t11_ w)] 2000) [(0, [])] [(0, .pointer d), (1, .int .i64 b)] w := by kernel_rfl
theorem diskm_Disk_Read.B0_sound {R : ByteArray → Int → World → Prop}  (d : Option Addr) (b : Int) (w : World) (h : diskm_Disk_Read.B0 d b w   R) :
    KW Try.prog 40 19 (diskm_Disk_Read.RV R) ([(0, [])].map (toItem (Try.f40.body.getD .skip))) [(0, .pointer d), (1, .int .i64 b)] w := by
  exact block_spec Try.func40 Try.mixed (stops_cons (fun σ w h => by
      obtain ⟨d_, e0, h⟩ := dP_elim h
      obtain ⟨b_, e1, h⟩ := dI_elim h
      obtain ⟨t11_, e2, h⟩ := dB_elim h
      exact (diskm_Disk_Read.B1_sound  d_ b_ t11_ w h).weaken (Sub.cons (Sub.cons (Sub.cons (Sub.nil _) e2) e1) e0)) stops_nil) (Eq.mp (diskm_Disk_Read.B0_eq d b w   R (fun d_ b_ t11_ w => diskm_Disk_Read.B1 d_ b_ t11_ w  R)) h)
theorem diskm_Disk_Read.sound (d : Option Addr) (b : Int) (w : World) (R : ByteArray → Int → World → Prop) (h : diskm_Disk_Read.B0 d b w R) : diskm_Disk_Read.Call d b w R := by
  have hc := calls_of_block (args := #[.pointer d, .int .i64 b]) Try.func40 (body := (Try.f40.body.getD .skip)) (by kernel_rfl) (by kernel_rfl) (args_slot _) (diskm_Disk_Read.B0_sound d b w h)
  exact hc.mono fun e w' he => by
    obtain ⟨v, rfl, hv⟩ := he
    exact diskm_Disk_Read.RV_elim hv
def store_whole.B0 (b : ByteArray) (w : World)   (R : Bool → World → Prop) : Prop :=
  (0 ≤ (0 : Int) ∧ (0 : Int) < ((b.size : Nat) : Int)) ∧
  (0 ≤ (63 : Int) ∧ (63 : Int) < ((b.size : Nat) : Int)) ∧
  Bm ((byteAt b (0 : Int)) == (byteAt b (63 : Int))) (
    (0 ≤ (0 : Int) ∧ (0 : Int) < ((b.size : Nat) : Int)) ∧
    R ((byteAt b (0 : Int)) != (0 : Int)) w.drew) (
    R false w.drew)
theorem store_whole.B0_eq (b : ByteArray) (w : World)   (R : Bool → World → Prop)  :
    (
  (0 ≤ (0 : Int) ∧ (0 : Int) < ((b.size : Nat) : Int)) ∧
  (0 ≤ (63 : Int) ∧ (63 : Int) < ((b.size : Nat) : Int)) ∧
  Bm ((byteAt b (0 : Int)) == (byteAt b (63 : Int))) (
    (0 ≤ (0 : Int) ∧ (0 : Int) < ((b.size : Nat) : Int)) ∧
    R ((byteAt b (0 : Int)) != (0 : Int)) w.drew) (
    R false w.drew)) = kstep Try.prog 13 Try.f41.results.toList (Try.f41.body.getD .skip) (store_whole.RV R) (kvc Try.prog 13 Try.f41.results.toList (Try.f41.body.getD .skip) (store_whole.RV R) [] 2000) [(0, [])] [(0, .string b)] w := by kernel_rfl
theorem store_whole.B0_sound {R : Bool → World → Prop}  (b : ByteArray) (w : World) (h : store_whole.B0 b w   R) :
    KW Try.prog 41 13 (store_whole.RV R) ([(0, [])].map (toItem (Try.f41.body.getD .skip))) [(0, .string b)] w := by
  exact block_spec Try.func41 Try.mixed stops_nil (Eq.mp (store_whole.B0_eq b w   R ) h)
theorem store_whole.sound (b : ByteArray) (w : World) (R : Bool → World → Prop) (h : store_whole.B0 b w R) : store_whole.Call b w R := by
  have hc := calls_of_block (args := #[.string b]) Try.func41 (body := (Try.f41.body.getD .skip)) (by kernel_rfl) (by kernel_rfl) (args_slot _) (store_whole.B0_sound b w h)
  exact hc.mono fun e w' he => by
    obtain ⟨v, rfl, hv⟩ := he
    exact store_whole.RV_elim hv
def store_get8.L1b (b : ByteArray) (at0 v i : Int) (w : World)  (N1 : ByteArray → Int → Int → Int → World → Prop) (R : Int → World → Prop) : Prop :=
  Bm (decide (i < (8 : Int))) (
    0 ≤ (8 : Int) ∧
    (0 ≤ (IntKind.i64.wrap (at0 + i)) ∧ (IntKind.i64.wrap (at0 + i)) < ((b.size : Nat) : Int)) ∧
    N1 b at0 (IntKind.i64.wrap (BitVec.ofInt IntKind.i64.bits (IntKind.i64.wrap (v * 2 ^ (min (8 : Int).toNat IntKind.i64.bits))) ||| BitVec.ofInt IntKind.i64.bits (IntKind.i64.wrap (byteAt b (IntKind.i64.wrap (at0 + i))))).toNat) (IntKind.i64.wrap (i + (1 : Int))) w) (
    R v w)
theorem store_get8.L1b_eq (b : ByteArray) (at0 v i : Int) (w : World)  (N1 : ByteArray → Int → Int → Int → World → Prop) (R : Int → World → Prop)  :
    (
  Bm (decide (i < (8 : Int))) (
    0 ≤ (8 : Int) ∧
    (0 ≤ (IntKind.i64.wrap (at0 + i)) ∧ (IntKind.i64.wrap (at0 + i)) < ((b.size : Nat) : Int)) ∧
    N1 b at0 (IntKind.i64.wrap (BitVec.ofInt IntKind.i64.bits (IntKind.i64.wrap (v * 2 ^ (min (8 : Int).toNat IntKind.i64.bits))) ||| BitVec.ofInt IntKind.i64.bits (IntKind.i64.wrap (byteAt b (IntKind.i64.wrap (at0 + i))))).toNat) (IntKind.i64.wrap (i + (1 : Int))) w) (
    R v w)) = kstep Try.prog 21 Try.f42.results.toList (Try.f42.body.getD .skip) (store_get8.RV R) (kvc Try.prog 21 Try.f42.results.toList (Try.f42.body.getD .skip) (store_get8.RV R) [([(0, [1, 1, 0, 1, 0, 0]), (2, [1, 1, 0, 1, 0, 0]), (1, [0]), (0, [1, 1, 1])], fun σ w => dS (slotOf σ 0) fun b_ => dI .i64 (slotOf σ 1) fun at0_ => dI .i64 (slotOf σ 5) fun v_ => dI .i64 (slotOf σ 6) fun i_ => N1 b_ at0_ v_ i_ w)] 2000) [(0, [1, 1, 0, 1, 0, 0]), (2, [1, 1, 0, 1, 0, 0]), (1, [0]), (0, [1, 1, 1])] [(0, .string b), (1, .int .i64 at0), (5, .int .i64 v), (6, .int .i64 i)] w := by kernel_rfl
theorem store_get8.L1b_sound {R : Int → World → Prop} {N1 : ByteArray → Int → Int → Int → World → Prop} (hN1 : ∀ b at0 v i w, N1 b at0 v i w → KW Try.prog 42 21 (store_get8.RV R) ([(0, [1, 1, 0, 1, 0, 0]), (2, [1, 1, 0, 1, 0, 0]), (1, [0]), (0, [1, 1, 1])].map (toItem (Try.f42.body.getD .skip))) [(0, .string b), (1, .int .i64 at0), (5, .int .i64 v), (6, .int .i64 i)] w) (b : ByteArray) (at0 v i : Int) (w : World) (h : store_get8.L1b b at0 v i w  N1 R) :
    KW Try.prog 42 21 (store_get8.RV R) ([(0, [1, 1, 0, 1, 0, 0]), (2, [1, 1, 0, 1, 0, 0]), (1, [0]), (0, [1, 1, 1])].map (toItem (Try.f42.body.getD .skip))) [(0, .string b), (1, .int .i64 at0), (5, .int .i64 v), (6, .int .i64 i)] w := by
  exact block_spec Try.func42 Try.mixed (stops_cons (fun σ w h => by
      obtain ⟨b_, e0, h⟩ := dS_elim h
      obtain ⟨at0_, e1, h⟩ := dI_elim h
      obtain ⟨v_, e2, h⟩ := dI_elim h
      obtain ⟨i_, e3, h⟩ := dI_elim h
      exact (hN1 b_ at0_ v_ i_ w h).weaken (Sub.cons (Sub.cons (Sub.cons (Sub.cons (Sub.nil _) e3) e2) e1) e0)) stops_nil) (Eq.mp (store_get8.L1b_eq b at0 v i w  N1 R ) h)
def store_get8.L1 (b : ByteArray) (at0 v i : Int) (w : World)  (R : Int → World → Prop) : Prop :=
  ∃ (I : Nat → ByteArray → Int → Int → Int → World → Prop) (m : Nat), I m b at0 v i w ∧ ∀ m b at0 v i w, I m b at0 v i w → store_get8.L1b b at0 v i w  (fun b' at0' v' i' w' => ∃ m', m' < m ∧ I m' b' at0' v' i' w') R
theorem store_get8.L1_sound {R : Int → World → Prop}  (b : ByteArray) (at0 v i : Int) (w : World) (h : store_get8.L1 b at0 v i w  R) :
    KW Try.prog 42 21 (store_get8.RV R) ([(0, [1, 1, 0, 1, 0, 0]), (2, [1, 1, 0, 1, 0, 0]), (1, [0]), (0, [1, 1, 1])].map (toItem (Try.f42.body.getD .skip))) [(0, .string b), (1, .int .i64 at0), (5, .int .i64 v), (6, .int .i64 i)] w := by
  obtain ⟨I, m, h0, hr⟩ := h
  refine KW.loop (fun m σ w => ∃ (b : ByteArray) (at0 v i : Int), σ = [(0, .string b), (1, .int .i64 at0), (5, .int .i64 v), (6, .int .i64 i)] ∧ I m b at0 v i w) ?_ m _ w ⟨b, at0, v, i, rfl, h0⟩
  rintro m ih σ w ⟨b, at0, v, i, rfl, hI⟩
  exact store_get8.L1b_sound  (N1 := fun b' at0' v' i' w' => ∃ m', m' < m ∧ I m' b' at0' v' i' w') (fun b' at0' v' i' w' hx => by obtain ⟨m', hlt, hI'⟩ := hx; exact ih m' hlt _ w' ⟨b', at0', v', i', rfl, hI'⟩) b at0 v i w (hr m b at0 v i w hI)
def store_get8.B0 (b : ByteArray) (at0 : Int) (w : World)   (R : Int → World → Prop) : Prop :=
  store_get8.L1 b at0 (0 : Int) (0 : Int) w  R
theorem store_get8.B0_eq (b : ByteArray) (at0 : Int) (w : World)   (R : Int → World → Prop) (sL1 : ByteArray → Int → Int → Int → World → Prop) :
    (
  sL1 b at0 (0 : Int) (0 : Int) w) = kstep Try.prog 21 Try.f42.results.toList (Try.f42.body.getD .skip) (store_get8.RV R) (kvc Try.prog 21 Try.f42.results.toList (Try.f42.body.getD .skip) (store_get8.RV R) [([(0, [1, 1, 0, 1, 0, 0]), (2, [1, 1, 0, 1, 0, 0]), (1, [0]), (0, [1, 1, 1])], fun σ w => dS (slotOf σ 0) fun b_ => dI .i64 (slotOf σ 1) fun at0_ => dI .i64 (slotOf σ 5) fun v_ => dI .i64 (slotOf σ 6) fun i_ => sL1 b_ at0_ v_ i_ w)] 2000) [(0, [])] [(0, .string b), (1, .int .i64 at0)] w := by kernel_rfl
theorem store_get8.B0_sound {R : Int → World → Prop}  (b : ByteArray) (at0 : Int) (w : World) (h : store_get8.B0 b at0 w   R) :
    KW Try.prog 42 21 (store_get8.RV R) ([(0, [])].map (toItem (Try.f42.body.getD .skip))) [(0, .string b), (1, .int .i64 at0)] w := by
  exact block_spec Try.func42 Try.mixed (stops_cons (fun σ w h => by
      obtain ⟨b_, e0, h⟩ := dS_elim h
      obtain ⟨at0_, e1, h⟩ := dI_elim h
      obtain ⟨v_, e2, h⟩ := dI_elim h
      obtain ⟨i_, e3, h⟩ := dI_elim h
      exact (store_get8.L1_sound  b_ at0_ v_ i_ w h).weaken (Sub.cons (Sub.cons (Sub.cons (Sub.cons (Sub.nil _) e3) e2) e1) e0)) stops_nil) (Eq.mp (store_get8.B0_eq b at0 w   R (fun b_ at0_ v_ i_ w => store_get8.L1 b_ at0_ v_ i_ w  R)) h)
theorem store_get8.sound (b : ByteArray) (at0 : Int) (w : World) (R : Int → World → Prop) (h : store_get8.B0 b at0 w R) : store_get8.Call b at0 w R := by
  have hc := calls_of_block (args := #[.string b, .int .i64 at0]) Try.func42 (body := (Try.f42.body.getD .skip)) (by kernel_rfl) (by kernel_rfl) (args_slot _) (store_get8.B0_sound b at0 w h)
  exact hc.mono fun e w' he => by
    obtain ⟨v, rfl, hv⟩ := he
    exact store_get8.RV_elim hv
def storem_state_clone.L1b (s : Option Addr) (n : Nat) (i : Int) (w : World)  (N1 : Option Addr → Nat → Int → World → Prop) (R : Option Addr → World → Prop) : Prop :=
  Bm (decide (i < (6 : Int))) (
    Pn s fun a =>
    (0 ≤ i ∧ i < ((6 : Nat) : Int)) ∧
    LdB (Addr.add (a.add 5) (i.toNat * 1)) w.drew fun x38 =>
    (0 ≤ i ∧ i < ((6 : Nat) : Int)) ∧
    Sts [.bool x38] (Addr.add ⟨n, 5, none⟩ (i.toNat * 1)) 0 w.drew fun w1 =>
    Pn s fun a_1 =>
    (0 ≤ i ∧ i < ((6 : Nat) : Int)) ∧
    LdI .i64 (Addr.add (a_1.add 11) (i.toNat * 3)) w1.drew fun x49_0 =>
    LdI .i64 ((Addr.add (a_1.add 11) (i.toNat * 3)).add 1) w1.drew fun x49_1 =>
    LdS ((Addr.add (a_1.add 11) (i.toNat * 3)).add 2) w1.drew fun x49_2 =>
    (0 ≤ i ∧ i < ((6 : Nat) : Int)) ∧
    Sts [.int .i64 x49_0, .int .i64 x49_1, .string x49_2] (Addr.add ⟨n, 11, none⟩ (i.toNat * 3)) 0 w1.drew fun w2 =>
    N1 s n (IntKind.i64.wrap (i + (1 : Int))) w2) (
    R (some ⟨n, 0, none⟩) w)
theorem storem_state_clone.L1b_eq (s : Option Addr) (n : Nat) (i : Int) (w : World)  (N1 : Option Addr → Nat → Int → World → Prop) (R : Option Addr → World → Prop)  :
    (
  Bm (decide (i < (6 : Int))) (
    Pn s fun a =>
    (0 ≤ i ∧ i < ((6 : Nat) : Int)) ∧
    LdB (Addr.add (a.add 5) (i.toNat * 1)) w.drew fun x38 =>
    (0 ≤ i ∧ i < ((6 : Nat) : Int)) ∧
    Sts [.bool x38] (Addr.add ⟨n, 5, none⟩ (i.toNat * 1)) 0 w.drew fun w1 =>
    Pn s fun a_1 =>
    (0 ≤ i ∧ i < ((6 : Nat) : Int)) ∧
    LdI .i64 (Addr.add (a_1.add 11) (i.toNat * 3)) w1.drew fun x49_0 =>
    LdI .i64 ((Addr.add (a_1.add 11) (i.toNat * 3)).add 1) w1.drew fun x49_1 =>
    LdS ((Addr.add (a_1.add 11) (i.toNat * 3)).add 2) w1.drew fun x49_2 =>
    (0 ≤ i ∧ i < ((6 : Nat) : Int)) ∧
    Sts [.int .i64 x49_0, .int .i64 x49_1, .string x49_2] (Addr.add ⟨n, 11, none⟩ (i.toNat * 3)) 0 w1.drew fun w2 =>
    N1 s n (IntKind.i64.wrap (i + (1 : Int))) w2) (
    R (some ⟨n, 0, none⟩) w)) = kstep Try.prog 54 Try.f43.results.toList (Try.f43.body.getD .skip) (storem_state_clone.RV R) (kvc Try.prog 54 Try.f43.results.toList (Try.f43.body.getD .skip) (storem_state_clone.RV R) [([(0, [1, 1, 0, 1, 0, 0]), (2, [1, 1, 0, 1, 0, 0]), (1, [0]), (0, [1, 1, 1])], fun σ w => dP (slotOf σ 0) fun s_ => dK (slotOf σ 3) fun n_ => dI .i64 (slotOf σ 4) fun i_ => N1 s_ n_ i_ w)] 2000) [(0, [1, 1, 0, 1, 0, 0]), (2, [1, 1, 0, 1, 0, 0]), (1, [0]), (0, [1, 1, 1])] [(0, .pointer s), (3, .pointer (some ⟨n, 0, none⟩)), (4, .int .i64 i)] w := by kernel_rfl
theorem storem_state_clone.L1b_sound {R : Option Addr → World → Prop} {N1 : Option Addr → Nat → Int → World → Prop} (hN1 : ∀ s n i w, N1 s n i w → KW Try.prog 43 54 (storem_state_clone.RV R) ([(0, [1, 1, 0, 1, 0, 0]), (2, [1, 1, 0, 1, 0, 0]), (1, [0]), (0, [1, 1, 1])].map (toItem (Try.f43.body.getD .skip))) [(0, .pointer s), (3, .pointer (some ⟨n, 0, none⟩)), (4, .int .i64 i)] w) (s : Option Addr) (n : Nat) (i : Int) (w : World) (h : storem_state_clone.L1b s n i w  N1 R) :
    KW Try.prog 43 54 (storem_state_clone.RV R) ([(0, [1, 1, 0, 1, 0, 0]), (2, [1, 1, 0, 1, 0, 0]), (1, [0]), (0, [1, 1, 1])].map (toItem (Try.f43.body.getD .skip))) [(0, .pointer s), (3, .pointer (some ⟨n, 0, none⟩)), (4, .int .i64 i)] w := by
  exact block_spec Try.func43 Try.mixed (stops_cons (fun σ w h => by
      obtain ⟨s_, e0, h⟩ := dP_elim h
      obtain ⟨n_, e1, h⟩ := dK_elim h
      obtain ⟨i_, e2, h⟩ := dI_elim h
      exact (hN1 s_ n_ i_ w h).weaken (Sub.cons (Sub.cons (Sub.cons (Sub.nil _) e2) e1) e0)) stops_nil) (Eq.mp (storem_state_clone.L1b_eq s n i w  N1 R ) h)
def storem_state_clone.L1 (s : Option Addr) (n : Nat) (i : Int) (w : World)  (R : Option Addr → World → Prop) : Prop :=
  ∃ (I : Nat → Option Addr → Nat → Int → World → Prop) (m : Nat), I m s n i w ∧ ∀ m s n i w, I m s n i w → storem_state_clone.L1b s n i w  (fun s' n' i' w' => ∃ m', m' < m ∧ I m' s' n' i' w') R
theorem storem_state_clone.L1_sound {R : Option Addr → World → Prop}  (s : Option Addr) (n : Nat) (i : Int) (w : World) (h : storem_state_clone.L1 s n i w  R) :
    KW Try.prog 43 54 (storem_state_clone.RV R) ([(0, [1, 1, 0, 1, 0, 0]), (2, [1, 1, 0, 1, 0, 0]), (1, [0]), (0, [1, 1, 1])].map (toItem (Try.f43.body.getD .skip))) [(0, .pointer s), (3, .pointer (some ⟨n, 0, none⟩)), (4, .int .i64 i)] w := by
  obtain ⟨I, m, h0, hr⟩ := h
  refine KW.loop (fun m σ w => ∃ (s : Option Addr) (n : Nat) (i : Int), σ = [(0, .pointer s), (3, .pointer (some ⟨n, 0, none⟩)), (4, .int .i64 i)] ∧ I m s n i w) ?_ m _ w ⟨s, n, i, rfl, h0⟩
  rintro m ih σ w ⟨s, n, i, rfl, hI⟩
  exact storem_state_clone.L1b_sound  (N1 := fun s' n' i' w' => ∃ m', m' < m ∧ I m' s' n' i' w') (fun s' n' i' w' hx => by obtain ⟨m', hlt, hI'⟩ := hx; exact ih m' hlt _ w' ⟨s', n', i', rfl, hI'⟩) s n i w (hr m s n i w hI)
def storem_state_clone.B0 (s : Option Addr) (w : World)   (R : Option Addr → World → Prop) : Prop :=
  Pn s fun a =>
  LdI .i64 a w.drew fun x8 =>
  Pn s fun a_1 =>
  LdI .i64 (a_1.add 1) w.drew fun x12 =>
  Pn s fun a_2 =>
  LdI .i64 (a_2.add 2) w.drew fun x16 =>
  Pn s fun a_3 =>
  LdI .i64 (a_3.add 3) w.drew fun x20 =>
  Pn s fun a_4 =>
  LdS (a_4.add 4) w.drew fun x24 =>
  New (.cells #[.int .i64 x8, .int .i64 x12, .int .i64 x16, .int .i64 x20, .string x24, .bool false, .bool false, .bool false, .bool false, .bool false, .bool false, .int .i64 (0 : Int), .int .i64 (0 : Int), .string (ByteArray.mk #[]), .int .i64 (0 : Int), .int .i64 (0 : Int), .string (ByteArray.mk #[]), .int .i64 (0 : Int), .int .i64 (0 : Int), .string (ByteArray.mk #[]), .int .i64 (0 : Int), .int .i64 (0 : Int), .string (ByteArray.mk #[]), .int .i64 (0 : Int), .int .i64 (0 : Int), .string (ByteArray.mk #[]), .int .i64 (0 : Int), .int .i64 (0 : Int), .string (ByteArray.mk #[])] 90) w.drew fun b26 w1 =>
  storem_state_clone.L1 s b26 (0 : Int) w1  R
theorem storem_state_clone.B0_eq (s : Option Addr) (w : World)   (R : Option Addr → World → Prop) (sL1 : Option Addr → Nat → Int → World → Prop) :
    (
  Pn s fun a =>
  LdI .i64 a w.drew fun x8 =>
  Pn s fun a_1 =>
  LdI .i64 (a_1.add 1) w.drew fun x12 =>
  Pn s fun a_2 =>
  LdI .i64 (a_2.add 2) w.drew fun x16 =>
  Pn s fun a_3 =>
  LdI .i64 (a_3.add 3) w.drew fun x20 =>
  Pn s fun a_4 =>
  LdS (a_4.add 4) w.drew fun x24 =>
  New (.cells #[.int .i64 x8, .int .i64 x12, .int .i64 x16, .int .i64 x20, .string x24, .bool false, .bool false, .bool false, .bool false, .bool false, .bool false, .int .i64 (0 : Int), .int .i64 (0 : Int), .string (ByteArray.mk #[]), .int .i64 (0 : Int), .int .i64 (0 : Int), .string (ByteArray.mk #[]), .int .i64 (0 : Int), .int .i64 (0 : Int), .string (ByteArray.mk #[]), .int .i64 (0 : Int), .int .i64 (0 : Int), .string (ByteArray.mk #[]), .int .i64 (0 : Int), .int .i64 (0 : Int), .string (ByteArray.mk #[]), .int .i64 (0 : Int), .int .i64 (0 : Int), .string (ByteArray.mk #[])] 90) w.drew fun b26 w1 =>
  sL1 s b26 (0 : Int) w1) = kstep Try.prog 54 Try.f43.results.toList (Try.f43.body.getD .skip) (storem_state_clone.RV R) (kvc Try.prog 54 Try.f43.results.toList (Try.f43.body.getD .skip) (storem_state_clone.RV R) [([(0, [1, 1, 0, 1, 0, 0]), (2, [1, 1, 0, 1, 0, 0]), (1, [0]), (0, [1, 1, 1])], fun σ w => dP (slotOf σ 0) fun s_ => dK (slotOf σ 3) fun n_ => dI .i64 (slotOf σ 4) fun i_ => sL1 s_ n_ i_ w)] 2000) [(0, [])] [(0, .pointer s)] w := by kernel_rfl
theorem storem_state_clone.B0_sound {R : Option Addr → World → Prop}  (s : Option Addr) (w : World) (h : storem_state_clone.B0 s w   R) :
    KW Try.prog 43 54 (storem_state_clone.RV R) ([(0, [])].map (toItem (Try.f43.body.getD .skip))) [(0, .pointer s)] w := by
  exact block_spec Try.func43 Try.mixed (stops_cons (fun σ w h => by
      obtain ⟨s_, e0, h⟩ := dP_elim h
      obtain ⟨n_, e1, h⟩ := dK_elim h
      obtain ⟨i_, e2, h⟩ := dI_elim h
      exact (storem_state_clone.L1_sound  s_ n_ i_ w h).weaken (Sub.cons (Sub.cons (Sub.cons (Sub.nil _) e2) e1) e0)) stops_nil) (Eq.mp (storem_state_clone.B0_eq s w   R (fun s_ n_ i_ w => storem_state_clone.L1 s_ n_ i_ w  R)) h)
theorem storem_state_clone.sound (s : Option Addr) (w : World) (R : Option Addr → World → Prop) (h : storem_state_clone.B0 s w R) : storem_state_clone.Call s w R := by
  have hc := calls_of_block (args := #[.pointer s]) Try.func43 (body := (Try.f43.body.getD .skip)) (by kernel_rfl) (by kernel_rfl) (args_slot _) (storem_state_clone.B0_sound s w h)
  exact hc.mono fun e w' he => by
    obtain ⟨v, rfl, hv⟩ := he
    exact storem_state_clone.RV_elim hv
end Go.Proofs.Qxb6500432a
