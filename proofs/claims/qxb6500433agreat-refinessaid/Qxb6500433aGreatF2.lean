import Derived.Test.Qxb6500433aGreatSig
set_option maxRecDepth 100000
set_option linter.unusedVariables false
open Go.Vc
namespace Go.Proofs.Qxb6500433aGreat
def synclaw_Write.B1 (reg t4 : Nat) (w : World)   (R : Int → Int → Int → Int → Int → Int → Int → Bool → Option Addr → Nat → Nat → ByteArray → World → Prop) : Prop :=
  LdI .i64 ⟨reg, 0, none⟩ w fun x50_0 =>
  LdI .i64 ⟨reg, 1, none⟩ w fun x50_1 =>
  LdI .i64 ⟨reg, 2, none⟩ w fun x50_2 =>
  LdI .i64 ⟨reg, 3, none⟩ w fun x50_3 =>
  LdI .i64 ⟨reg, 4, none⟩ w fun x50_4 =>
  LdI .i64 ⟨reg, 5, none⟩ w fun x50_5 =>
  LdI .i64 ⟨reg, 6, none⟩ w fun x50_6 =>
  LdB ⟨reg, 7, none⟩ w fun x50_7 =>
  LdL ⟨reg, 8, none⟩ w fun x50_8_b x50_8_l x50_8_c =>
  LdS ⟨reg, 9, none⟩ w fun x50_9 =>
  Sts [.int .i64 x50_0, .int .i64 x50_1, .int .i64 x50_2, .int .i64 x50_3, .int .i64 x50_4, .int .i64 x50_5, .int .i64 x50_6, .bool x50_7, .slice x50_8_b x50_8_l x50_8_c, .string x50_9] ⟨t4, 0, none⟩ 0 w fun w1 =>
  LdI .i64 ⟨t4, 0, none⟩ w1 fun r_0 =>
  LdI .i64 ⟨t4, 1, none⟩ w1 fun r_1 =>
  LdI .i64 ⟨t4, 2, none⟩ w1 fun r_2 =>
  LdI .i64 ⟨t4, 3, none⟩ w1 fun r_3 =>
  LdI .i64 ⟨t4, 4, none⟩ w1 fun r_4 =>
  LdI .i64 ⟨t4, 5, none⟩ w1 fun r_5 =>
  LdI .i64 ⟨t4, 6, none⟩ w1 fun r_6 =>
  LdB ⟨t4, 7, none⟩ w1 fun r_7 =>
  LdL ⟨t4, 8, none⟩ w1 fun r_8_b r_8_l r_8_c =>
  LdS ⟨t4, 9, none⟩ w1 fun r_9 =>
  R r_0 r_1 r_2 r_3 r_4 r_5 r_6 r_7 r_8_b r_8_l r_8_c r_9 w1
theorem synclaw_Write.B1_eq (reg t4 : Nat) (w : World)   (R : Int → Int → Int → Int → Int → Int → Int → Bool → Option Addr → Nat → Nat → ByteArray → World → Prop)  :
    (
  LdI .i64 ⟨reg, 0, none⟩ w fun x50_0 =>
  LdI .i64 ⟨reg, 1, none⟩ w fun x50_1 =>
  LdI .i64 ⟨reg, 2, none⟩ w fun x50_2 =>
  LdI .i64 ⟨reg, 3, none⟩ w fun x50_3 =>
  LdI .i64 ⟨reg, 4, none⟩ w fun x50_4 =>
  LdI .i64 ⟨reg, 5, none⟩ w fun x50_5 =>
  LdI .i64 ⟨reg, 6, none⟩ w fun x50_6 =>
  LdB ⟨reg, 7, none⟩ w fun x50_7 =>
  LdL ⟨reg, 8, none⟩ w fun x50_8_b x50_8_l x50_8_c =>
  LdS ⟨reg, 9, none⟩ w fun x50_9 =>
  Sts [.int .i64 x50_0, .int .i64 x50_1, .int .i64 x50_2, .int .i64 x50_3, .int .i64 x50_4, .int .i64 x50_5, .int .i64 x50_6, .bool x50_7, .slice x50_8_b x50_8_l x50_8_c, .string x50_9] ⟨t4, 0, none⟩ 0 w fun w1 =>
  LdI .i64 ⟨t4, 0, none⟩ w1 fun r_0 =>
  LdI .i64 ⟨t4, 1, none⟩ w1 fun r_1 =>
  LdI .i64 ⟨t4, 2, none⟩ w1 fun r_2 =>
  LdI .i64 ⟨t4, 3, none⟩ w1 fun r_3 =>
  LdI .i64 ⟨t4, 4, none⟩ w1 fun r_4 =>
  LdI .i64 ⟨t4, 5, none⟩ w1 fun r_5 =>
  LdI .i64 ⟨t4, 6, none⟩ w1 fun r_6 =>
  LdB ⟨t4, 7, none⟩ w1 fun r_7 =>
  LdL ⟨t4, 8, none⟩ w1 fun r_8_b r_8_l r_8_c =>
  LdS ⟨t4, 9, none⟩ w1 fun r_9 =>
  R r_0 r_1 r_2 r_3 r_4 r_5 r_6 r_7 r_8_b r_8_l r_8_c r_9 w1) = kstep Tryz.prog 51 Tryz.f25.results.toList (Tryz.f25.body.getD .skip) (synclaw_Write.RV R) (kvc Tryz.prog 51 Tryz.f25.results.toList (Tryz.f25.body.getD .skip) (synclaw_Write.RV R) [] 2000) [(0, [1, 1])] [(2, .pointer (some ⟨reg, 0, none⟩)), (4, .pointer (some ⟨t4, 0, none⟩))] w := by kernel_rfl
theorem synclaw_Write.B1_sound {R : Int → Int → Int → Int → Int → Int → Int → Bool → Option Addr → Nat → Nat → ByteArray → World → Prop}  (reg t4 : Nat) (w : World) (h : synclaw_Write.B1 reg t4 w   R) :
    KW Tryz.prog 25 51 (synclaw_Write.RV R) ([(0, [1, 1])].map (toItem (Tryz.f25.body.getD .skip))) [(2, .pointer (some ⟨reg, 0, none⟩)), (4, .pointer (some ⟨t4, 0, none⟩))] w := by
  exact block_spec Tryz.func25 Tryz.mixed stops_nil (Eq.mp (synclaw_Write.B1_eq reg t4 w   R ) h)
def synclaw_Write.B0 (reg_0 reg_1 reg_2 reg_3 reg_4 reg_5 reg_6 : Int) (reg_7 : Bool) (reg_8_b : Option Addr) (reg_8_l reg_8_c : Nat) (reg_9 : ByteArray) (o_0 o_1 o_2 o_3 : Int) (o_4 o_5 : ByteArray) (w : World)   (R : Int → Int → Int → Int → Int → Int → Int → Bool → Option Addr → Nat → Nat → ByteArray → World → Prop) : Prop :=
  New (.cells #[.int .i64 reg_0, .int .i64 reg_1, .int .i64 reg_2, .int .i64 reg_3, .int .i64 reg_4, .int .i64 reg_5, .int .i64 reg_6, .bool reg_7, .slice reg_8_b reg_8_l reg_8_c, .string reg_9] 40) w fun reg_ w1 =>
  New (.cells #[.int .i64 o_0, .int .i64 o_1, .int .i64 o_2, .int .i64 o_3, .string o_4, .string o_5] 48) w1 fun o_ w2 =>
  New (.cells #[.int .i64 (0 : Int), .int .i64 (0 : Int), .int .i64 (0 : Int), .int .i64 (0 : Int), .int .i64 (0 : Int), .int .i64 (0 : Int), .int .i64 (0 : Int), .bool false, .slice none 0 0, .string (ByteArray.mk #[])] 40) w2 fun b4 w3 =>
  LdI .i64 ⟨o_, 0, none⟩ w3 fun x6 =>
  Bm (x6 == (11 : Int)) (
    LdI .i64 ⟨o_, 1, none⟩ w3.drew fun x10 =>
    LdI .i64 ⟨o_, 2, none⟩ w3.drew fun x12 =>
    LdI .i64 ⟨o_, 3, none⟩ w3.drew fun x14 =>
    Sts [.int .i64 x10] ⟨reg_, 1, none⟩ 0 w3.drew fun w4 =>
    w4.cell? ⟨o_, 3, none⟩ = some (.int .i64 x14) ∧
    w4.cell? ⟨o_, 2, none⟩ = some (.int .i64 x12) ∧
    Sts [.int .i64 x12] ⟨reg_, 2, none⟩ 0 w4 fun w5 =>
    w5.cell? ⟨o_, 3, none⟩ = some (.int .i64 x14) ∧
    Sts [.int .i64 x14] ⟨reg_, 3, none⟩ 0 w5 fun w6 =>
    synclaw_Write.B1 reg_ b4 w6  R) (
    Bm (x6 == (12 : Int)) (
      LdI .i64 ⟨o_, 1, none⟩ w3.drew fun x21 =>
      LdI .i64 ⟨o_, 2, none⟩ w3.drew fun x23 =>
      LdI .i64 ⟨o_, 3, none⟩ w3.drew fun x25 =>
      Sts [.int .i64 x21] ⟨reg_, 4, none⟩ 0 w3.drew fun w7 =>
      w7.cell? ⟨o_, 3, none⟩ = some (.int .i64 x25) ∧
      w7.cell? ⟨o_, 2, none⟩ = some (.int .i64 x23) ∧
      Sts [.int .i64 x23] ⟨reg_, 5, none⟩ 0 w7 fun w8 =>
      w8.cell? ⟨o_, 3, none⟩ = some (.int .i64 x25) ∧
      Sts [.int .i64 x25] ⟨reg_, 6, none⟩ 0 w8 fun w9 =>
      synclaw_Write.B1 reg_ b4 w9  R) (
      Bm (x6 == (13 : Int)) (
        LdL ⟨reg_, 8, none⟩ w3 fun x32_b x32_l x32_c =>
        Bm (decide (((x32_l : Nat) : Int) ≤ (2 : Int))) (
          LdL ⟨reg_, 8, none⟩ w3 fun x36_b x36_l x36_c =>
          LdI .i64 ⟨o_, 1, none⟩ w3 fun x38 =>
          LdS ⟨o_, 4, none⟩ w3 fun x40 =>
          New (.cells #[.int .i64 x38, .string x40] 103) w3 fun b42 w10 =>
          Append 103 (.agg #[.int .i64 (0 : Int), .string (ByteArray.mk #[])]) 2 24 x36_b x36_l x36_c (some ⟨b42, 0, none⟩) 1 w10 fun b43 c43 w11 =>
          Sts [.slice b43 (x36_l + 1) c43] ⟨reg_, 8, none⟩ 0 w11 fun w12 =>
          synclaw_Write.B1 reg_ b4 w12  R) (
          synclaw_Write.B1 reg_ b4 w3  R)) (
        Bm (x6 == (14 : Int)) (
          LdS ⟨o_, 4, none⟩ w3 fun x48 =>
          Sts [.string x48] ⟨reg_, 9, none⟩ 0 w3 fun w13 =>
          synclaw_Write.B1 reg_ b4 w13  R) (
          synclaw_Write.B1 reg_ b4 w3  R))))
theorem synclaw_Write.B0_eq (reg_0 reg_1 reg_2 reg_3 reg_4 reg_5 reg_6 : Int) (reg_7 : Bool) (reg_8_b : Option Addr) (reg_8_l reg_8_c : Nat) (reg_9 : ByteArray) (o_0 o_1 o_2 o_3 : Int) (o_4 o_5 : ByteArray) (w : World)   (R : Int → Int → Int → Int → Int → Int → Int → Bool → Option Addr → Nat → Nat → ByteArray → World → Prop) (sB1 : Nat → Nat → World → Prop) :
    (
  New (.cells #[.int .i64 reg_0, .int .i64 reg_1, .int .i64 reg_2, .int .i64 reg_3, .int .i64 reg_4, .int .i64 reg_5, .int .i64 reg_6, .bool reg_7, .slice reg_8_b reg_8_l reg_8_c, .string reg_9] 40) w fun reg_ w1 =>
  New (.cells #[.int .i64 o_0, .int .i64 o_1, .int .i64 o_2, .int .i64 o_3, .string o_4, .string o_5] 48) w1 fun o_ w2 =>
  New (.cells #[.int .i64 (0 : Int), .int .i64 (0 : Int), .int .i64 (0 : Int), .int .i64 (0 : Int), .int .i64 (0 : Int), .int .i64 (0 : Int), .int .i64 (0 : Int), .bool false, .slice none 0 0, .string (ByteArray.mk #[])] 40) w2 fun b4 w3 =>
  LdI .i64 ⟨o_, 0, none⟩ w3 fun x6 =>
  Bm (x6 == (11 : Int)) (
    LdI .i64 ⟨o_, 1, none⟩ w3.drew fun x10 =>
    LdI .i64 ⟨o_, 2, none⟩ w3.drew fun x12 =>
    LdI .i64 ⟨o_, 3, none⟩ w3.drew fun x14 =>
    Sts [.int .i64 x10] ⟨reg_, 1, none⟩ 0 w3.drew fun w4 =>
    w4.cell? ⟨o_, 3, none⟩ = some (.int .i64 x14) ∧
    w4.cell? ⟨o_, 2, none⟩ = some (.int .i64 x12) ∧
    Sts [.int .i64 x12] ⟨reg_, 2, none⟩ 0 w4 fun w5 =>
    w5.cell? ⟨o_, 3, none⟩ = some (.int .i64 x14) ∧
    Sts [.int .i64 x14] ⟨reg_, 3, none⟩ 0 w5 fun w6 =>
    sB1 reg_ b4 w6) (
    Bm (x6 == (12 : Int)) (
      LdI .i64 ⟨o_, 1, none⟩ w3.drew fun x21 =>
      LdI .i64 ⟨o_, 2, none⟩ w3.drew fun x23 =>
      LdI .i64 ⟨o_, 3, none⟩ w3.drew fun x25 =>
      Sts [.int .i64 x21] ⟨reg_, 4, none⟩ 0 w3.drew fun w7 =>
      w7.cell? ⟨o_, 3, none⟩ = some (.int .i64 x25) ∧
      w7.cell? ⟨o_, 2, none⟩ = some (.int .i64 x23) ∧
      Sts [.int .i64 x23] ⟨reg_, 5, none⟩ 0 w7 fun w8 =>
      w8.cell? ⟨o_, 3, none⟩ = some (.int .i64 x25) ∧
      Sts [.int .i64 x25] ⟨reg_, 6, none⟩ 0 w8 fun w9 =>
      sB1 reg_ b4 w9) (
      Bm (x6 == (13 : Int)) (
        LdL ⟨reg_, 8, none⟩ w3 fun x32_b x32_l x32_c =>
        Bm (decide (((x32_l : Nat) : Int) ≤ (2 : Int))) (
          LdL ⟨reg_, 8, none⟩ w3 fun x36_b x36_l x36_c =>
          LdI .i64 ⟨o_, 1, none⟩ w3 fun x38 =>
          LdS ⟨o_, 4, none⟩ w3 fun x40 =>
          New (.cells #[.int .i64 x38, .string x40] 103) w3 fun b42 w10 =>
          Append 103 (.agg #[.int .i64 (0 : Int), .string (ByteArray.mk #[])]) 2 24 x36_b x36_l x36_c (some ⟨b42, 0, none⟩) 1 w10 fun b43 c43 w11 =>
          Sts [.slice b43 (x36_l + 1) c43] ⟨reg_, 8, none⟩ 0 w11 fun w12 =>
          sB1 reg_ b4 w12) (
          sB1 reg_ b4 w3)) (
        Bm (x6 == (14 : Int)) (
          LdS ⟨o_, 4, none⟩ w3 fun x48 =>
          Sts [.string x48] ⟨reg_, 9, none⟩ 0 w3 fun w13 =>
          sB1 reg_ b4 w13) (
          sB1 reg_ b4 w3))))) = kstep Tryz.prog 51 Tryz.f25.results.toList (Tryz.f25.body.getD .skip) (synclaw_Write.RV R) (kvc Tryz.prog 51 Tryz.f25.results.toList (Tryz.f25.body.getD .skip) (synclaw_Write.RV R) [([(0, [1, 1])], fun σ w => dK (slotOf σ 2) fun reg_ => dK (slotOf σ 4) fun t4_ => sB1 reg_ t4_ w)] 2000) [(0, [])] [(0, .agg #[.int .i64 reg_0, .int .i64 reg_1, .int .i64 reg_2, .int .i64 reg_3, .int .i64 reg_4, .int .i64 reg_5, .int .i64 reg_6, .bool reg_7, .slice reg_8_b reg_8_l reg_8_c, .string reg_9]), (1, .agg #[.int .i64 o_0, .int .i64 o_1, .int .i64 o_2, .int .i64 o_3, .string o_4, .string o_5])] w := by kernel_rfl
theorem synclaw_Write.B0_sound {R : Int → Int → Int → Int → Int → Int → Int → Bool → Option Addr → Nat → Nat → ByteArray → World → Prop}  (reg_0 reg_1 reg_2 reg_3 reg_4 reg_5 reg_6 : Int) (reg_7 : Bool) (reg_8_b : Option Addr) (reg_8_l reg_8_c : Nat) (reg_9 : ByteArray) (o_0 o_1 o_2 o_3 : Int) (o_4 o_5 : ByteArray) (w : World) (h : synclaw_Write.B0 reg_0 reg_1 reg_2 reg_3 reg_4 reg_5 reg_6 reg_7 reg_8_b reg_8_l reg_8_c reg_9 o_0 o_1 o_2 o_3 o_4 o_5 w   R) :
    KW Tryz.prog 25 51 (synclaw_Write.RV R) ([(0, [])].map (toItem (Tryz.f25.body.getD .skip))) [(0, .agg #[.int .i64 reg_0, .int .i64 reg_1, .int .i64 reg_2, .int .i64 reg_3, .int .i64 reg_4, .int .i64 reg_5, .int .i64 reg_6, .bool reg_7, .slice reg_8_b reg_8_l reg_8_c, .string reg_9]), (1, .agg #[.int .i64 o_0, .int .i64 o_1, .int .i64 o_2, .int .i64 o_3, .string o_4, .string o_5])] w := by
  exact block_spec Tryz.func25 Tryz.mixed (stops_cons (fun σ w h => by
      obtain ⟨reg_, e0, h⟩ := dK_elim h
      obtain ⟨t4_, e1, h⟩ := dK_elim h
      exact (synclaw_Write.B1_sound  reg_ t4_ w h).weaken (Sub.cons (Sub.cons (Sub.nil _) e1) e0)) stops_nil) (Eq.mp (synclaw_Write.B0_eq reg_0 reg_1 reg_2 reg_3 reg_4 reg_5 reg_6 reg_7 reg_8_b reg_8_l reg_8_c reg_9 o_0 o_1 o_2 o_3 o_4 o_5 w   R (fun reg_ t4_ w => synclaw_Write.B1 reg_ t4_ w  R)) h)
theorem synclaw_Write.sound (reg_0 reg_1 reg_2 reg_3 reg_4 reg_5 reg_6 : Int) (reg_7 : Bool) (reg_8_b : Option Addr) (reg_8_l reg_8_c : Nat) (reg_9 : ByteArray) (o_0 o_1 o_2 o_3 : Int) (o_4 o_5 : ByteArray) (w : World) (R : Int → Int → Int → Int → Int → Int → Int → Bool → Option Addr → Nat → Nat → ByteArray → World → Prop) (h : synclaw_Write.B0 reg_0 reg_1 reg_2 reg_3 reg_4 reg_5 reg_6 reg_7 reg_8_b reg_8_l reg_8_c reg_9 o_0 o_1 o_2 o_3 o_4 o_5 w R) : synclaw_Write.Call reg_0 reg_1 reg_2 reg_3 reg_4 reg_5 reg_6 reg_7 reg_8_b reg_8_l reg_8_c reg_9 o_0 o_1 o_2 o_3 o_4 o_5 w R := by
  have hc := calls_of_block (args := #[.agg #[.int .i64 reg_0, .int .i64 reg_1, .int .i64 reg_2, .int .i64 reg_3, .int .i64 reg_4, .int .i64 reg_5, .int .i64 reg_6, .bool reg_7, .slice reg_8_b reg_8_l reg_8_c, .string reg_9], .agg #[.int .i64 o_0, .int .i64 o_1, .int .i64 o_2, .int .i64 o_3, .string o_4, .string o_5]]) Tryz.func25 (body := (Tryz.f25.body.getD .skip)) (by kernel_rfl) (by kernel_rfl) (args_slot _) (synclaw_Write.B0_sound reg_0 reg_1 reg_2 reg_3 reg_4 reg_5 reg_6 reg_7 reg_8_b reg_8_l reg_8_c reg_9 o_0 o_1 o_2 o_3 o_4 o_5 w h)
  exact hc.mono fun e w' he => by
    obtain ⟨v, rfl, hv⟩ := he
    exact synclaw_Write.RV_elim hv
def synclaw_Play.B0 (x m0 : Option Addr) (o_0 o_1 o_2 o_3 : Int) (o_4 o_5 : ByteArray) (w : World)   (R : Bool → World → Prop) : Prop :=
  New (.cells #[.int .i64 o_0, .int .i64 o_1, .int .i64 o_2, .int .i64 o_3, .string o_4, .string o_5] 48) w fun o_ w1 =>
  LdI .i64 ⟨o_, 0, none⟩ w1 fun x8 =>
  Bm (x8 == (2 : Int)) (
    LdS ⟨o_, 4, none⟩ w1 fun x14 =>
    synclaw_SamePropose.Call x m0 x14 w1 fun r15 w2 =>
    R r15 w2) (
    Bm (x8 == (3 : Int)) (
      LdI .i64 ⟨o_, 1, none⟩ w1 fun x21 =>
      LdS ⟨o_, 4, none⟩ w1 fun x23 =>
      synclaw_SameCompact.Call x m0 x21 x23 w1 fun r24 w3 =>
      R r24 w3) (
      Bm (x8 == (4 : Int)) (
        LdI .i64 ⟨o_, 1, none⟩ w1 fun x30 =>
        synclaw_SameAt.Call x m0 x30 w1 fun r31 w4 =>
        R r31 w4) (
        Bm (x8 == (5 : Int)) (
          LdI .i64 ⟨o_, 1, none⟩ w1 fun x37 =>
          synclaw_SameTermAt.Call x m0 x37 w1 fun r38 w5 =>
          R r38 w5) (
          Bm (x8 == (21 : Int)) (
            synclaw_SameView.Call x m0 w1 fun r43 w6 =>
            R r43 w6) (
            Bm (x8 == (22 : Int)) (
              sync_Sync_Check.Call x w1 fun r47 w7 =>
              R (r47.toList == (ByteArray.mk #[]).toList) w7) (
              R true w1))))))
theorem synclaw_Play.B0_eq (x m0 : Option Addr) (o_0 o_1 o_2 o_3 : Int) (o_4 o_5 : ByteArray) (w : World)   (R : Bool → World → Prop)  :
    (
  New (.cells #[.int .i64 o_0, .int .i64 o_1, .int .i64 o_2, .int .i64 o_3, .string o_4, .string o_5] 48) w fun o_ w1 =>
  LdI .i64 ⟨o_, 0, none⟩ w1 fun x8 =>
  Bm (x8 == (2 : Int)) (
    LdS ⟨o_, 4, none⟩ w1 fun x14 =>
    synclaw_SamePropose.Call x m0 x14 w1 fun r15 w2 =>
    R r15 w2) (
    Bm (x8 == (3 : Int)) (
      LdI .i64 ⟨o_, 1, none⟩ w1 fun x21 =>
      LdS ⟨o_, 4, none⟩ w1 fun x23 =>
      synclaw_SameCompact.Call x m0 x21 x23 w1 fun r24 w3 =>
      R r24 w3) (
      Bm (x8 == (4 : Int)) (
        LdI .i64 ⟨o_, 1, none⟩ w1 fun x30 =>
        synclaw_SameAt.Call x m0 x30 w1 fun r31 w4 =>
        R r31 w4) (
        Bm (x8 == (5 : Int)) (
          LdI .i64 ⟨o_, 1, none⟩ w1 fun x37 =>
          synclaw_SameTermAt.Call x m0 x37 w1 fun r38 w5 =>
          R r38 w5) (
          Bm (x8 == (21 : Int)) (
            synclaw_SameView.Call x m0 w1 fun r43 w6 =>
            R r43 w6) (
            Bm (x8 == (22 : Int)) (
              sync_Sync_Check.Call x w1 fun r47 w7 =>
              R (r47.toList == (ByteArray.mk #[]).toList) w7) (
              R true w1))))))) = kstep Tryz.prog 49 Tryz.f26.results.toList (Tryz.f26.body.getD .skip) (synclaw_Play.RV R) (kvc Tryz.prog 49 Tryz.f26.results.toList (Tryz.f26.body.getD .skip) (synclaw_Play.RV R) [] 2000) [(0, [])] [(0, .pointer x), (1, .pointer m0), (2, .agg #[.int .i64 o_0, .int .i64 o_1, .int .i64 o_2, .int .i64 o_3, .string o_4, .string o_5])] w := by kernel_rfl
theorem synclaw_Play.B0_sound {R : Bool → World → Prop}  (x m0 : Option Addr) (o_0 o_1 o_2 o_3 : Int) (o_4 o_5 : ByteArray) (w : World) (h : synclaw_Play.B0 x m0 o_0 o_1 o_2 o_3 o_4 o_5 w   R) :
    KW Tryz.prog 26 49 (synclaw_Play.RV R) ([(0, [])].map (toItem (Tryz.f26.body.getD .skip))) [(0, .pointer x), (1, .pointer m0), (2, .agg #[.int .i64 o_0, .int .i64 o_1, .int .i64 o_2, .int .i64 o_3, .string o_4, .string o_5])] w := by
  exact block_spec Tryz.func26 Tryz.mixed stops_nil (Eq.mp (synclaw_Play.B0_eq x m0 o_0 o_1 o_2 o_3 o_4 o_5 w   R ) h)
theorem synclaw_Play.sound (x m0 : Option Addr) (o_0 o_1 o_2 o_3 : Int) (o_4 o_5 : ByteArray) (w : World) (R : Bool → World → Prop) (h : synclaw_Play.B0 x m0 o_0 o_1 o_2 o_3 o_4 o_5 w R) : synclaw_Play.Call x m0 o_0 o_1 o_2 o_3 o_4 o_5 w R := by
  have hc := calls_of_block (args := #[.pointer x, .pointer m0, .agg #[.int .i64 o_0, .int .i64 o_1, .int .i64 o_2, .int .i64 o_3, .string o_4, .string o_5]]) Tryz.func26 (body := (Tryz.f26.body.getD .skip)) (by kernel_rfl) (by kernel_rfl) (args_slot _) (synclaw_Play.B0_sound x m0 o_0 o_1 o_2 o_3 o_4 o_5 w h)
  exact hc.mono fun e w' he => by
    obtain ⟨v, rfl, hv⟩ := he
    exact synclaw_Play.RV_elim hv
def synclaw_SameMsgs.L1b (a_b : Option Addr) (a_l a_c : Nat) (b_b : Option Addr) (b_l b_c : Nat) (i : Int) (w : World)  (N1 : Option Addr → Nat → Nat → Option Addr → Nat → Nat → Int → World → Prop) (R : Bool → World → Prop) : Prop :=
  Bm (decide (i < ((a_l : Nat) : Int))) (
    Pn a_b fun a =>
    (0 ≤ i ∧ i < ((a_l : Nat) : Int)) ∧
    LdI .i64 (Addr.add a (i.toNat * 10)) w.drew fun x20_0 =>
    LdI .i64 ((Addr.add a (i.toNat * 10)).add 1) w.drew fun x20_1 =>
    LdI .i64 ((Addr.add a (i.toNat * 10)).add 2) w.drew fun x20_2 =>
    LdI .i64 ((Addr.add a (i.toNat * 10)).add 3) w.drew fun x20_3 =>
    LdI .i64 ((Addr.add a (i.toNat * 10)).add 4) w.drew fun x20_4 =>
    LdI .i64 ((Addr.add a (i.toNat * 10)).add 5) w.drew fun x20_5 =>
    LdI .i64 ((Addr.add a (i.toNat * 10)).add 6) w.drew fun x20_6 =>
    LdB ((Addr.add a (i.toNat * 10)).add 7) w.drew fun x20_7 =>
    LdL ((Addr.add a (i.toNat * 10)).add 8) w.drew fun x20_8_b x20_8_l x20_8_c =>
    LdS ((Addr.add a (i.toNat * 10)).add 9) w.drew fun x20_9 =>
    Pn b_b fun a_1 =>
    (0 ≤ i ∧ i < ((b_l : Nat) : Int)) ∧
    LdI .i64 (Addr.add a_1 (i.toNat * 10)) w.drew fun x24_0 =>
    LdI .i64 ((Addr.add a_1 (i.toNat * 10)).add 1) w.drew fun x24_1 =>
    LdI .i64 ((Addr.add a_1 (i.toNat * 10)).add 2) w.drew fun x24_2 =>
    LdI .i64 ((Addr.add a_1 (i.toNat * 10)).add 3) w.drew fun x24_3 =>
    LdI .i64 ((Addr.add a_1 (i.toNat * 10)).add 4) w.drew fun x24_4 =>
    LdI .i64 ((Addr.add a_1 (i.toNat * 10)).add 5) w.drew fun x24_5 =>
    LdI .i64 ((Addr.add a_1 (i.toNat * 10)).add 6) w.drew fun x24_6 =>
    LdB ((Addr.add a_1 (i.toNat * 10)).add 7) w.drew fun x24_7 =>
    LdL ((Addr.add a_1 (i.toNat * 10)).add 8) w.drew fun x24_8_b x24_8_l x24_8_c =>
    LdS ((Addr.add a_1 (i.toNat * 10)).add 9) w.drew fun x24_9 =>
    synclaw_SameMsg.Call x20_0 x20_1 x20_2 x20_3 x20_4 x20_5 x20_6 x20_7 x20_8_b x20_8_l x20_8_c x20_9 x24_0 x24_1 x24_2 x24_3 x24_4 x24_5 x24_6 x24_7 x24_8_b x24_8_l x24_8_c x24_9 w.drew fun r25 w1 =>
    Bm (!r25) (
      R false w1) (
      N1 a_b a_l a_c b_b b_l b_c (IntKind.i64.wrap (i + (1 : Int))) w1)) (
    R true w)
theorem synclaw_SameMsgs.L1b_eq (a_b : Option Addr) (a_l a_c : Nat) (b_b : Option Addr) (b_l b_c : Nat) (i : Int) (w : World)  (N1 : Option Addr → Nat → Nat → Option Addr → Nat → Nat → Int → World → Prop) (R : Bool → World → Prop)  :
    (
  Bm (decide (i < ((a_l : Nat) : Int))) (
    Pn a_b fun a =>
    (0 ≤ i ∧ i < ((a_l : Nat) : Int)) ∧
    LdI .i64 (Addr.add a (i.toNat * 10)) w.drew fun x20_0 =>
    LdI .i64 ((Addr.add a (i.toNat * 10)).add 1) w.drew fun x20_1 =>
    LdI .i64 ((Addr.add a (i.toNat * 10)).add 2) w.drew fun x20_2 =>
    LdI .i64 ((Addr.add a (i.toNat * 10)).add 3) w.drew fun x20_3 =>
    LdI .i64 ((Addr.add a (i.toNat * 10)).add 4) w.drew fun x20_4 =>
    LdI .i64 ((Addr.add a (i.toNat * 10)).add 5) w.drew fun x20_5 =>
    LdI .i64 ((Addr.add a (i.toNat * 10)).add 6) w.drew fun x20_6 =>
    LdB ((Addr.add a (i.toNat * 10)).add 7) w.drew fun x20_7 =>
    LdL ((Addr.add a (i.toNat * 10)).add 8) w.drew fun x20_8_b x20_8_l x20_8_c =>
    LdS ((Addr.add a (i.toNat * 10)).add 9) w.drew fun x20_9 =>
    Pn b_b fun a_1 =>
    (0 ≤ i ∧ i < ((b_l : Nat) : Int)) ∧
    LdI .i64 (Addr.add a_1 (i.toNat * 10)) w.drew fun x24_0 =>
    LdI .i64 ((Addr.add a_1 (i.toNat * 10)).add 1) w.drew fun x24_1 =>
    LdI .i64 ((Addr.add a_1 (i.toNat * 10)).add 2) w.drew fun x24_2 =>
    LdI .i64 ((Addr.add a_1 (i.toNat * 10)).add 3) w.drew fun x24_3 =>
    LdI .i64 ((Addr.add a_1 (i.toNat * 10)).add 4) w.drew fun x24_4 =>
    LdI .i64 ((Addr.add a_1 (i.toNat * 10)).add 5) w.drew fun x24_5 =>
    LdI .i64 ((Addr.add a_1 (i.toNat * 10)).add 6) w.drew fun x24_6 =>
    LdB ((Addr.add a_1 (i.toNat * 10)).add 7) w.drew fun x24_7 =>
    LdL ((Addr.add a_1 (i.toNat * 10)).add 8) w.drew fun x24_8_b x24_8_l x24_8_c =>
    LdS ((Addr.add a_1 (i.toNat * 10)).add 9) w.drew fun x24_9 =>
    synclaw_SameMsg.Call x20_0 x20_1 x20_2 x20_3 x20_4 x20_5 x20_6 x20_7 x20_8_b x20_8_l x20_8_c x20_9 x24_0 x24_1 x24_2 x24_3 x24_4 x24_5 x24_6 x24_7 x24_8_b x24_8_l x24_8_c x24_9 w.drew fun r25 w1 =>
    Bm (!r25) (
      R false w1) (
      N1 a_b a_l a_c b_b b_l b_c (IntKind.i64.wrap (i + (1 : Int))) w1)) (
    R true w)) = kstep Tryz.prog 27 Tryz.f27.results.toList (Tryz.f27.body.getD .skip) (synclaw_SameMsgs.RV R) (kvc Tryz.prog 27 Tryz.f27.results.toList (Tryz.f27.body.getD .skip) (synclaw_SameMsgs.RV R) [([(0, [1, 1, 0, 1, 0, 0]), (2, [1, 1, 0, 1, 0, 0]), (1, [0]), (0, [1, 1, 1])], fun σ w => dL (slotOf σ 0) fun a_b_ a_l_ a_c_ => dL (slotOf σ 1) fun b_b_ b_l_ b_c_ => dI .i64 (slotOf σ 5) fun i_ => N1 a_b_ a_l_ a_c_ b_b_ b_l_ b_c_ i_ w)] 2000) [(0, [1, 1, 0, 1, 0, 0]), (2, [1, 1, 0, 1, 0, 0]), (1, [0]), (0, [1, 1, 1])] [(0, .slice a_b a_l a_c), (1, .slice b_b b_l b_c), (5, .int .i64 i)] w := by kernel_rfl
theorem synclaw_SameMsgs.L1b_sound {R : Bool → World → Prop} {N1 : Option Addr → Nat → Nat → Option Addr → Nat → Nat → Int → World → Prop} (hN1 : ∀ a_b a_l a_c b_b b_l b_c i w, N1 a_b a_l a_c b_b b_l b_c i w → KW Tryz.prog 27 27 (synclaw_SameMsgs.RV R) ([(0, [1, 1, 0, 1, 0, 0]), (2, [1, 1, 0, 1, 0, 0]), (1, [0]), (0, [1, 1, 1])].map (toItem (Tryz.f27.body.getD .skip))) [(0, .slice a_b a_l a_c), (1, .slice b_b b_l b_c), (5, .int .i64 i)] w) (a_b : Option Addr) (a_l a_c : Nat) (b_b : Option Addr) (b_l b_c : Nat) (i : Int) (w : World) (h : synclaw_SameMsgs.L1b a_b a_l a_c b_b b_l b_c i w  N1 R) :
    KW Tryz.prog 27 27 (synclaw_SameMsgs.RV R) ([(0, [1, 1, 0, 1, 0, 0]), (2, [1, 1, 0, 1, 0, 0]), (1, [0]), (0, [1, 1, 1])].map (toItem (Tryz.f27.body.getD .skip))) [(0, .slice a_b a_l a_c), (1, .slice b_b b_l b_c), (5, .int .i64 i)] w := by
  exact block_spec Tryz.func27 Tryz.mixed (stops_cons (fun σ w h => by
      obtain ⟨a_b_, a_l_, a_c_, e0, h⟩ := dL_elim h
      obtain ⟨b_b_, b_l_, b_c_, e1, h⟩ := dL_elim h
      obtain ⟨i_, e2, h⟩ := dI_elim h
      exact (hN1 a_b_ a_l_ a_c_ b_b_ b_l_ b_c_ i_ w h).weaken (Sub.cons (Sub.cons (Sub.cons (Sub.nil _) e2) e1) e0)) stops_nil) (Eq.mp (synclaw_SameMsgs.L1b_eq a_b a_l a_c b_b b_l b_c i w  N1 R ) h)
def synclaw_SameMsgs.L1 (a_b : Option Addr) (a_l a_c : Nat) (b_b : Option Addr) (b_l b_c : Nat) (i : Int) (w : World)  (R : Bool → World → Prop) : Prop :=
  ∃ (I : Nat → Option Addr → Nat → Nat → Option Addr → Nat → Nat → Int → World → Prop) (m : Nat), I m a_b a_l a_c b_b b_l b_c i w ∧ ∀ m a_b a_l a_c b_b b_l b_c i w, I m a_b a_l a_c b_b b_l b_c i w → synclaw_SameMsgs.L1b a_b a_l a_c b_b b_l b_c i w  (fun a_b' a_l' a_c' b_b' b_l' b_c' i' w' => ∃ m', m' < m ∧ I m' a_b' a_l' a_c' b_b' b_l' b_c' i' w') R
theorem synclaw_SameMsgs.L1_sound {R : Bool → World → Prop}  (a_b : Option Addr) (a_l a_c : Nat) (b_b : Option Addr) (b_l b_c : Nat) (i : Int) (w : World) (h : synclaw_SameMsgs.L1 a_b a_l a_c b_b b_l b_c i w  R) :
    KW Tryz.prog 27 27 (synclaw_SameMsgs.RV R) ([(0, [1, 1, 0, 1, 0, 0]), (2, [1, 1, 0, 1, 0, 0]), (1, [0]), (0, [1, 1, 1])].map (toItem (Tryz.f27.body.getD .skip))) [(0, .slice a_b a_l a_c), (1, .slice b_b b_l b_c), (5, .int .i64 i)] w := by
  obtain ⟨I, m, hBase, hr⟩ := h
  refine KW.loop (fun m σ w => ∃ (a_b : Option Addr) (a_l a_c : Nat) (b_b : Option Addr) (b_l b_c : Nat) (i : Int), σ = [(0, .slice a_b a_l a_c), (1, .slice b_b b_l b_c), (5, .int .i64 i)] ∧ I m a_b a_l a_c b_b b_l b_c i w) ?_ m _ w ⟨a_b, a_l, a_c, b_b, b_l, b_c, i, rfl, hBase⟩
  rintro m ih σ w ⟨a_b, a_l, a_c, b_b, b_l, b_c, i, rfl, hI⟩
  exact synclaw_SameMsgs.L1b_sound  (N1 := fun a_b' a_l' a_c' b_b' b_l' b_c' i' w' => ∃ m', m' < m ∧ I m' a_b' a_l' a_c' b_b' b_l' b_c' i' w') (fun a_b' a_l' a_c' b_b' b_l' b_c' i' w' hx => by obtain ⟨m', hlt, hI'⟩ := hx; exact ih m' hlt _ w' ⟨a_b', a_l', a_c', b_b', b_l', b_c', i', rfl, hI'⟩) a_b a_l a_c b_b b_l b_c i w (hr m a_b a_l a_c b_b b_l b_c i w hI)
def synclaw_SameMsgs.B0 (a_b : Option Addr) (a_l a_c : Nat) (b_b : Option Addr) (b_l b_c : Nat) (w : World)   (R : Bool → World → Prop) : Prop :=
  Bm (((a_l : Nat) : Int) != ((b_l : Nat) : Int)) (
    R false w) (
    synclaw_SameMsgs.L1 a_b a_l a_c b_b b_l b_c (0 : Int) w  R)
theorem synclaw_SameMsgs.B0_eq (a_b : Option Addr) (a_l a_c : Nat) (b_b : Option Addr) (b_l b_c : Nat) (w : World)   (R : Bool → World → Prop) (sL1 : Option Addr → Nat → Nat → Option Addr → Nat → Nat → Int → World → Prop) :
    (
  Bm (((a_l : Nat) : Int) != ((b_l : Nat) : Int)) (
    R false w) (
    sL1 a_b a_l a_c b_b b_l b_c (0 : Int) w)) = kstep Tryz.prog 27 Tryz.f27.results.toList (Tryz.f27.body.getD .skip) (synclaw_SameMsgs.RV R) (kvc Tryz.prog 27 Tryz.f27.results.toList (Tryz.f27.body.getD .skip) (synclaw_SameMsgs.RV R) [([(0, [1, 1, 0, 1, 0, 0]), (2, [1, 1, 0, 1, 0, 0]), (1, [0]), (0, [1, 1, 1])], fun σ w => dL (slotOf σ 0) fun a_b_ a_l_ a_c_ => dL (slotOf σ 1) fun b_b_ b_l_ b_c_ => dI .i64 (slotOf σ 5) fun i_ => sL1 a_b_ a_l_ a_c_ b_b_ b_l_ b_c_ i_ w)] 2000) [(0, [])] [(0, .slice a_b a_l a_c), (1, .slice b_b b_l b_c)] w := by kernel_rfl
theorem synclaw_SameMsgs.B0_sound {R : Bool → World → Prop}  (a_b : Option Addr) (a_l a_c : Nat) (b_b : Option Addr) (b_l b_c : Nat) (w : World) (h : synclaw_SameMsgs.B0 a_b a_l a_c b_b b_l b_c w   R) :
    KW Tryz.prog 27 27 (synclaw_SameMsgs.RV R) ([(0, [])].map (toItem (Tryz.f27.body.getD .skip))) [(0, .slice a_b a_l a_c), (1, .slice b_b b_l b_c)] w := by
  exact block_spec Tryz.func27 Tryz.mixed (stops_cons (fun σ w h => by
      obtain ⟨a_b_, a_l_, a_c_, e0, h⟩ := dL_elim h
      obtain ⟨b_b_, b_l_, b_c_, e1, h⟩ := dL_elim h
      obtain ⟨i_, e2, h⟩ := dI_elim h
      exact (synclaw_SameMsgs.L1_sound  a_b_ a_l_ a_c_ b_b_ b_l_ b_c_ i_ w h).weaken (Sub.cons (Sub.cons (Sub.cons (Sub.nil _) e2) e1) e0)) stops_nil) (Eq.mp (synclaw_SameMsgs.B0_eq a_b a_l a_c b_b b_l b_c w   R (fun a_b_ a_l_ a_c_ b_b_ b_l_ b_c_ i_ w => synclaw_SameMsgs.L1 a_b_ a_l_ a_c_ b_b_ b_l_ b_c_ i_ w  R)) h)
theorem synclaw_SameMsgs.sound (a_b : Option Addr) (a_l a_c : Nat) (b_b : Option Addr) (b_l b_c : Nat) (w : World) (R : Bool → World → Prop) (h : synclaw_SameMsgs.B0 a_b a_l a_c b_b b_l b_c w R) : synclaw_SameMsgs.Call a_b a_l a_c b_b b_l b_c w R := by
  have hc := calls_of_block (args := #[.slice a_b a_l a_c, .slice b_b b_l b_c]) Tryz.func27 (body := (Tryz.f27.body.getD .skip)) (by kernel_rfl) (by kernel_rfl) (args_slot _) (synclaw_SameMsgs.B0_sound a_b a_l a_c b_b b_l b_c w h)
  exact hc.mono fun e w' he => by
    obtain ⟨v, rfl, hv⟩ := he
    exact synclaw_SameMsgs.RV_elim hv
def synclaw_Untouched.L1b (mine_b : Option Addr) (mine_l mine_c : Nat) (j : Int) (w : World)  (N1 : Option Addr → Nat → Nat → Int → World → Prop) (R : Bool → World → Prop) : Prop :=
  Bm (decide (j < ((mine_l : Nat) : Int))) (
    Pn mine_b fun a =>
    (0 ≤ j ∧ j < ((mine_l : Nat) : Int)) ∧
    LdL (Addr.add a (j.toNat * 2)) w fun x13_0_b x13_0_l x13_0_c =>
    LdL ((Addr.add a (j.toNat * 2)).add 1) w fun x13_1_b x13_1_l x13_1_c =>
    synclaw_StillStamped.Call x13_0_b x13_0_l x13_0_c x13_1_b x13_1_l x13_1_c w fun r14 w1 =>
    Bm (!r14) (
      R false w1) (
      N1 mine_b mine_l mine_c (IntKind.i64.wrap (j + (1 : Int))) w1)) (
    R true w)
theorem synclaw_Untouched.L1b_eq (mine_b : Option Addr) (mine_l mine_c : Nat) (j : Int) (w : World)  (N1 : Option Addr → Nat → Nat → Int → World → Prop) (R : Bool → World → Prop)  :
    (
  Bm (decide (j < ((mine_l : Nat) : Int))) (
    Pn mine_b fun a =>
    (0 ≤ j ∧ j < ((mine_l : Nat) : Int)) ∧
    LdL (Addr.add a (j.toNat * 2)) w fun x13_0_b x13_0_l x13_0_c =>
    LdL ((Addr.add a (j.toNat * 2)).add 1) w fun x13_1_b x13_1_l x13_1_c =>
    synclaw_StillStamped.Call x13_0_b x13_0_l x13_0_c x13_1_b x13_1_l x13_1_c w fun r14 w1 =>
    Bm (!r14) (
      R false w1) (
      N1 mine_b mine_l mine_c (IntKind.i64.wrap (j + (1 : Int))) w1)) (
    R true w)) = kstep Tryz.prog 16 Tryz.f28.results.toList (Tryz.f28.body.getD .skip) (synclaw_Untouched.RV R) (kvc Tryz.prog 16 Tryz.f28.results.toList (Tryz.f28.body.getD .skip) (synclaw_Untouched.RV R) [([(0, [1, 0, 1, 0, 0]), (2, [1, 0, 1, 0, 0]), (1, [0]), (0, [1, 1])], fun σ w => dL (slotOf σ 0) fun mine_b_ mine_l_ mine_c_ => dI .i64 (slotOf σ 3) fun j_ => N1 mine_b_ mine_l_ mine_c_ j_ w)] 2000) [(0, [1, 0, 1, 0, 0]), (2, [1, 0, 1, 0, 0]), (1, [0]), (0, [1, 1])] [(0, .slice mine_b mine_l mine_c), (3, .int .i64 j)] w := by kernel_rfl
theorem synclaw_Untouched.L1b_sound {R : Bool → World → Prop} {N1 : Option Addr → Nat → Nat → Int → World → Prop} (hN1 : ∀ mine_b mine_l mine_c j w, N1 mine_b mine_l mine_c j w → KW Tryz.prog 28 16 (synclaw_Untouched.RV R) ([(0, [1, 0, 1, 0, 0]), (2, [1, 0, 1, 0, 0]), (1, [0]), (0, [1, 1])].map (toItem (Tryz.f28.body.getD .skip))) [(0, .slice mine_b mine_l mine_c), (3, .int .i64 j)] w) (mine_b : Option Addr) (mine_l mine_c : Nat) (j : Int) (w : World) (h : synclaw_Untouched.L1b mine_b mine_l mine_c j w  N1 R) :
    KW Tryz.prog 28 16 (synclaw_Untouched.RV R) ([(0, [1, 0, 1, 0, 0]), (2, [1, 0, 1, 0, 0]), (1, [0]), (0, [1, 1])].map (toItem (Tryz.f28.body.getD .skip))) [(0, .slice mine_b mine_l mine_c), (3, .int .i64 j)] w := by
  exact block_spec Tryz.func28 Tryz.mixed (stops_cons (fun σ w h => by
      obtain ⟨mine_b_, mine_l_, mine_c_, e0, h⟩ := dL_elim h
      obtain ⟨j_, e1, h⟩ := dI_elim h
      exact (hN1 mine_b_ mine_l_ mine_c_ j_ w h).weaken (Sub.cons (Sub.cons (Sub.nil _) e1) e0)) stops_nil) (Eq.mp (synclaw_Untouched.L1b_eq mine_b mine_l mine_c j w  N1 R ) h)
def synclaw_Untouched.L1 (mine_b : Option Addr) (mine_l mine_c : Nat) (j : Int) (w : World)  (R : Bool → World → Prop) : Prop :=
  ∃ (I : Nat → Option Addr → Nat → Nat → Int → World → Prop) (m : Nat), I m mine_b mine_l mine_c j w ∧ ∀ m mine_b mine_l mine_c j w, I m mine_b mine_l mine_c j w → synclaw_Untouched.L1b mine_b mine_l mine_c j w  (fun mine_b' mine_l' mine_c' j' w' => ∃ m', m' < m ∧ I m' mine_b' mine_l' mine_c' j' w') R
theorem synclaw_Untouched.L1_sound {R : Bool → World → Prop}  (mine_b : Option Addr) (mine_l mine_c : Nat) (j : Int) (w : World) (h : synclaw_Untouched.L1 mine_b mine_l mine_c j w  R) :
    KW Tryz.prog 28 16 (synclaw_Untouched.RV R) ([(0, [1, 0, 1, 0, 0]), (2, [1, 0, 1, 0, 0]), (1, [0]), (0, [1, 1])].map (toItem (Tryz.f28.body.getD .skip))) [(0, .slice mine_b mine_l mine_c), (3, .int .i64 j)] w := by
  obtain ⟨I, m, hBase, hr⟩ := h
  refine KW.loop (fun m σ w => ∃ (mine_b : Option Addr) (mine_l mine_c : Nat) (j : Int), σ = [(0, .slice mine_b mine_l mine_c), (3, .int .i64 j)] ∧ I m mine_b mine_l mine_c j w) ?_ m _ w ⟨mine_b, mine_l, mine_c, j, rfl, hBase⟩
  rintro m ih σ w ⟨mine_b, mine_l, mine_c, j, rfl, hI⟩
  exact synclaw_Untouched.L1b_sound  (N1 := fun mine_b' mine_l' mine_c' j' w' => ∃ m', m' < m ∧ I m' mine_b' mine_l' mine_c' j' w') (fun mine_b' mine_l' mine_c' j' w' hx => by obtain ⟨m', hlt, hI'⟩ := hx; exact ih m' hlt _ w' ⟨mine_b', mine_l', mine_c', j', rfl, hI'⟩) mine_b mine_l mine_c j w (hr m mine_b mine_l mine_c j w hI)
def synclaw_Untouched.B0 (mine_b : Option Addr) (mine_l mine_c : Nat) (w : World)   (R : Bool → World → Prop) : Prop :=
  synclaw_Untouched.L1 mine_b mine_l mine_c (0 : Int) w  R
theorem synclaw_Untouched.B0_eq (mine_b : Option Addr) (mine_l mine_c : Nat) (w : World)   (R : Bool → World → Prop) (sL1 : Option Addr → Nat → Nat → Int → World → Prop) :
    (
  sL1 mine_b mine_l mine_c (0 : Int) w) = kstep Tryz.prog 16 Tryz.f28.results.toList (Tryz.f28.body.getD .skip) (synclaw_Untouched.RV R) (kvc Tryz.prog 16 Tryz.f28.results.toList (Tryz.f28.body.getD .skip) (synclaw_Untouched.RV R) [([(0, [1, 0, 1, 0, 0]), (2, [1, 0, 1, 0, 0]), (1, [0]), (0, [1, 1])], fun σ w => dL (slotOf σ 0) fun mine_b_ mine_l_ mine_c_ => dI .i64 (slotOf σ 3) fun j_ => sL1 mine_b_ mine_l_ mine_c_ j_ w)] 2000) [(0, [])] [(0, .slice mine_b mine_l mine_c)] w := by kernel_rfl
theorem synclaw_Untouched.B0_sound {R : Bool → World → Prop}  (mine_b : Option Addr) (mine_l mine_c : Nat) (w : World) (h : synclaw_Untouched.B0 mine_b mine_l mine_c w   R) :
    KW Tryz.prog 28 16 (synclaw_Untouched.RV R) ([(0, [])].map (toItem (Tryz.f28.body.getD .skip))) [(0, .slice mine_b mine_l mine_c)] w := by
  exact block_spec Tryz.func28 Tryz.mixed (stops_cons (fun σ w h => by
      obtain ⟨mine_b_, mine_l_, mine_c_, e0, h⟩ := dL_elim h
      obtain ⟨j_, e1, h⟩ := dI_elim h
      exact (synclaw_Untouched.L1_sound  mine_b_ mine_l_ mine_c_ j_ w h).weaken (Sub.cons (Sub.cons (Sub.nil _) e1) e0)) stops_nil) (Eq.mp (synclaw_Untouched.B0_eq mine_b mine_l mine_c w   R (fun mine_b_ mine_l_ mine_c_ j_ w => synclaw_Untouched.L1 mine_b_ mine_l_ mine_c_ j_ w  R)) h)
theorem synclaw_Untouched.sound (mine_b : Option Addr) (mine_l mine_c : Nat) (w : World) (R : Bool → World → Prop) (h : synclaw_Untouched.B0 mine_b mine_l mine_c w R) : synclaw_Untouched.Call mine_b mine_l mine_c w R := by
  have hc := calls_of_block (args := #[.slice mine_b mine_l mine_c]) Tryz.func28 (body := (Tryz.f28.body.getD .skip)) (by kernel_rfl) (by kernel_rfl) (args_slot _) (synclaw_Untouched.B0_sound mine_b mine_l mine_c w h)
  exact hc.mono fun e w' he => by
    obtain ⟨v, rfl, hv⟩ := he
    exact synclaw_Untouched.RV_elim hv
def synclaw_Spoil.L2b (l_b : Option Addr) (l_l l_c t2 k : Nat) (i : Int) (e_b : Option Addr) (e_l e_c : Nat) (j : Int) (w : World) (N1 : Option Addr → Nat → Nat → Nat → Nat → Int → World → Prop) (N2 : Option Addr → Nat → Nat → Nat → Nat → Int → Option Addr → Nat → Nat → Int → World → Prop) (R : Option Addr → Nat → Nat → Option Addr → Nat → Nat → World → Prop) : Prop :=
  Bm (decide (j < ((e_l : Nat) : Int))) (
    Pn e_b fun a =>
    (0 ≤ j ∧ j < ((e_l : Nat) : Int)) ∧
    Sts [.int .i64 (-7 : Int), .string (ByteArray.mk #[])] (Addr.add a (j.toNat * 2)) 0 w fun w1 =>
    N2 l_b l_l l_c t2 k i e_b e_l e_c (IntKind.i64.wrap (j + (1 : Int))) w1) (
    LdL ⟨k, 1, none⟩ w fun x31_b x31_l x31_c =>
    New (.cells #[.slice e_b e_l e_c] 38) w fun b33 w2 =>
    Append 38 (.slice none 0 0) 1 24 x31_b x31_l x31_c (some ⟨b33, 0, none⟩) 1 w2 fun b34 c34 w3 =>
    Sts [.slice b34 (x31_l + 1) c34] ⟨k, 1, none⟩ 0 w3 fun w4 =>
    Pn l_b fun a_1 =>
    (0 ≤ i ∧ i < ((l_l : Nat) : Int)) ∧
    Sts [.int .i64 (-7 : Int), .int .i64 (0 : Int), .int .i64 (0 : Int), .int .i64 (0 : Int), .int .i64 (0 : Int), .int .i64 (0 : Int), .int .i64 (0 : Int), .bool false, .slice none 0 0, .string (ByteArray.mk #[])] (Addr.add a_1 (i.toNat * 10)) 0 w4 fun w5 =>
    N1 l_b l_l l_c t2 k (IntKind.i64.wrap (i + (1 : Int))) w5)
theorem synclaw_Spoil.L2b_eq (l_b : Option Addr) (l_l l_c t2 k : Nat) (i : Int) (e_b : Option Addr) (e_l e_c : Nat) (j : Int) (w : World) (N1 : Option Addr → Nat → Nat → Nat → Nat → Int → World → Prop) (N2 : Option Addr → Nat → Nat → Nat → Nat → Int → Option Addr → Nat → Nat → Int → World → Prop) (R : Option Addr → Nat → Nat → Option Addr → Nat → Nat → World → Prop)  :
    (
  Bm (decide (j < ((e_l : Nat) : Int))) (
    Pn e_b fun a =>
    (0 ≤ j ∧ j < ((e_l : Nat) : Int)) ∧
    Sts [.int .i64 (-7 : Int), .string (ByteArray.mk #[])] (Addr.add a (j.toNat * 2)) 0 w fun w1 =>
    N2 l_b l_l l_c t2 k i e_b e_l e_c (IntKind.i64.wrap (j + (1 : Int))) w1) (
    LdL ⟨k, 1, none⟩ w fun x31_b x31_l x31_c =>
    New (.cells #[.slice e_b e_l e_c] 38) w fun b33 w2 =>
    Append 38 (.slice none 0 0) 1 24 x31_b x31_l x31_c (some ⟨b33, 0, none⟩) 1 w2 fun b34 c34 w3 =>
    Sts [.slice b34 (x31_l + 1) c34] ⟨k, 1, none⟩ 0 w3 fun w4 =>
    Pn l_b fun a_1 =>
    (0 ≤ i ∧ i < ((l_l : Nat) : Int)) ∧
    Sts [.int .i64 (-7 : Int), .int .i64 (0 : Int), .int .i64 (0 : Int), .int .i64 (0 : Int), .int .i64 (0 : Int), .int .i64 (0 : Int), .int .i64 (0 : Int), .bool false, .slice none 0 0, .string (ByteArray.mk #[])] (Addr.add a_1 (i.toNat * 10)) 0 w4 fun w5 =>
    N1 l_b l_l l_c t2 k (IntKind.i64.wrap (i + (1 : Int))) w5)) = kstep Tryz.prog 41 Tryz.f29.results.toList (Tryz.f29.body.getD .skip) (synclaw_Spoil.RV R) (kvc Tryz.prog 41 Tryz.f29.results.toList (Tryz.f29.body.getD .skip) (synclaw_Spoil.RV R) [([(0, [1, 1, 0, 1, 0, 0, 1, 0, 0, 1, 0, 1, 0, 0]), (2, [1, 1, 0, 1, 0, 0, 1, 0, 0, 1, 0, 1, 0, 0]), (1, [2]), (0, [1, 1, 0, 1, 0, 0, 1, 0, 0, 1, 1]), (1, [1]), (0, [1, 1, 0, 1, 0, 0, 1, 1]), (2, [1, 1, 0, 1, 0, 0]), (1, [0]), (0, [1, 1, 1])], fun σ w => dL (slotOf σ 0) fun l_b_ l_l_ l_c_ => dK (slotOf σ 2) fun t2_ => dK (slotOf σ 3) fun k_ => dI .i64 (slotOf σ 4) fun i_ => dL (slotOf σ 5) fun e_b_ e_l_ e_c_ => dI .i64 (slotOf σ 6) fun j_ => N2 l_b_ l_l_ l_c_ t2_ k_ i_ e_b_ e_l_ e_c_ j_ w),
    ([(0, [1, 1, 0, 1, 0, 0]), (2, [1, 1, 0, 1, 0, 0]), (1, [0]), (0, [1, 1, 1])], fun σ w => dL (slotOf σ 0) fun l_b_ l_l_ l_c_ => dK (slotOf σ 2) fun t2_ => dK (slotOf σ 3) fun k_ => dI .i64 (slotOf σ 4) fun i_ => N1 l_b_ l_l_ l_c_ t2_ k_ i_ w)] 2000) [(0, [1, 1, 0, 1, 0, 0, 1, 0, 0, 1, 0, 1, 0, 0]), (2, [1, 1, 0, 1, 0, 0, 1, 0, 0, 1, 0, 1, 0, 0]), (1, [2]), (0, [1, 1, 0, 1, 0, 0, 1, 0, 0, 1, 1]), (1, [1]), (0, [1, 1, 0, 1, 0, 0, 1, 1]), (2, [1, 1, 0, 1, 0, 0]), (1, [0]), (0, [1, 1, 1])] [(0, .slice l_b l_l l_c), (2, .pointer (some ⟨t2, 0, none⟩)), (3, .pointer (some ⟨k, 0, none⟩)), (4, .int .i64 i), (5, .slice e_b e_l e_c), (6, .int .i64 j)] w := by kernel_rfl
theorem synclaw_Spoil.L2b_sound {R : Option Addr → Nat → Nat → Option Addr → Nat → Nat → World → Prop} {N1 : Option Addr → Nat → Nat → Nat → Nat → Int → World → Prop} (hN1 : ∀ l_b l_l l_c t2 k i w, N1 l_b l_l l_c t2 k i w → KW Tryz.prog 29 41 (synclaw_Spoil.RV R) ([(0, [1, 1, 0, 1, 0, 0]), (2, [1, 1, 0, 1, 0, 0]), (1, [0]), (0, [1, 1, 1])].map (toItem (Tryz.f29.body.getD .skip))) [(0, .slice l_b l_l l_c), (2, .pointer (some ⟨t2, 0, none⟩)), (3, .pointer (some ⟨k, 0, none⟩)), (4, .int .i64 i)] w) {N2 : Option Addr → Nat → Nat → Nat → Nat → Int → Option Addr → Nat → Nat → Int → World → Prop} (hN2 : ∀ l_b l_l l_c t2 k i e_b e_l e_c j w, N2 l_b l_l l_c t2 k i e_b e_l e_c j w → KW Tryz.prog 29 41 (synclaw_Spoil.RV R) ([(0, [1, 1, 0, 1, 0, 0, 1, 0, 0, 1, 0, 1, 0, 0]), (2, [1, 1, 0, 1, 0, 0, 1, 0, 0, 1, 0, 1, 0, 0]), (1, [2]), (0, [1, 1, 0, 1, 0, 0, 1, 0, 0, 1, 1]), (1, [1]), (0, [1, 1, 0, 1, 0, 0, 1, 1]), (2, [1, 1, 0, 1, 0, 0]), (1, [0]), (0, [1, 1, 1])].map (toItem (Tryz.f29.body.getD .skip))) [(0, .slice l_b l_l l_c), (2, .pointer (some ⟨t2, 0, none⟩)), (3, .pointer (some ⟨k, 0, none⟩)), (4, .int .i64 i), (5, .slice e_b e_l e_c), (6, .int .i64 j)] w) (l_b : Option Addr) (l_l l_c t2 k : Nat) (i : Int) (e_b : Option Addr) (e_l e_c : Nat) (j : Int) (w : World) (h : synclaw_Spoil.L2b l_b l_l l_c t2 k i e_b e_l e_c j w N1 N2 R) :
    KW Tryz.prog 29 41 (synclaw_Spoil.RV R) ([(0, [1, 1, 0, 1, 0, 0, 1, 0, 0, 1, 0, 1, 0, 0]), (2, [1, 1, 0, 1, 0, 0, 1, 0, 0, 1, 0, 1, 0, 0]), (1, [2]), (0, [1, 1, 0, 1, 0, 0, 1, 0, 0, 1, 1]), (1, [1]), (0, [1, 1, 0, 1, 0, 0, 1, 1]), (2, [1, 1, 0, 1, 0, 0]), (1, [0]), (0, [1, 1, 1])].map (toItem (Tryz.f29.body.getD .skip))) [(0, .slice l_b l_l l_c), (2, .pointer (some ⟨t2, 0, none⟩)), (3, .pointer (some ⟨k, 0, none⟩)), (4, .int .i64 i), (5, .slice e_b e_l e_c), (6, .int .i64 j)] w := by
  exact block_spec Tryz.func29 Tryz.mixed (stops_cons (fun σ w h => by
      obtain ⟨l_b_, l_l_, l_c_, e0, h⟩ := dL_elim h
      obtain ⟨t2_, e1, h⟩ := dK_elim h
      obtain ⟨k_, e2, h⟩ := dK_elim h
      obtain ⟨i_, e3, h⟩ := dI_elim h
      obtain ⟨e_b_, e_l_, e_c_, e4, h⟩ := dL_elim h
      obtain ⟨j_, e5, h⟩ := dI_elim h
      exact (hN2 l_b_ l_l_ l_c_ t2_ k_ i_ e_b_ e_l_ e_c_ j_ w h).weaken (Sub.cons (Sub.cons (Sub.cons (Sub.cons (Sub.cons (Sub.cons (Sub.nil _) e5) e4) e3) e2) e1) e0)) (stops_cons (fun σ w h => by
      obtain ⟨l_b_, l_l_, l_c_, e0, h⟩ := dL_elim h
      obtain ⟨t2_, e1, h⟩ := dK_elim h
      obtain ⟨k_, e2, h⟩ := dK_elim h
      obtain ⟨i_, e3, h⟩ := dI_elim h
      exact (hN1 l_b_ l_l_ l_c_ t2_ k_ i_ w h).weaken (Sub.cons (Sub.cons (Sub.cons (Sub.cons (Sub.nil _) e3) e2) e1) e0)) stops_nil)) (Eq.mp (synclaw_Spoil.L2b_eq l_b l_l l_c t2 k i e_b e_l e_c j w N1 N2 R ) h)
def synclaw_Spoil.L2 (l_b : Option Addr) (l_l l_c t2 k : Nat) (i : Int) (e_b : Option Addr) (e_l e_c : Nat) (j : Int) (w : World) (N1 : Option Addr → Nat → Nat → Nat → Nat → Int → World → Prop) (R : Option Addr → Nat → Nat → Option Addr → Nat → Nat → World → Prop) : Prop :=
  ∃ (I : Nat → Option Addr → Nat → Nat → Nat → Nat → Int → Option Addr → Nat → Nat → Int → World → Prop) (m : Nat), I m l_b l_l l_c t2 k i e_b e_l e_c j w ∧ ∀ m l_b l_l l_c t2 k i e_b e_l e_c j w, I m l_b l_l l_c t2 k i e_b e_l e_c j w → synclaw_Spoil.L2b l_b l_l l_c t2 k i e_b e_l e_c j w N1 (fun l_b' l_l' l_c' t2' k' i' e_b' e_l' e_c' j' w' => ∃ m', m' < m ∧ I m' l_b' l_l' l_c' t2' k' i' e_b' e_l' e_c' j' w') R
theorem synclaw_Spoil.L2_sound {R : Option Addr → Nat → Nat → Option Addr → Nat → Nat → World → Prop} {N1 : Option Addr → Nat → Nat → Nat → Nat → Int → World → Prop} (hN1 : ∀ l_b l_l l_c t2 k i w, N1 l_b l_l l_c t2 k i w → KW Tryz.prog 29 41 (synclaw_Spoil.RV R) ([(0, [1, 1, 0, 1, 0, 0]), (2, [1, 1, 0, 1, 0, 0]), (1, [0]), (0, [1, 1, 1])].map (toItem (Tryz.f29.body.getD .skip))) [(0, .slice l_b l_l l_c), (2, .pointer (some ⟨t2, 0, none⟩)), (3, .pointer (some ⟨k, 0, none⟩)), (4, .int .i64 i)] w) (l_b : Option Addr) (l_l l_c t2 k : Nat) (i : Int) (e_b : Option Addr) (e_l e_c : Nat) (j : Int) (w : World) (h : synclaw_Spoil.L2 l_b l_l l_c t2 k i e_b e_l e_c j w N1 R) :
    KW Tryz.prog 29 41 (synclaw_Spoil.RV R) ([(0, [1, 1, 0, 1, 0, 0, 1, 0, 0, 1, 0, 1, 0, 0]), (2, [1, 1, 0, 1, 0, 0, 1, 0, 0, 1, 0, 1, 0, 0]), (1, [2]), (0, [1, 1, 0, 1, 0, 0, 1, 0, 0, 1, 1]), (1, [1]), (0, [1, 1, 0, 1, 0, 0, 1, 1]), (2, [1, 1, 0, 1, 0, 0]), (1, [0]), (0, [1, 1, 1])].map (toItem (Tryz.f29.body.getD .skip))) [(0, .slice l_b l_l l_c), (2, .pointer (some ⟨t2, 0, none⟩)), (3, .pointer (some ⟨k, 0, none⟩)), (4, .int .i64 i), (5, .slice e_b e_l e_c), (6, .int .i64 j)] w := by
  obtain ⟨I, m, hBase, hr⟩ := h
  refine KW.loop (fun m σ w => ∃ (l_b : Option Addr) (l_l l_c t2 k : Nat) (i : Int) (e_b : Option Addr) (e_l e_c : Nat) (j : Int), σ = [(0, .slice l_b l_l l_c), (2, .pointer (some ⟨t2, 0, none⟩)), (3, .pointer (some ⟨k, 0, none⟩)), (4, .int .i64 i), (5, .slice e_b e_l e_c), (6, .int .i64 j)] ∧ I m l_b l_l l_c t2 k i e_b e_l e_c j w) ?_ m _ w ⟨l_b, l_l, l_c, t2, k, i, e_b, e_l, e_c, j, rfl, hBase⟩
  rintro m ih σ w ⟨l_b, l_l, l_c, t2, k, i, e_b, e_l, e_c, j, rfl, hI⟩
  exact synclaw_Spoil.L2b_sound hN1 (N2 := fun l_b' l_l' l_c' t2' k' i' e_b' e_l' e_c' j' w' => ∃ m', m' < m ∧ I m' l_b' l_l' l_c' t2' k' i' e_b' e_l' e_c' j' w') (fun l_b' l_l' l_c' t2' k' i' e_b' e_l' e_c' j' w' hx => by obtain ⟨m', hlt, hI'⟩ := hx; exact ih m' hlt _ w' ⟨l_b', l_l', l_c', t2', k', i', e_b', e_l', e_c', j', rfl, hI'⟩) l_b l_l l_c t2 k i e_b e_l e_c j w (hr m l_b l_l l_c t2 k i e_b e_l e_c j w hI)
def synclaw_Spoil.L1b (l_b : Option Addr) (l_l l_c t2 k : Nat) (i : Int) (w : World)  (N1 : Option Addr → Nat → Nat → Nat → Nat → Int → World → Prop) (R : Option Addr → Nat → Nat → Option Addr → Nat → Nat → World → Prop) : Prop :=
  Bm (decide (i < ((l_l : Nat) : Int))) (
    Pn l_b fun a =>
    (0 ≤ i ∧ i < ((l_l : Nat) : Int)) ∧
    LdL ((Addr.add a (i.toNat * 10)).add 8) w fun x19_b x19_l x19_c =>
    synclaw_Spoil.L2 l_b l_l l_c t2 k i x19_b x19_l x19_c (0 : Int) w N1 R) (
    LdL ⟨k, 0, none⟩ w fun x40_0_b x40_0_l x40_0_c =>
    LdL ⟨k, 1, none⟩ w fun x40_1_b x40_1_l x40_1_c =>
    Sts [.slice x40_0_b x40_0_l x40_0_c, .slice x40_1_b x40_1_l x40_1_c] ⟨t2, 0, none⟩ 0 w fun w1 =>
    LdL ⟨t2, 0, none⟩ w1 fun r_0_b r_0_l r_0_c =>
    LdL ⟨t2, 1, none⟩ w1 fun r_1_b r_1_l r_1_c =>
    R r_0_b r_0_l r_0_c r_1_b r_1_l r_1_c w1)
theorem synclaw_Spoil.L1b_eq (l_b : Option Addr) (l_l l_c t2 k : Nat) (i : Int) (w : World)  (N1 : Option Addr → Nat → Nat → Nat → Nat → Int → World → Prop) (R : Option Addr → Nat → Nat → Option Addr → Nat → Nat → World → Prop) (sL2 : Option Addr → Nat → Nat → Nat → Nat → Int → Option Addr → Nat → Nat → Int → World → Prop) :
    (
  Bm (decide (i < ((l_l : Nat) : Int))) (
    Pn l_b fun a =>
    (0 ≤ i ∧ i < ((l_l : Nat) : Int)) ∧
    LdL ((Addr.add a (i.toNat * 10)).add 8) w fun x19_b x19_l x19_c =>
    sL2 l_b l_l l_c t2 k i x19_b x19_l x19_c (0 : Int) w) (
    LdL ⟨k, 0, none⟩ w fun x40_0_b x40_0_l x40_0_c =>
    LdL ⟨k, 1, none⟩ w fun x40_1_b x40_1_l x40_1_c =>
    Sts [.slice x40_0_b x40_0_l x40_0_c, .slice x40_1_b x40_1_l x40_1_c] ⟨t2, 0, none⟩ 0 w fun w1 =>
    LdL ⟨t2, 0, none⟩ w1 fun r_0_b r_0_l r_0_c =>
    LdL ⟨t2, 1, none⟩ w1 fun r_1_b r_1_l r_1_c =>
    R r_0_b r_0_l r_0_c r_1_b r_1_l r_1_c w1)) = kstep Tryz.prog 41 Tryz.f29.results.toList (Tryz.f29.body.getD .skip) (synclaw_Spoil.RV R) (kvc Tryz.prog 41 Tryz.f29.results.toList (Tryz.f29.body.getD .skip) (synclaw_Spoil.RV R) [([(0, [1, 1, 0, 1, 0, 0, 1, 0, 0, 1, 0, 1, 0, 0]), (2, [1, 1, 0, 1, 0, 0, 1, 0, 0, 1, 0, 1, 0, 0]), (1, [2]), (0, [1, 1, 0, 1, 0, 0, 1, 0, 0, 1, 1]), (1, [1]), (0, [1, 1, 0, 1, 0, 0, 1, 1]), (2, [1, 1, 0, 1, 0, 0]), (1, [0]), (0, [1, 1, 1])], fun σ w => dL (slotOf σ 0) fun l_b_ l_l_ l_c_ => dK (slotOf σ 2) fun t2_ => dK (slotOf σ 3) fun k_ => dI .i64 (slotOf σ 4) fun i_ => dL (slotOf σ 5) fun e_b_ e_l_ e_c_ => dI .i64 (slotOf σ 6) fun j_ => sL2 l_b_ l_l_ l_c_ t2_ k_ i_ e_b_ e_l_ e_c_ j_ w)] 2000) [(0, [1, 1, 0, 1, 0, 0]), (2, [1, 1, 0, 1, 0, 0]), (1, [0]), (0, [1, 1, 1])] [(0, .slice l_b l_l l_c), (2, .pointer (some ⟨t2, 0, none⟩)), (3, .pointer (some ⟨k, 0, none⟩)), (4, .int .i64 i)] w := by kernel_rfl
theorem synclaw_Spoil.L1b_sound {R : Option Addr → Nat → Nat → Option Addr → Nat → Nat → World → Prop} {N1 : Option Addr → Nat → Nat → Nat → Nat → Int → World → Prop} (hN1 : ∀ l_b l_l l_c t2 k i w, N1 l_b l_l l_c t2 k i w → KW Tryz.prog 29 41 (synclaw_Spoil.RV R) ([(0, [1, 1, 0, 1, 0, 0]), (2, [1, 1, 0, 1, 0, 0]), (1, [0]), (0, [1, 1, 1])].map (toItem (Tryz.f29.body.getD .skip))) [(0, .slice l_b l_l l_c), (2, .pointer (some ⟨t2, 0, none⟩)), (3, .pointer (some ⟨k, 0, none⟩)), (4, .int .i64 i)] w) (l_b : Option Addr) (l_l l_c t2 k : Nat) (i : Int) (w : World) (h : synclaw_Spoil.L1b l_b l_l l_c t2 k i w  N1 R) :
    KW Tryz.prog 29 41 (synclaw_Spoil.RV R) ([(0, [1, 1, 0, 1, 0, 0]), (2, [1, 1, 0, 1, 0, 0]), (1, [0]), (0, [1, 1, 1])].map (toItem (Tryz.f29.body.getD .skip))) [(0, .slice l_b l_l l_c), (2, .pointer (some ⟨t2, 0, none⟩)), (3, .pointer (some ⟨k, 0, none⟩)), (4, .int .i64 i)] w := by
  exact block_spec Tryz.func29 Tryz.mixed (stops_cons (fun σ w h => by
      obtain ⟨l_b_, l_l_, l_c_, e0, h⟩ := dL_elim h
      obtain ⟨t2_, e1, h⟩ := dK_elim h
      obtain ⟨k_, e2, h⟩ := dK_elim h
      obtain ⟨i_, e3, h⟩ := dI_elim h
      obtain ⟨e_b_, e_l_, e_c_, e4, h⟩ := dL_elim h
      obtain ⟨j_, e5, h⟩ := dI_elim h
      exact (synclaw_Spoil.L2_sound hN1 l_b_ l_l_ l_c_ t2_ k_ i_ e_b_ e_l_ e_c_ j_ w h).weaken (Sub.cons (Sub.cons (Sub.cons (Sub.cons (Sub.cons (Sub.cons (Sub.nil _) e5) e4) e3) e2) e1) e0)) stops_nil) (Eq.mp (synclaw_Spoil.L1b_eq l_b l_l l_c t2 k i w  N1 R (fun l_b_ l_l_ l_c_ t2_ k_ i_ e_b_ e_l_ e_c_ j_ w => synclaw_Spoil.L2 l_b_ l_l_ l_c_ t2_ k_ i_ e_b_ e_l_ e_c_ j_ w N1 R)) h)
def synclaw_Spoil.L1 (l_b : Option Addr) (l_l l_c t2 k : Nat) (i : Int) (w : World)  (R : Option Addr → Nat → Nat → Option Addr → Nat → Nat → World → Prop) : Prop :=
  ∃ (I : Nat → Option Addr → Nat → Nat → Nat → Nat → Int → World → Prop) (m : Nat), I m l_b l_l l_c t2 k i w ∧ ∀ m l_b l_l l_c t2 k i w, I m l_b l_l l_c t2 k i w → synclaw_Spoil.L1b l_b l_l l_c t2 k i w  (fun l_b' l_l' l_c' t2' k' i' w' => ∃ m', m' < m ∧ I m' l_b' l_l' l_c' t2' k' i' w') R
theorem synclaw_Spoil.L1_sound {R : Option Addr → Nat → Nat → Option Addr → Nat → Nat → World → Prop}  (l_b : Option Addr) (l_l l_c t2 k : Nat) (i : Int) (w : World) (h : synclaw_Spoil.L1 l_b l_l l_c t2 k i w  R) :
    KW Tryz.prog 29 41 (synclaw_Spoil.RV R) ([(0, [1, 1, 0, 1, 0, 0]), (2, [1, 1, 0, 1, 0, 0]), (1, [0]), (0, [1, 1, 1])].map (toItem (Tryz.f29.body.getD .skip))) [(0, .slice l_b l_l l_c), (2, .pointer (some ⟨t2, 0, none⟩)), (3, .pointer (some ⟨k, 0, none⟩)), (4, .int .i64 i)] w := by
  obtain ⟨I, m, hBase, hr⟩ := h
  refine KW.loop (fun m σ w => ∃ (l_b : Option Addr) (l_l l_c t2 k : Nat) (i : Int), σ = [(0, .slice l_b l_l l_c), (2, .pointer (some ⟨t2, 0, none⟩)), (3, .pointer (some ⟨k, 0, none⟩)), (4, .int .i64 i)] ∧ I m l_b l_l l_c t2 k i w) ?_ m _ w ⟨l_b, l_l, l_c, t2, k, i, rfl, hBase⟩
  rintro m ih σ w ⟨l_b, l_l, l_c, t2, k, i, rfl, hI⟩
  exact synclaw_Spoil.L1b_sound  (N1 := fun l_b' l_l' l_c' t2' k' i' w' => ∃ m', m' < m ∧ I m' l_b' l_l' l_c' t2' k' i' w') (fun l_b' l_l' l_c' t2' k' i' w' hx => by obtain ⟨m', hlt, hI'⟩ := hx; exact ih m' hlt _ w' ⟨l_b', l_l', l_c', t2', k', i', rfl, hI'⟩) l_b l_l l_c t2 k i w (hr m l_b l_l l_c t2 k i w hI)
def synclaw_Spoil.B0 (l_b : Option Addr) (l_l l_c : Nat) (w : World)   (R : Option Addr → Nat → Nat → Option Addr → Nat → Nat → World → Prop) : Prop :=
  New (.cells #[.slice none 0 0, .slice none 0 0] 64) w fun b2 w1 =>
  New (.cells #[.slice none 0 0, .slice none 0 0] 64) w1 fun k_ w2 =>
  Sts [.slice l_b l_l l_c, .slice none 0 0] ⟨k_, 0, none⟩ 0 w2 fun w3 =>
  synclaw_Spoil.L1 l_b l_l l_c b2 k_ (0 : Int) w3  R
theorem synclaw_Spoil.B0_eq (l_b : Option Addr) (l_l l_c : Nat) (w : World)   (R : Option Addr → Nat → Nat → Option Addr → Nat → Nat → World → Prop) (sL1 : Option Addr → Nat → Nat → Nat → Nat → Int → World → Prop) :
    (
  New (.cells #[.slice none 0 0, .slice none 0 0] 64) w fun b2 w1 =>
  New (.cells #[.slice none 0 0, .slice none 0 0] 64) w1 fun k_ w2 =>
  Sts [.slice l_b l_l l_c, .slice none 0 0] ⟨k_, 0, none⟩ 0 w2 fun w3 =>
  sL1 l_b l_l l_c b2 k_ (0 : Int) w3) = kstep Tryz.prog 41 Tryz.f29.results.toList (Tryz.f29.body.getD .skip) (synclaw_Spoil.RV R) (kvc Tryz.prog 41 Tryz.f29.results.toList (Tryz.f29.body.getD .skip) (synclaw_Spoil.RV R) [([(0, [1, 1, 0, 1, 0, 0]), (2, [1, 1, 0, 1, 0, 0]), (1, [0]), (0, [1, 1, 1])], fun σ w => dL (slotOf σ 0) fun l_b_ l_l_ l_c_ => dK (slotOf σ 2) fun t2_ => dK (slotOf σ 3) fun k_ => dI .i64 (slotOf σ 4) fun i_ => sL1 l_b_ l_l_ l_c_ t2_ k_ i_ w)] 2000) [(0, [])] [(0, .slice l_b l_l l_c)] w := by kernel_rfl
theorem synclaw_Spoil.B0_sound {R : Option Addr → Nat → Nat → Option Addr → Nat → Nat → World → Prop}  (l_b : Option Addr) (l_l l_c : Nat) (w : World) (h : synclaw_Spoil.B0 l_b l_l l_c w   R) :
    KW Tryz.prog 29 41 (synclaw_Spoil.RV R) ([(0, [])].map (toItem (Tryz.f29.body.getD .skip))) [(0, .slice l_b l_l l_c)] w := by
  exact block_spec Tryz.func29 Tryz.mixed (stops_cons (fun σ w h => by
      obtain ⟨l_b_, l_l_, l_c_, e0, h⟩ := dL_elim h
      obtain ⟨t2_, e1, h⟩ := dK_elim h
      obtain ⟨k_, e2, h⟩ := dK_elim h
      obtain ⟨i_, e3, h⟩ := dI_elim h
      exact (synclaw_Spoil.L1_sound  l_b_ l_l_ l_c_ t2_ k_ i_ w h).weaken (Sub.cons (Sub.cons (Sub.cons (Sub.cons (Sub.nil _) e3) e2) e1) e0)) stops_nil) (Eq.mp (synclaw_Spoil.B0_eq l_b l_l l_c w   R (fun l_b_ l_l_ l_c_ t2_ k_ i_ w => synclaw_Spoil.L1 l_b_ l_l_ l_c_ t2_ k_ i_ w  R)) h)
theorem synclaw_Spoil.sound (l_b : Option Addr) (l_l l_c : Nat) (w : World) (R : Option Addr → Nat → Nat → Option Addr → Nat → Nat → World → Prop) (h : synclaw_Spoil.B0 l_b l_l l_c w R) : synclaw_Spoil.Call l_b l_l l_c w R := by
  have hc := calls_of_block (args := #[.slice l_b l_l l_c]) Tryz.func29 (body := (Tryz.f29.body.getD .skip)) (by kernel_rfl) (by kernel_rfl) (args_slot _) (synclaw_Spoil.B0_sound l_b l_l l_c w h)
  exact hc.mono fun e w' he => by
    obtain ⟨v, rfl, hv⟩ := he
    exact synclaw_Spoil.RV_elim hv
def synclaw_Idle.B0 (b_0 b_1 m0 : Option Addr) (w : World)   (R : Bool → World → Prop) : Prop :=
  New (.cells #[.pointer b_0, .pointer b_1] 30) w fun b_ w1 =>
  syncm_Sync_Steps.Call m0 w1 fun r6 w2 =>
  Bm (r6 != (0 : Int)) (
    R true w2) (
    LdP ⟨b_, 0, none⟩ w2 fun x8_0 =>
    LdP ⟨b_, 1, none⟩ w2 fun x8_1 =>
    synclaw_Steps.Call x8_0 x8_1 w2 fun r9 w3 =>
    R (r9 == (0 : Int)) w3)
theorem synclaw_Idle.B0_eq (b_0 b_1 m0 : Option Addr) (w : World)   (R : Bool → World → Prop)  :
    (
  New (.cells #[.pointer b_0, .pointer b_1] 30) w fun b_ w1 =>
  syncm_Sync_Steps.Call m0 w1 fun r6 w2 =>
  Bm (r6 != (0 : Int)) (
    R true w2) (
    LdP ⟨b_, 0, none⟩ w2 fun x8_0 =>
    LdP ⟨b_, 1, none⟩ w2 fun x8_1 =>
    synclaw_Steps.Call x8_0 x8_1 w2 fun r9 w3 =>
    R (r9 == (0 : Int)) w3)) = kstep Tryz.prog 11 Tryz.f30.results.toList (Tryz.f30.body.getD .skip) (synclaw_Idle.RV R) (kvc Tryz.prog 11 Tryz.f30.results.toList (Tryz.f30.body.getD .skip) (synclaw_Idle.RV R) [] 2000) [(0, [])] [(0, .agg #[.pointer b_0, .pointer b_1]), (1, .pointer m0)] w := by kernel_rfl
theorem synclaw_Idle.B0_sound {R : Bool → World → Prop}  (b_0 b_1 m0 : Option Addr) (w : World) (h : synclaw_Idle.B0 b_0 b_1 m0 w   R) :
    KW Tryz.prog 30 11 (synclaw_Idle.RV R) ([(0, [])].map (toItem (Tryz.f30.body.getD .skip))) [(0, .agg #[.pointer b_0, .pointer b_1]), (1, .pointer m0)] w := by
  exact block_spec Tryz.func30 Tryz.mixed stops_nil (Eq.mp (synclaw_Idle.B0_eq b_0 b_1 m0 w   R ) h)
theorem synclaw_Idle.sound (b_0 b_1 m0 : Option Addr) (w : World) (R : Bool → World → Prop) (h : synclaw_Idle.B0 b_0 b_1 m0 w R) : synclaw_Idle.Call b_0 b_1 m0 w R := by
  have hc := calls_of_block (args := #[.agg #[.pointer b_0, .pointer b_1], .pointer m0]) Tryz.func30 (body := (Tryz.f30.body.getD .skip)) (by kernel_rfl) (by kernel_rfl) (args_slot _) (synclaw_Idle.B0_sound b_0 b_1 m0 w h)
  exact hc.mono fun e w' he => by
    obtain ⟨v, rfl, hv⟩ := he
    exact synclaw_Idle.RV_elim hv
def diskm_New.L1b (z : ByteArray) (d : Nat) (b : Int) (w : World)  (N1 : ByteArray → Nat → Int → World → Prop) (R : Option Addr → World → Prop) : Prop :=
  Bm (decide (b < (14 : Int))) (
    LdL ⟨d, 0, none⟩ w fun x16_b x16_l x16_c =>
    Pn x16_b fun a =>
    (0 ≤ b ∧ b < ((x16_l : Nat) : Int)) ∧
    Sts [.string z] (Addr.add a (b.toNat * 1)) 0 w fun w1 =>
    N1 z d (IntKind.i64.wrap (b + (1 : Int))) w1) (
    LdL ⟨d, 0, none⟩ w fun x24_b x24_l x24_c =>
    diskm_blocks.Call x24_b x24_l x24_c w fun r25_b r25_l r25_c w2 =>
    Sts [.slice r25_b r25_l r25_c] ⟨d, 1, none⟩ 0 w2 fun w3 =>
    R (some ⟨d, 0, none⟩) w3)
theorem diskm_New.L1b_eq (z : ByteArray) (d : Nat) (b : Int) (w : World)  (N1 : ByteArray → Nat → Int → World → Prop) (R : Option Addr → World → Prop)  :
    (
  Bm (decide (b < (14 : Int))) (
    LdL ⟨d, 0, none⟩ w fun x16_b x16_l x16_c =>
    Pn x16_b fun a =>
    (0 ≤ b ∧ b < ((x16_l : Nat) : Int)) ∧
    Sts [.string z] (Addr.add a (b.toNat * 1)) 0 w fun w1 =>
    N1 z d (IntKind.i64.wrap (b + (1 : Int))) w1) (
    LdL ⟨d, 0, none⟩ w fun x24_b x24_l x24_c =>
    diskm_blocks.Call x24_b x24_l x24_c w fun r25_b r25_l r25_c w2 =>
    Sts [.slice r25_b r25_l r25_c] ⟨d, 1, none⟩ 0 w2 fun w3 =>
    R (some ⟨d, 0, none⟩) w3)) = kstep Tryz.prog 29 Tryz.f31.results.toList (Tryz.f31.body.getD .skip) (diskm_New.RV R) (kvc Tryz.prog 29 Tryz.f31.results.toList (Tryz.f31.body.getD .skip) (diskm_New.RV R) [([(0, [1, 1, 1, 0, 1, 0, 0]), (2, [1, 1, 1, 0, 1, 0, 0]), (1, [0]), (0, [1, 1, 1, 1])], fun σ w => dS (slotOf σ 1) fun z_ => dK (slotOf σ 2) fun d_ => dI .i64 (slotOf σ 3) fun b_ => N1 z_ d_ b_ w)] 2000) [(0, [1, 1, 1, 0, 1, 0, 0]), (2, [1, 1, 1, 0, 1, 0, 0]), (1, [0]), (0, [1, 1, 1, 1])] [(1, .string z), (2, .pointer (some ⟨d, 0, none⟩)), (3, .int .i64 b)] w := by kernel_rfl
theorem diskm_New.L1b_sound {R : Option Addr → World → Prop} {N1 : ByteArray → Nat → Int → World → Prop} (hN1 : ∀ z d b w, N1 z d b w → KW Tryz.prog 31 29 (diskm_New.RV R) ([(0, [1, 1, 1, 0, 1, 0, 0]), (2, [1, 1, 1, 0, 1, 0, 0]), (1, [0]), (0, [1, 1, 1, 1])].map (toItem (Tryz.f31.body.getD .skip))) [(1, .string z), (2, .pointer (some ⟨d, 0, none⟩)), (3, .int .i64 b)] w) (z : ByteArray) (d : Nat) (b : Int) (w : World) (h : diskm_New.L1b z d b w  N1 R) :
    KW Tryz.prog 31 29 (diskm_New.RV R) ([(0, [1, 1, 1, 0, 1, 0, 0]), (2, [1, 1, 1, 0, 1, 0, 0]), (1, [0]), (0, [1, 1, 1, 1])].map (toItem (Tryz.f31.body.getD .skip))) [(1, .string z), (2, .pointer (some ⟨d, 0, none⟩)), (3, .int .i64 b)] w := by
  exact block_spec Tryz.func31 Tryz.mixed (stops_cons (fun σ w h => by
      obtain ⟨z_, e0, h⟩ := dS_elim h
      obtain ⟨d_, e1, h⟩ := dK_elim h
      obtain ⟨b_, e2, h⟩ := dI_elim h
      exact (hN1 z_ d_ b_ w h).weaken (Sub.cons (Sub.cons (Sub.cons (Sub.nil _) e2) e1) e0)) stops_nil) (Eq.mp (diskm_New.L1b_eq z d b w  N1 R ) h)
def diskm_New.L1 (z : ByteArray) (d : Nat) (b : Int) (w : World)  (R : Option Addr → World → Prop) : Prop :=
  ∃ (I : Nat → ByteArray → Nat → Int → World → Prop) (m : Nat), I m z d b w ∧ ∀ m z d b w, I m z d b w → diskm_New.L1b z d b w  (fun z' d' b' w' => ∃ m', m' < m ∧ I m' z' d' b' w') R
theorem diskm_New.L1_sound {R : Option Addr → World → Prop}  (z : ByteArray) (d : Nat) (b : Int) (w : World) (h : diskm_New.L1 z d b w  R) :
    KW Tryz.prog 31 29 (diskm_New.RV R) ([(0, [1, 1, 1, 0, 1, 0, 0]), (2, [1, 1, 1, 0, 1, 0, 0]), (1, [0]), (0, [1, 1, 1, 1])].map (toItem (Tryz.f31.body.getD .skip))) [(1, .string z), (2, .pointer (some ⟨d, 0, none⟩)), (3, .int .i64 b)] w := by
  obtain ⟨I, m, hBase, hr⟩ := h
  refine KW.loop (fun m σ w => ∃ (z : ByteArray) (d : Nat) (b : Int), σ = [(1, .string z), (2, .pointer (some ⟨d, 0, none⟩)), (3, .int .i64 b)] ∧ I m z d b w) ?_ m _ w ⟨z, d, b, rfl, hBase⟩
  rintro m ih σ w ⟨z, d, b, rfl, hI⟩
  exact diskm_New.L1b_sound  (N1 := fun z' d' b' w' => ∃ m', m' < m ∧ I m' z' d' b' w') (fun z' d' b' w' hx => by obtain ⟨m', hlt, hI'⟩ := hx; exact ih m' hlt _ w' ⟨z', d', b', rfl, hI'⟩) z d b w (hr m z d b w hI)
def diskm_New.B0  (w : World)   (R : Option Addr → World → Prop) : Prop :=
  Make 5 (.int .u8 (0 : Int)) 1 1 (64 : Int) (64 : Int) w fun b4 w1 =>
  ToStr (some ⟨b4, 0, none⟩) 64 w1 fun s5 =>
  Make 9 (.string (ByteArray.mk #[])) 1 16 (14 : Int) (14 : Int) w1 fun b6 w2 =>
  New (.cells #[.slice (some ⟨b6, 0, none⟩) 14 14, .slice none 0 0, .slice none 0 0] 111) w2 fun b8 w3 =>
  diskm_New.L1 s5 b8 (0 : Int) w3  R
theorem diskm_New.B0_eq  (w : World)   (R : Option Addr → World → Prop) (sL1 : ByteArray → Nat → Int → World → Prop) :
    (
  Make 5 (.int .u8 (0 : Int)) 1 1 (64 : Int) (64 : Int) w fun b4 w1 =>
  ToStr (some ⟨b4, 0, none⟩) 64 w1 fun s5 =>
  Make 9 (.string (ByteArray.mk #[])) 1 16 (14 : Int) (14 : Int) w1 fun b6 w2 =>
  New (.cells #[.slice (some ⟨b6, 0, none⟩) 14 14, .slice none 0 0, .slice none 0 0] 111) w2 fun b8 w3 =>
  sL1 s5 b8 (0 : Int) w3) = kstep Tryz.prog 29 Tryz.f31.results.toList (Tryz.f31.body.getD .skip) (diskm_New.RV R) (kvc Tryz.prog 29 Tryz.f31.results.toList (Tryz.f31.body.getD .skip) (diskm_New.RV R) [([(0, [1, 1, 1, 0, 1, 0, 0]), (2, [1, 1, 1, 0, 1, 0, 0]), (1, [0]), (0, [1, 1, 1, 1])], fun σ w => dS (slotOf σ 1) fun z_ => dK (slotOf σ 2) fun d_ => dI .i64 (slotOf σ 3) fun b_ => sL1 z_ d_ b_ w)] 2000) [(0, [])] [] w := by kernel_rfl
theorem diskm_New.B0_sound {R : Option Addr → World → Prop}   (w : World) (h : diskm_New.B0  w   R) :
    KW Tryz.prog 31 29 (diskm_New.RV R) ([(0, [])].map (toItem (Tryz.f31.body.getD .skip))) [] w := by
  exact block_spec Tryz.func31 Tryz.mixed (stops_cons (fun σ w h => by
      obtain ⟨z_, e0, h⟩ := dS_elim h
      obtain ⟨d_, e1, h⟩ := dK_elim h
      obtain ⟨b_, e2, h⟩ := dI_elim h
      exact (diskm_New.L1_sound  z_ d_ b_ w h).weaken (Sub.cons (Sub.cons (Sub.cons (Sub.nil _) e2) e1) e0)) stops_nil) (Eq.mp (diskm_New.B0_eq  w   R (fun z_ d_ b_ w => diskm_New.L1 z_ d_ b_ w  R)) h)
theorem diskm_New.sound  (w : World) (R : Option Addr → World → Prop) (h : diskm_New.B0  w R) : diskm_New.Call  w R := by
  have hc := calls_of_block (args := #[]) Tryz.func31 (body := (Tryz.f31.body.getD .skip)) (by kernel_rfl) (by kernel_rfl) (args_slot _) (diskm_New.B0_sound  w h)
  exact hc.mono fun e w' he => by
    obtain ⟨v, rfl, hv⟩ := he
    exact diskm_New.RV_elim hv
def store_Open.B3 (t : Nat) (b : Int) (w : World) (N1 : Nat → Int → World → Prop)  (R : Option Addr → World → Prop) : Prop :=
  N1 t (IntKind.i64.wrap (b + (1 : Int))) w
theorem store_Open.B3_eq (t : Nat) (b : Int) (w : World) (N1 : Nat → Int → World → Prop)  (R : Option Addr → World → Prop)  :
    (
  N1 t (IntKind.i64.wrap (b + (1 : Int))) w) = kstep Tryz.prog 168 Tryz.f32.results.toList (Tryz.f32.body.getD .skip) (store_Open.RV R) (kvc Tryz.prog 168 Tryz.f32.results.toList (Tryz.f32.body.getD .skip) (store_Open.RV R) [([(0, [1, 1, 0, 1, 0, 0]), (2, [1, 1, 0, 1, 0, 0]), (1, [0]), (0, [1, 1, 1])], fun σ w => dK (slotOf σ 3) fun t_ => dI .i64 (slotOf σ 4) fun b_ => N1 t_ b_ w)] 2000) [(0, [1, 1, 0, 1, 0, 0, 1, 1]), (2, [1, 1, 0, 1, 0, 0]), (1, [0]), (0, [1, 1, 1])] [(3, .pointer (some ⟨t, 0, none⟩)), (4, .int .i64 b)] w := by kernel_rfl
theorem store_Open.B3_sound {R : Option Addr → World → Prop} {N1 : Nat → Int → World → Prop} (hN1 : ∀ t b w, N1 t b w → KW Tryz.prog 32 168 (store_Open.RV R) ([(0, [1, 1, 0, 1, 0, 0]), (2, [1, 1, 0, 1, 0, 0]), (1, [0]), (0, [1, 1, 1])].map (toItem (Tryz.f32.body.getD .skip))) [(3, .pointer (some ⟨t, 0, none⟩)), (4, .int .i64 b)] w) (t : Nat) (b : Int) (w : World) (h : store_Open.B3 t b w N1  R) :
    KW Tryz.prog 32 168 (store_Open.RV R) ([(0, [1, 1, 0, 1, 0, 0, 1, 1]), (2, [1, 1, 0, 1, 0, 0]), (1, [0]), (0, [1, 1, 1])].map (toItem (Tryz.f32.body.getD .skip))) [(3, .pointer (some ⟨t, 0, none⟩)), (4, .int .i64 b)] w := by
  exact block_spec Tryz.func32 Tryz.mixed (stops_cons (fun σ w h => by
      obtain ⟨t_, e0, h⟩ := dK_elim h
      obtain ⟨b_, e1, h⟩ := dI_elim h
      exact (hN1 t_ b_ w h).weaken (Sub.cons (Sub.cons (Sub.nil _) e1) e0)) stops_nil) (Eq.mp (store_Open.B3_eq t b w N1  R ) h)
def store_Open.B1 (t : Nat) (b : Int) (x : ByteArray) (t29 : Bool) (w : World) (N1 : Nat → Int → World → Prop)  (R : Option Addr → World → Prop) : Prop :=
  Bm t29 (
    (0 ≤ (63 : Int) ∧ (63 : Int) < ((x.size : Nat) : Int)) ∧
    (0 ≤ b ∧ b < ((14 : Nat) : Int)) ∧
    Sts [.int .u8 (byteAt x (63 : Int))] (Addr.add ⟨t, 1, none⟩ (b.toNat * 1)) 0 w.drew fun w1 =>
    store_Open.B3 t b w1 N1 R) (
    store_Open.B3 t b w N1 R)
theorem store_Open.B1_eq (t : Nat) (b : Int) (x : ByteArray) (t29 : Bool) (w : World) (N1 : Nat → Int → World → Prop)  (R : Option Addr → World → Prop) (sB3 : Nat → Int → World → Prop) :
    (
  Bm t29 (
    (0 ≤ (63 : Int) ∧ (63 : Int) < ((x.size : Nat) : Int)) ∧
    (0 ≤ b ∧ b < ((14 : Nat) : Int)) ∧
    Sts [.int .u8 (byteAt x (63 : Int))] (Addr.add ⟨t, 1, none⟩ (b.toNat * 1)) 0 w.drew fun w1 =>
    sB3 t b w1) (
    sB3 t b w)) = kstep Tryz.prog 168 Tryz.f32.results.toList (Tryz.f32.body.getD .skip) (store_Open.RV R) (kvc Tryz.prog 168 Tryz.f32.results.toList (Tryz.f32.body.getD .skip) (store_Open.RV R) [([(0, [1, 1, 0, 1, 0, 0, 1, 1]), (2, [1, 1, 0, 1, 0, 0]), (1, [0]), (0, [1, 1, 1])], fun σ w => dK (slotOf σ 3) fun t_ => dI .i64 (slotOf σ 4) fun b_ => sB3 t_ b_ w)] 2000) [(0, [1, 1, 0, 1, 0, 0, 1, 0, 0, 1, 1]), (1, [1]), (0, [1, 1, 0, 1, 0, 0, 1, 1]), (2, [1, 1, 0, 1, 0, 0]), (1, [0]), (0, [1, 1, 1])] [(3, .pointer (some ⟨t, 0, none⟩)), (4, .int .i64 b), (5, .string x), (29, .bool t29)] w := by kernel_rfl
theorem store_Open.B1_sound {R : Option Addr → World → Prop} {N1 : Nat → Int → World → Prop} (hN1 : ∀ t b w, N1 t b w → KW Tryz.prog 32 168 (store_Open.RV R) ([(0, [1, 1, 0, 1, 0, 0]), (2, [1, 1, 0, 1, 0, 0]), (1, [0]), (0, [1, 1, 1])].map (toItem (Tryz.f32.body.getD .skip))) [(3, .pointer (some ⟨t, 0, none⟩)), (4, .int .i64 b)] w) (t : Nat) (b : Int) (x : ByteArray) (t29 : Bool) (w : World) (h : store_Open.B1 t b x t29 w N1  R) :
    KW Tryz.prog 32 168 (store_Open.RV R) ([(0, [1, 1, 0, 1, 0, 0, 1, 0, 0, 1, 1]), (1, [1]), (0, [1, 1, 0, 1, 0, 0, 1, 1]), (2, [1, 1, 0, 1, 0, 0]), (1, [0]), (0, [1, 1, 1])].map (toItem (Tryz.f32.body.getD .skip))) [(3, .pointer (some ⟨t, 0, none⟩)), (4, .int .i64 b), (5, .string x), (29, .bool t29)] w := by
  exact block_spec Tryz.func32 Tryz.mixed (stops_cons (fun σ w h => by
      obtain ⟨t_, e0, h⟩ := dK_elim h
      obtain ⟨b_, e1, h⟩ := dI_elim h
      exact (store_Open.B3_sound hN1 t_ b_ w h).weaken (Sub.cons (Sub.cons (Sub.nil _) e1) e0)) stops_nil) (Eq.mp (store_Open.B1_eq t b x t29 w N1  R (fun t_ b_ w => store_Open.B3 t_ b_ w N1 R)) h)
def store_Open.L2b (t : Nat) (s : Int) (w : World)  (N2 : Nat → Int → World → Prop) (R : Option Addr → World → Prop) : Prop :=
  Bm (decide (s < (6 : Int))) (
    store_Store_read.Call (some ⟨t, 0, none⟩) (IntKind.i64.wrap ((8 : Int) + s)) w fun r151 w1 =>
    store_decRec.Call r151 w1.drew fun r158_0_0 r158_0_1 r158_0_2 r158_1 w2 =>
    (0 ≤ s ∧ s < ((6 : Nat) : Int)) ∧
    Sts [.int .i64 r158_0_0, .int .i64 r158_0_1, .string r158_0_2] (Addr.add ⟨t, 34, none⟩ (s.toNat * 3)) 0 w2 fun w3 =>
    (0 ≤ s ∧ s < ((6 : Nat) : Int)) ∧
    Sts [.bool r158_1] (Addr.add ⟨t, 28, none⟩ (s.toNat * 1)) 0 w3 fun w4 =>
    N2 t (IntKind.i64.wrap (s + (1 : Int))) w4) (
    R (some ⟨t, 0, none⟩) w)
theorem store_Open.L2b_eq (t : Nat) (s : Int) (w : World)  (N2 : Nat → Int → World → Prop) (R : Option Addr → World → Prop)  :
    (
  Bm (decide (s < (6 : Int))) (
    store_Store_read.Call (some ⟨t, 0, none⟩) (IntKind.i64.wrap ((8 : Int) + s)) w fun r151 w1 =>
    store_decRec.Call r151 w1.drew fun r158_0_0 r158_0_1 r158_0_2 r158_1 w2 =>
    (0 ≤ s ∧ s < ((6 : Nat) : Int)) ∧
    Sts [.int .i64 r158_0_0, .int .i64 r158_0_1, .string r158_0_2] (Addr.add ⟨t, 34, none⟩ (s.toNat * 3)) 0 w2 fun w3 =>
    (0 ≤ s ∧ s < ((6 : Nat) : Int)) ∧
    Sts [.bool r158_1] (Addr.add ⟨t, 28, none⟩ (s.toNat * 1)) 0 w3 fun w4 =>
    N2 t (IntKind.i64.wrap (s + (1 : Int))) w4) (
    R (some ⟨t, 0, none⟩) w)) = kstep Tryz.prog 168 Tryz.f32.results.toList (Tryz.f32.body.getD .skip) (store_Open.RV R) (kvc Tryz.prog 168 Tryz.f32.results.toList (Tryz.f32.body.getD .skip) (store_Open.RV R) [([(0, [1, 1, 1, 1, 1, 1, 1, 1, 1, 1, 1, 1, 1, 1, 1, 1, 1, 1, 0, 1, 0, 0]), (2, [1, 1, 1, 1, 1, 1, 1, 1, 1, 1, 1, 1, 1, 1, 1, 1, 1, 1, 0, 1, 0, 0]), (1, [2]), (0, [1, 1, 1, 1, 1, 1, 1, 1, 1, 1, 1, 1, 1, 1, 1, 1, 1, 1, 1])], fun σ w => dK (slotOf σ 3) fun t_ => dI .i64 (slotOf σ 12) fun s_ => N2 t_ s_ w)] 2000) [(0, [1, 1, 1, 1, 1, 1, 1, 1, 1, 1, 1, 1, 1, 1, 1, 1, 1, 1, 0, 1, 0, 0]), (2, [1, 1, 1, 1, 1, 1, 1, 1, 1, 1, 1, 1, 1, 1, 1, 1, 1, 1, 0, 1, 0, 0]), (1, [2]), (0, [1, 1, 1, 1, 1, 1, 1, 1, 1, 1, 1, 1, 1, 1, 1, 1, 1, 1, 1])] [(3, .pointer (some ⟨t, 0, none⟩)), (12, .int .i64 s)] w := by kernel_rfl
theorem store_Open.L2b_sound {R : Option Addr → World → Prop} {N2 : Nat → Int → World → Prop} (hN2 : ∀ t s w, N2 t s w → KW Tryz.prog 32 168 (store_Open.RV R) ([(0, [1, 1, 1, 1, 1, 1, 1, 1, 1, 1, 1, 1, 1, 1, 1, 1, 1, 1, 0, 1, 0, 0]), (2, [1, 1, 1, 1, 1, 1, 1, 1, 1, 1, 1, 1, 1, 1, 1, 1, 1, 1, 0, 1, 0, 0]), (1, [2]), (0, [1, 1, 1, 1, 1, 1, 1, 1, 1, 1, 1, 1, 1, 1, 1, 1, 1, 1, 1])].map (toItem (Tryz.f32.body.getD .skip))) [(3, .pointer (some ⟨t, 0, none⟩)), (12, .int .i64 s)] w) (t : Nat) (s : Int) (w : World) (h : store_Open.L2b t s w  N2 R) :
    KW Tryz.prog 32 168 (store_Open.RV R) ([(0, [1, 1, 1, 1, 1, 1, 1, 1, 1, 1, 1, 1, 1, 1, 1, 1, 1, 1, 0, 1, 0, 0]), (2, [1, 1, 1, 1, 1, 1, 1, 1, 1, 1, 1, 1, 1, 1, 1, 1, 1, 1, 0, 1, 0, 0]), (1, [2]), (0, [1, 1, 1, 1, 1, 1, 1, 1, 1, 1, 1, 1, 1, 1, 1, 1, 1, 1, 1])].map (toItem (Tryz.f32.body.getD .skip))) [(3, .pointer (some ⟨t, 0, none⟩)), (12, .int .i64 s)] w := by
  exact block_spec Tryz.func32 Tryz.mixed (stops_cons (fun σ w h => by
      obtain ⟨t_, e0, h⟩ := dK_elim h
      obtain ⟨s_, e1, h⟩ := dI_elim h
      exact (hN2 t_ s_ w h).weaken (Sub.cons (Sub.cons (Sub.nil _) e1) e0)) stops_nil) (Eq.mp (store_Open.L2b_eq t s w  N2 R ) h)
def store_Open.L2 (t : Nat) (s : Int) (w : World)  (R : Option Addr → World → Prop) : Prop :=
  ∃ (I : Nat → Nat → Int → World → Prop) (m : Nat), I m t s w ∧ ∀ m t s w, I m t s w → store_Open.L2b t s w  (fun t' s' w' => ∃ m', m' < m ∧ I m' t' s' w') R
theorem store_Open.L2_sound {R : Option Addr → World → Prop}  (t : Nat) (s : Int) (w : World) (h : store_Open.L2 t s w  R) :
    KW Tryz.prog 32 168 (store_Open.RV R) ([(0, [1, 1, 1, 1, 1, 1, 1, 1, 1, 1, 1, 1, 1, 1, 1, 1, 1, 1, 0, 1, 0, 0]), (2, [1, 1, 1, 1, 1, 1, 1, 1, 1, 1, 1, 1, 1, 1, 1, 1, 1, 1, 0, 1, 0, 0]), (1, [2]), (0, [1, 1, 1, 1, 1, 1, 1, 1, 1, 1, 1, 1, 1, 1, 1, 1, 1, 1, 1])].map (toItem (Tryz.f32.body.getD .skip))) [(3, .pointer (some ⟨t, 0, none⟩)), (12, .int .i64 s)] w := by
  obtain ⟨I, m, hBase, hr⟩ := h
  refine KW.loop (fun m σ w => ∃ (t : Nat) (s : Int), σ = [(3, .pointer (some ⟨t, 0, none⟩)), (12, .int .i64 s)] ∧ I m t s w) ?_ m _ w ⟨t, s, rfl, hBase⟩
  rintro m ih σ w ⟨t, s, rfl, hI⟩
  exact store_Open.L2b_sound  (N2 := fun t' s' w' => ∃ m', m' < m ∧ I m' t' s' w') (fun t' s' w' hx => by obtain ⟨m', hlt, hI'⟩ := hx; exact ih m' hlt _ w' ⟨t', s', rfl, hI'⟩) t s w (hr m t s w hI)
def store_Open.B8 (t : Nat) (w : World)   (R : Option Addr → World → Prop) : Prop :=
  LdI .i64 ⟨t, 24, none⟩ w.drew fun x135 =>
  LdI .i64 ⟨t, 25, none⟩ w.drew fun x140 =>
  store_Store_area.Call (some ⟨t, 0, none⟩) x135 x140 w.drew fun r141 w1 =>
  Sts [.string r141] ⟨t, 27, none⟩ 0 w1 fun w2 =>
  store_Open.L2 t (0 : Int) w2  R
theorem store_Open.B8_eq (t : Nat) (w : World)   (R : Option Addr → World → Prop) (sL2 : Nat → Int → World → Prop) :
    (
  LdI .i64 ⟨t, 24, none⟩ w.drew fun x135 =>
  LdI .i64 ⟨t, 25, none⟩ w.drew fun x140 =>
  store_Store_area.Call (some ⟨t, 0, none⟩) x135 x140 w.drew fun r141 w1 =>
  Sts [.string r141] ⟨t, 27, none⟩ 0 w1 fun w2 =>
  sL2 t (0 : Int) w2) = kstep Tryz.prog 168 Tryz.f32.results.toList (Tryz.f32.body.getD .skip) (store_Open.RV R) (kvc Tryz.prog 168 Tryz.f32.results.toList (Tryz.f32.body.getD .skip) (store_Open.RV R) [([(0, [1, 1, 1, 1, 1, 1, 1, 1, 1, 1, 1, 1, 1, 1, 1, 1, 1, 1, 0, 1, 0, 0]), (2, [1, 1, 1, 1, 1, 1, 1, 1, 1, 1, 1, 1, 1, 1, 1, 1, 1, 1, 0, 1, 0, 0]), (1, [2]), (0, [1, 1, 1, 1, 1, 1, 1, 1, 1, 1, 1, 1, 1, 1, 1, 1, 1, 1, 1])], fun σ w => dK (slotOf σ 3) fun t_ => dI .i64 (slotOf σ 12) fun s_ => sL2 t_ s_ w)] 2000) [(0, [1, 1, 1, 1, 1, 1, 1, 1, 1, 1, 1, 1, 1, 1, 1, 1, 1])] [(3, .pointer (some ⟨t, 0, none⟩))] w := by kernel_rfl
theorem store_Open.B8_sound {R : Option Addr → World → Prop}  (t : Nat) (w : World) (h : store_Open.B8 t w   R) :
    KW Tryz.prog 32 168 (store_Open.RV R) ([(0, [1, 1, 1, 1, 1, 1, 1, 1, 1, 1, 1, 1, 1, 1, 1, 1, 1])].map (toItem (Tryz.f32.body.getD .skip))) [(3, .pointer (some ⟨t, 0, none⟩))] w := by
  exact block_spec Tryz.func32 Tryz.mixed (stops_cons (fun σ w h => by
      obtain ⟨t_, e0, h⟩ := dK_elim h
      obtain ⟨s_, e1, h⟩ := dI_elim h
      exact (store_Open.L2_sound  t_ s_ w h).weaken (Sub.cons (Sub.cons (Sub.nil _) e1) e0)) stops_nil) (Eq.mp (store_Open.B8_eq t w   R (fun t_ s_ w => store_Open.L2 t_ s_ w  R)) h)
def store_Open.B7 (t : Nat) (w : World)   (R : Option Addr → World → Prop) : Prop :=
  LdB ⟨t, 20, none⟩ w fun x123 =>
  Bm (!x123) (
    Sts [.int .i64 (1 : Int)] ⟨t, 24, none⟩ 0 w fun w1 =>
    store_Open.B8 t w1  R) (
    store_Open.B8 t w  R)
theorem store_Open.B7_eq (t : Nat) (w : World)   (R : Option Addr → World → Prop) (sB8 : Nat → World → Prop) :
    (
  LdB ⟨t, 20, none⟩ w fun x123 =>
  Bm (!x123) (
    Sts [.int .i64 (1 : Int)] ⟨t, 24, none⟩ 0 w fun w1 =>
    sB8 t w1) (
    sB8 t w)) = kstep Tryz.prog 168 Tryz.f32.results.toList (Tryz.f32.body.getD .skip) (store_Open.RV R) (kvc Tryz.prog 168 Tryz.f32.results.toList (Tryz.f32.body.getD .skip) (store_Open.RV R) [([(0, [1, 1, 1, 1, 1, 1, 1, 1, 1, 1, 1, 1, 1, 1, 1, 1, 1])], fun σ w => dK (slotOf σ 3) fun t_ => sB8 t_ w)] 2000) [(0, [1, 1, 1, 1, 1, 1, 1, 1, 1, 1, 1, 1, 1, 1, 1, 1])] [(3, .pointer (some ⟨t, 0, none⟩))] w := by kernel_rfl
theorem store_Open.B7_sound {R : Option Addr → World → Prop}  (t : Nat) (w : World) (h : store_Open.B7 t w   R) :
    KW Tryz.prog 32 168 (store_Open.RV R) ([(0, [1, 1, 1, 1, 1, 1, 1, 1, 1, 1, 1, 1, 1, 1, 1, 1])].map (toItem (Tryz.f32.body.getD .skip))) [(3, .pointer (some ⟨t, 0, none⟩))] w := by
  exact block_spec Tryz.func32 Tryz.mixed (stops_cons (fun σ w h => by
      obtain ⟨t_, e0, h⟩ := dK_elim h
      exact (store_Open.B8_sound  t_ w h).weaken (Sub.cons (Sub.nil _) e0)) stops_nil) (Eq.mp (store_Open.B7_eq t w   R (fun t_ w => store_Open.B8 t_ w  R)) h)
def store_Open.B6 (t h0 : Nat) (t111 : Bool) (w : World)   (R : Option Addr → World → Prop) : Prop :=
  Bm t111 (
    LdB ⟨h0, 0, none⟩ w fun x114_0 =>
    LdI .i64 ⟨h0, 1, none⟩ w fun x114_1 =>
    LdI .i64 ⟨h0, 2, none⟩ w fun x114_2 =>
    LdI .i64 ⟨h0, 3, none⟩ w fun x114_3 =>
    LdI .i64 ⟨h0, 4, none⟩ w fun x114_4 =>
    LdI .i64 ⟨h0, 5, none⟩ w fun x114_5 =>
    Sts [.bool x114_0, .int .i64 x114_1, .int .i64 x114_2, .int .i64 x114_3, .int .i64 x114_4, .int .i64 x114_5] ⟨t, 20, none⟩ 0 w fun w1 =>
    Sts [.int .i64 (0 : Int)] ⟨t, 26, none⟩ 0 w1 fun w2 =>
    store_Open.B7 t w2  R) (
    store_Open.B7 t w  R)
theorem store_Open.B6_eq (t h0 : Nat) (t111 : Bool) (w : World)   (R : Option Addr → World → Prop) (sB7 : Nat → World → Prop) :
    (
  Bm t111 (
    LdB ⟨h0, 0, none⟩ w fun x114_0 =>
    LdI .i64 ⟨h0, 1, none⟩ w fun x114_1 =>
    LdI .i64 ⟨h0, 2, none⟩ w fun x114_2 =>
    LdI .i64 ⟨h0, 3, none⟩ w fun x114_3 =>
    LdI .i64 ⟨h0, 4, none⟩ w fun x114_4 =>
    LdI .i64 ⟨h0, 5, none⟩ w fun x114_5 =>
    Sts [.bool x114_0, .int .i64 x114_1, .int .i64 x114_2, .int .i64 x114_3, .int .i64 x114_4, .int .i64 x114_5] ⟨t, 20, none⟩ 0 w fun w1 =>
    Sts [.int .i64 (0 : Int)] ⟨t, 26, none⟩ 0 w1 fun w2 =>
    sB7 t w2) (
    sB7 t w)) = kstep Tryz.prog 168 Tryz.f32.results.toList (Tryz.f32.body.getD .skip) (store_Open.RV R) (kvc Tryz.prog 168 Tryz.f32.results.toList (Tryz.f32.body.getD .skip) (store_Open.RV R) [([(0, [1, 1, 1, 1, 1, 1, 1, 1, 1, 1, 1, 1, 1, 1, 1, 1])], fun σ w => dK (slotOf σ 3) fun t_ => sB7 t_ w)] 2000) [(0, [1, 1, 1, 1, 1, 1, 1, 1, 1, 1, 1, 1, 1, 1, 1, 0, 1]), (0, [1, 1, 1, 1, 1, 1, 1, 1, 1, 1, 1, 1, 1, 1, 1, 1])] [(3, .pointer (some ⟨t, 0, none⟩)), (10, .pointer (some ⟨h0, 0, none⟩)), (111, .bool t111)] w := by kernel_rfl
theorem store_Open.B6_sound {R : Option Addr → World → Prop}  (t h0 : Nat) (t111 : Bool) (w : World) (h : store_Open.B6 t h0 t111 w   R) :
    KW Tryz.prog 32 168 (store_Open.RV R) ([(0, [1, 1, 1, 1, 1, 1, 1, 1, 1, 1, 1, 1, 1, 1, 1, 0, 1]), (0, [1, 1, 1, 1, 1, 1, 1, 1, 1, 1, 1, 1, 1, 1, 1, 1])].map (toItem (Tryz.f32.body.getD .skip))) [(3, .pointer (some ⟨t, 0, none⟩)), (10, .pointer (some ⟨h0, 0, none⟩)), (111, .bool t111)] w := by
  exact block_spec Tryz.func32 Tryz.mixed (stops_cons (fun σ w h => by
      obtain ⟨t_, e0, h⟩ := dK_elim h
      exact (store_Open.B7_sound  t_ w h).weaken (Sub.cons (Sub.nil _) e0)) stops_nil) (Eq.mp (store_Open.B6_eq t h0 t111 w   R (fun t_ w => store_Open.B7 t_ w  R)) h)
def store_Open.B5 (t : Nat) (w : World)   (R : Option Addr → World → Prop) : Prop :=
  store_Store_read.Call (some ⟨t, 0, none⟩) (2 : Int) w fun r84 w1 =>
  store_Store_read.Call (some ⟨t, 0, none⟩) (3 : Int) w1 fun r86 w2 =>
  store_decHead.Call r84 w2 fun r88_0 r88_1 r88_2 r88_3 r88_4 r88_5 w3 =>
  New (.cells #[.bool false, .int .i64 (0 : Int), .int .i64 (0 : Int), .int .i64 (0 : Int), .int .i64 (0 : Int), .int .i64 (0 : Int)] 117) w3 fun h0_ w4 =>
  Sts [.bool r88_0, .int .i64 r88_1, .int .i64 r88_2, .int .i64 r88_3, .int .i64 r88_4, .int .i64 r88_5] ⟨h0_, 0, none⟩ 0 w4 fun w5 =>
  store_decHead.Call r86 w5 fun r90_0 r90_1 r90_2 r90_3 r90_4 r90_5 w6 =>
  New (.cells #[.bool false, .int .i64 (0 : Int), .int .i64 (0 : Int), .int .i64 (0 : Int), .int .i64 (0 : Int), .int .i64 (0 : Int)] 117) w6 fun h1_ w7 =>
  Sts [.bool r90_0, .int .i64 r90_1, .int .i64 r90_2, .int .i64 r90_3, .int .i64 r90_4, .int .i64 r90_5] ⟨h1_, 0, none⟩ 0 w7 fun w8 =>
  LdB ⟨h1_, 0, none⟩ w8 fun x93_0 =>
  LdI .i64 ⟨h1_, 1, none⟩ w8 fun x93_1 =>
  LdI .i64 ⟨h1_, 2, none⟩ w8 fun x93_2 =>
  LdI .i64 ⟨h1_, 3, none⟩ w8 fun x93_3 =>
  LdI .i64 ⟨h1_, 4, none⟩ w8 fun x93_4 =>
  LdI .i64 ⟨h1_, 5, none⟩ w8 fun x93_5 =>
  Sts [.bool x93_0, .int .i64 x93_1, .int .i64 x93_2, .int .i64 x93_3, .int .i64 x93_4, .int .i64 x93_5] ⟨t, 20, none⟩ 0 w8 fun w9 =>
  Sts [.int .i64 (1 : Int)] ⟨t, 26, none⟩ 0 w9 fun w10 =>
  LdB ⟨h0_, 0, none⟩ w10 fun x99 =>
  Bm x99 (
    LdB ⟨h1_, 0, none⟩ w10 fun x102 =>
    Bm (!x102) (
      store_Open.B6 t h0_ true w10  R) (
      LdI .i64 ⟨h0_, 1, none⟩ w10 fun x106 =>
      LdI .i64 ⟨h1_, 1, none⟩ w10 fun x108 =>
      store_Open.B6 t h0_ (decide (x106 > x108)) w10  R)) (
    store_Open.B6 t h0_ false w10  R)
theorem store_Open.B5_eq (t : Nat) (w : World)   (R : Option Addr → World → Prop) (sB6 : Nat → Nat → Bool → World → Prop) :
    (
  store_Store_read.Call (some ⟨t, 0, none⟩) (2 : Int) w fun r84 w1 =>
  store_Store_read.Call (some ⟨t, 0, none⟩) (3 : Int) w1 fun r86 w2 =>
  store_decHead.Call r84 w2 fun r88_0 r88_1 r88_2 r88_3 r88_4 r88_5 w3 =>
  New (.cells #[.bool false, .int .i64 (0 : Int), .int .i64 (0 : Int), .int .i64 (0 : Int), .int .i64 (0 : Int), .int .i64 (0 : Int)] 117) w3 fun h0_ w4 =>
  Sts [.bool r88_0, .int .i64 r88_1, .int .i64 r88_2, .int .i64 r88_3, .int .i64 r88_4, .int .i64 r88_5] ⟨h0_, 0, none⟩ 0 w4 fun w5 =>
  store_decHead.Call r86 w5 fun r90_0 r90_1 r90_2 r90_3 r90_4 r90_5 w6 =>
  New (.cells #[.bool false, .int .i64 (0 : Int), .int .i64 (0 : Int), .int .i64 (0 : Int), .int .i64 (0 : Int), .int .i64 (0 : Int)] 117) w6 fun h1_ w7 =>
  Sts [.bool r90_0, .int .i64 r90_1, .int .i64 r90_2, .int .i64 r90_3, .int .i64 r90_4, .int .i64 r90_5] ⟨h1_, 0, none⟩ 0 w7 fun w8 =>
  LdB ⟨h1_, 0, none⟩ w8 fun x93_0 =>
  LdI .i64 ⟨h1_, 1, none⟩ w8 fun x93_1 =>
  LdI .i64 ⟨h1_, 2, none⟩ w8 fun x93_2 =>
  LdI .i64 ⟨h1_, 3, none⟩ w8 fun x93_3 =>
  LdI .i64 ⟨h1_, 4, none⟩ w8 fun x93_4 =>
  LdI .i64 ⟨h1_, 5, none⟩ w8 fun x93_5 =>
  Sts [.bool x93_0, .int .i64 x93_1, .int .i64 x93_2, .int .i64 x93_3, .int .i64 x93_4, .int .i64 x93_5] ⟨t, 20, none⟩ 0 w8 fun w9 =>
  Sts [.int .i64 (1 : Int)] ⟨t, 26, none⟩ 0 w9 fun w10 =>
  LdB ⟨h0_, 0, none⟩ w10 fun x99 =>
  Bm x99 (
    LdB ⟨h1_, 0, none⟩ w10 fun x102 =>
    Bm (!x102) (
      sB6 t h0_ true w10) (
      LdI .i64 ⟨h0_, 1, none⟩ w10 fun x106 =>
      LdI .i64 ⟨h1_, 1, none⟩ w10 fun x108 =>
      sB6 t h0_ (decide (x106 > x108)) w10)) (
    sB6 t h0_ false w10)) = kstep Tryz.prog 168 Tryz.f32.results.toList (Tryz.f32.body.getD .skip) (store_Open.RV R) (kvc Tryz.prog 168 Tryz.f32.results.toList (Tryz.f32.body.getD .skip) (store_Open.RV R) [([(0, [1, 1, 1, 1, 1, 1, 1, 1, 1, 1, 1, 1, 1, 1, 1, 0, 1]), (0, [1, 1, 1, 1, 1, 1, 1, 1, 1, 1, 1, 1, 1, 1, 1, 1])], fun σ w => dK (slotOf σ 3) fun t_ => dK (slotOf σ 10) fun h0_ => dB (slotOf σ 111) fun t111_ => sB6 t_ h0_ t111_ w)] 2000) [(0, [1, 1, 1, 1, 1, 1, 1, 1, 1, 1])] [(3, .pointer (some ⟨t, 0, none⟩))] w := by kernel_rfl
theorem store_Open.B5_sound {R : Option Addr → World → Prop}  (t : Nat) (w : World) (h : store_Open.B5 t w   R) :
    KW Tryz.prog 32 168 (store_Open.RV R) ([(0, [1, 1, 1, 1, 1, 1, 1, 1, 1, 1])].map (toItem (Tryz.f32.body.getD .skip))) [(3, .pointer (some ⟨t, 0, none⟩))] w := by
  exact block_spec Tryz.func32 Tryz.mixed (stops_cons (fun σ w h => by
      obtain ⟨t_, e0, h⟩ := dK_elim h
      obtain ⟨h0_, e1, h⟩ := dK_elim h
      obtain ⟨t111_, e2, h⟩ := dB_elim h
      exact (store_Open.B6_sound  t_ h0_ t111_ w h).weaken (Sub.cons (Sub.cons (Sub.cons (Sub.nil _) e2) e1) e0)) stops_nil) (Eq.mp (store_Open.B5_eq t w   R (fun t_ h0_ t111_ w => store_Open.B6 t_ h0_ t111_ w  R)) h)
def store_Open.B4 (t : Nat) (w : World)   (R : Option Addr → World → Prop) : Prop :=
  LdB ⟨t, 15, none⟩ w fun x77 =>
  Bm (!x77) (
    Sts [.int .i64 (-1 : Int)] ⟨t, 18, none⟩ 0 w fun w1 =>
    store_Open.B5 t w1  R) (
    store_Open.B5 t w  R)
theorem store_Open.B4_eq (t : Nat) (w : World)   (R : Option Addr → World → Prop) (sB5 : Nat → World → Prop) :
    (
  LdB ⟨t, 15, none⟩ w fun x77 =>
  Bm (!x77) (
    Sts [.int .i64 (-1 : Int)] ⟨t, 18, none⟩ 0 w fun w1 =>
    sB5 t w1) (
    sB5 t w)) = kstep Tryz.prog 168 Tryz.f32.results.toList (Tryz.f32.body.getD .skip) (store_Open.RV R) (kvc Tryz.prog 168 Tryz.f32.results.toList (Tryz.f32.body.getD .skip) (store_Open.RV R) [([(0, [1, 1, 1, 1, 1, 1, 1, 1, 1, 1])], fun σ w => dK (slotOf σ 3) fun t_ => sB5 t_ w)] 2000) [(0, [1, 1, 1, 1, 1, 1, 1, 1, 1])] [(3, .pointer (some ⟨t, 0, none⟩))] w := by kernel_rfl
theorem store_Open.B4_sound {R : Option Addr → World → Prop}  (t : Nat) (w : World) (h : store_Open.B4 t w   R) :
    KW Tryz.prog 32 168 (store_Open.RV R) ([(0, [1, 1, 1, 1, 1, 1, 1, 1, 1])].map (toItem (Tryz.f32.body.getD .skip))) [(3, .pointer (some ⟨t, 0, none⟩))] w := by
  exact block_spec Tryz.func32 Tryz.mixed (stops_cons (fun σ w h => by
      obtain ⟨t_, e0, h⟩ := dK_elim h
      exact (store_Open.B5_sound  t_ w h).weaken (Sub.cons (Sub.nil _) e0)) stops_nil) (Eq.mp (store_Open.B4_eq t w   R (fun t_ w => store_Open.B5 t_ w  R)) h)
def store_Open.B2 (t m0 : Nat) (t65 : Bool) (w : World)   (R : Option Addr → World → Prop) : Prop :=
  Bm t65 (
    LdB ⟨m0, 0, none⟩ w fun x68_0 =>
    LdI .i64 ⟨m0, 1, none⟩ w fun x68_1 =>
    LdI .i64 ⟨m0, 2, none⟩ w fun x68_2 =>
    LdI .i64 ⟨m0, 3, none⟩ w fun x68_3 =>
    Sts [.bool x68_0, .int .i64 x68_1, .int .i64 x68_2, .int .i64 x68_3] ⟨t, 15, none⟩ 0 w fun w1 =>
    Sts [.int .i64 (0 : Int)] ⟨t, 19, none⟩ 0 w1 fun w2 =>
    store_Open.B4 t w2  R) (
    store_Open.B4 t w  R)
theorem store_Open.B2_eq (t m0 : Nat) (t65 : Bool) (w : World)   (R : Option Addr → World → Prop) (sB4 : Nat → World → Prop) :
    (
  Bm t65 (
    LdB ⟨m0, 0, none⟩ w fun x68_0 =>
    LdI .i64 ⟨m0, 1, none⟩ w fun x68_1 =>
    LdI .i64 ⟨m0, 2, none⟩ w fun x68_2 =>
    LdI .i64 ⟨m0, 3, none⟩ w fun x68_3 =>
    Sts [.bool x68_0, .int .i64 x68_1, .int .i64 x68_2, .int .i64 x68_3] ⟨t, 15, none⟩ 0 w fun w1 =>
    Sts [.int .i64 (0 : Int)] ⟨t, 19, none⟩ 0 w1 fun w2 =>
    sB4 t w2) (
    sB4 t w)) = kstep Tryz.prog 168 Tryz.f32.results.toList (Tryz.f32.body.getD .skip) (store_Open.RV R) (kvc Tryz.prog 168 Tryz.f32.results.toList (Tryz.f32.body.getD .skip) (store_Open.RV R) [([(0, [1, 1, 1, 1, 1, 1, 1, 1, 1])], fun σ w => dK (slotOf σ 3) fun t_ => sB4 t_ w)] 2000) [(0, [1, 1, 1, 1, 1, 1, 1, 1, 0, 1]), (0, [1, 1, 1, 1, 1, 1, 1, 1, 1])] [(3, .pointer (some ⟨t, 0, none⟩)), (8, .pointer (some ⟨m0, 0, none⟩)), (65, .bool t65)] w := by kernel_rfl
theorem store_Open.B2_sound {R : Option Addr → World → Prop}  (t m0 : Nat) (t65 : Bool) (w : World) (h : store_Open.B2 t m0 t65 w   R) :
    KW Tryz.prog 32 168 (store_Open.RV R) ([(0, [1, 1, 1, 1, 1, 1, 1, 1, 0, 1]), (0, [1, 1, 1, 1, 1, 1, 1, 1, 1])].map (toItem (Tryz.f32.body.getD .skip))) [(3, .pointer (some ⟨t, 0, none⟩)), (8, .pointer (some ⟨m0, 0, none⟩)), (65, .bool t65)] w := by
  exact block_spec Tryz.func32 Tryz.mixed (stops_cons (fun σ w h => by
      obtain ⟨t_, e0, h⟩ := dK_elim h
      exact (store_Open.B4_sound  t_ w h).weaken (Sub.cons (Sub.nil _) e0)) stops_nil) (Eq.mp (store_Open.B2_eq t m0 t65 w   R (fun t_ w => store_Open.B4 t_ w  R)) h)
def store_Open.L1b (t : Nat) (b : Int) (w : World)  (N1 : Nat → Int → World → Prop) (R : Option Addr → World → Prop) : Prop :=
  Bm (decide (b < (14 : Int))) (
    store_Store_read.Call (some ⟨t, 0, none⟩) b w fun r23 w1 =>
    Bm (decide (b < (4 : Int))) (
      store_Open.B1 t b r23 true w1 N1 R) (
      store_Open.B1 t b r23 (decide (b ≥ (8 : Int))) w1 N1 R)) (
    store_Store_read.Call (some ⟨t, 0, none⟩) (0 : Int) w fun r38 w2 =>
    store_Store_read.Call (some ⟨t, 0, none⟩) (1 : Int) w2 fun r40 w3 =>
    store_decMeta.Call r38 w3 fun r42_0 r42_1 r42_2 r42_3 w4 =>
    New (.cells #[.bool false, .int .i64 (0 : Int), .int .i64 (0 : Int), .int .i64 (0 : Int)] 115) w4 fun m0_ w5 =>
    Sts [.bool r42_0, .int .i64 r42_1, .int .i64 r42_2, .int .i64 r42_3] ⟨m0_, 0, none⟩ 0 w5 fun w6 =>
    store_decMeta.Call r40 w6 fun r44_0 r44_1 r44_2 r44_3 w7 =>
    New (.cells #[.bool false, .int .i64 (0 : Int), .int .i64 (0 : Int), .int .i64 (0 : Int)] 115) w7 fun m1_ w8 =>
    Sts [.bool r44_0, .int .i64 r44_1, .int .i64 r44_2, .int .i64 r44_3] ⟨m1_, 0, none⟩ 0 w8 fun w9 =>
    LdB ⟨m1_, 0, none⟩ w9 fun x47_0 =>
    LdI .i64 ⟨m1_, 1, none⟩ w9 fun x47_1 =>
    LdI .i64 ⟨m1_, 2, none⟩ w9 fun x47_2 =>
    LdI .i64 ⟨m1_, 3, none⟩ w9 fun x47_3 =>
    Sts [.bool x47_0, .int .i64 x47_1, .int .i64 x47_2, .int .i64 x47_3] ⟨t, 15, none⟩ 0 w9 fun w10 =>
    Sts [.int .i64 (1 : Int)] ⟨t, 19, none⟩ 0 w10 fun w11 =>
    LdB ⟨m0_, 0, none⟩ w11 fun x53 =>
    Bm x53 (
      LdB ⟨m1_, 0, none⟩ w11 fun x56 =>
      Bm (!x56) (
        store_Open.B2 t m0_ true w11  R) (
        LdI .i64 ⟨m0_, 1, none⟩ w11 fun x60 =>
        LdI .i64 ⟨m1_, 1, none⟩ w11 fun x62 =>
        store_Open.B2 t m0_ (decide (x60 > x62)) w11  R)) (
      store_Open.B2 t m0_ false w11  R))
theorem store_Open.L1b_eq (t : Nat) (b : Int) (w : World)  (N1 : Nat → Int → World → Prop) (R : Option Addr → World → Prop) (sB1 : Nat → Int → ByteArray → Bool → World → Prop) (sB2 : Nat → Nat → Bool → World → Prop) :
    (
  Bm (decide (b < (14 : Int))) (
    store_Store_read.Call (some ⟨t, 0, none⟩) b w fun r23 w1 =>
    Bm (decide (b < (4 : Int))) (
      sB1 t b r23 true w1) (
      sB1 t b r23 (decide (b ≥ (8 : Int))) w1)) (
    store_Store_read.Call (some ⟨t, 0, none⟩) (0 : Int) w fun r38 w2 =>
    store_Store_read.Call (some ⟨t, 0, none⟩) (1 : Int) w2 fun r40 w3 =>
    store_decMeta.Call r38 w3 fun r42_0 r42_1 r42_2 r42_3 w4 =>
    New (.cells #[.bool false, .int .i64 (0 : Int), .int .i64 (0 : Int), .int .i64 (0 : Int)] 115) w4 fun m0_ w5 =>
    Sts [.bool r42_0, .int .i64 r42_1, .int .i64 r42_2, .int .i64 r42_3] ⟨m0_, 0, none⟩ 0 w5 fun w6 =>
    store_decMeta.Call r40 w6 fun r44_0 r44_1 r44_2 r44_3 w7 =>
    New (.cells #[.bool false, .int .i64 (0 : Int), .int .i64 (0 : Int), .int .i64 (0 : Int)] 115) w7 fun m1_ w8 =>
    Sts [.bool r44_0, .int .i64 r44_1, .int .i64 r44_2, .int .i64 r44_3] ⟨m1_, 0, none⟩ 0 w8 fun w9 =>
    LdB ⟨m1_, 0, none⟩ w9 fun x47_0 =>
    LdI .i64 ⟨m1_, 1, none⟩ w9 fun x47_1 =>
    LdI .i64 ⟨m1_, 2, none⟩ w9 fun x47_2 =>
    LdI .i64 ⟨m1_, 3, none⟩ w9 fun x47_3 =>
    Sts [.bool x47_0, .int .i64 x47_1, .int .i64 x47_2, .int .i64 x47_3] ⟨t, 15, none⟩ 0 w9 fun w10 =>
    Sts [.int .i64 (1 : Int)] ⟨t, 19, none⟩ 0 w10 fun w11 =>
    LdB ⟨m0_, 0, none⟩ w11 fun x53 =>
    Bm x53 (
      LdB ⟨m1_, 0, none⟩ w11 fun x56 =>
      Bm (!x56) (
        sB2 t m0_ true w11) (
        LdI .i64 ⟨m0_, 1, none⟩ w11 fun x60 =>
        LdI .i64 ⟨m1_, 1, none⟩ w11 fun x62 =>
        sB2 t m0_ (decide (x60 > x62)) w11)) (
      sB2 t m0_ false w11))) = kstep Tryz.prog 168 Tryz.f32.results.toList (Tryz.f32.body.getD .skip) (store_Open.RV R) (kvc Tryz.prog 168 Tryz.f32.results.toList (Tryz.f32.body.getD .skip) (store_Open.RV R) [([(0, [1, 1, 0, 1, 0, 0, 1, 0, 0, 1, 1]), (1, [1]), (0, [1, 1, 0, 1, 0, 0, 1, 1]), (2, [1, 1, 0, 1, 0, 0]), (1, [0]), (0, [1, 1, 1])], fun σ w => dK (slotOf σ 3) fun t_ => dI .i64 (slotOf σ 4) fun b_ => dS (slotOf σ 5) fun x_ => dB (slotOf σ 29) fun t29_ => sB1 t_ b_ x_ t29_ w),
    ([(0, [1, 1, 1, 1, 1, 1, 1, 1, 0, 1]), (0, [1, 1, 1, 1, 1, 1, 1, 1, 1])], fun σ w => dK (slotOf σ 3) fun t_ => dK (slotOf σ 8) fun m0_ => dB (slotOf σ 65) fun t65_ => sB2 t_ m0_ t65_ w)] 2000) [(0, [1, 1, 0, 1, 0, 0]), (2, [1, 1, 0, 1, 0, 0]), (1, [0]), (0, [1, 1, 1])] [(3, .pointer (some ⟨t, 0, none⟩)), (4, .int .i64 b)] w := by kernel_rfl
theorem store_Open.L1b_sound {R : Option Addr → World → Prop} {N1 : Nat → Int → World → Prop} (hN1 : ∀ t b w, N1 t b w → KW Tryz.prog 32 168 (store_Open.RV R) ([(0, [1, 1, 0, 1, 0, 0]), (2, [1, 1, 0, 1, 0, 0]), (1, [0]), (0, [1, 1, 1])].map (toItem (Tryz.f32.body.getD .skip))) [(3, .pointer (some ⟨t, 0, none⟩)), (4, .int .i64 b)] w) (t : Nat) (b : Int) (w : World) (h : store_Open.L1b t b w  N1 R) :
    KW Tryz.prog 32 168 (store_Open.RV R) ([(0, [1, 1, 0, 1, 0, 0]), (2, [1, 1, 0, 1, 0, 0]), (1, [0]), (0, [1, 1, 1])].map (toItem (Tryz.f32.body.getD .skip))) [(3, .pointer (some ⟨t, 0, none⟩)), (4, .int .i64 b)] w := by
  exact block_spec Tryz.func32 Tryz.mixed (stops_cons (fun σ w h => by
      obtain ⟨t_, e0, h⟩ := dK_elim h
      obtain ⟨b_, e1, h⟩ := dI_elim h
      obtain ⟨x_, e2, h⟩ := dS_elim h
      obtain ⟨t29_, e3, h⟩ := dB_elim h
      exact (store_Open.B1_sound hN1 t_ b_ x_ t29_ w h).weaken (Sub.cons (Sub.cons (Sub.cons (Sub.cons (Sub.nil _) e3) e2) e1) e0)) (stops_cons (fun σ w h => by
      obtain ⟨t_, e0, h⟩ := dK_elim h
      obtain ⟨m0_, e1, h⟩ := dK_elim h
      obtain ⟨t65_, e2, h⟩ := dB_elim h
      exact (store_Open.B2_sound  t_ m0_ t65_ w h).weaken (Sub.cons (Sub.cons (Sub.cons (Sub.nil _) e2) e1) e0)) stops_nil)) (Eq.mp (store_Open.L1b_eq t b w  N1 R (fun t_ b_ x_ t29_ w => store_Open.B1 t_ b_ x_ t29_ w N1 R) (fun t_ m0_ t65_ w => store_Open.B2 t_ m0_ t65_ w  R)) h)
def store_Open.L1 (t : Nat) (b : Int) (w : World)  (R : Option Addr → World → Prop) : Prop :=
  ∃ (I : Nat → Nat → Int → World → Prop) (m : Nat), I m t b w ∧ ∀ m t b w, I m t b w → store_Open.L1b t b w  (fun t' b' w' => ∃ m', m' < m ∧ I m' t' b' w') R
theorem store_Open.L1_sound {R : Option Addr → World → Prop}  (t : Nat) (b : Int) (w : World) (h : store_Open.L1 t b w  R) :
    KW Tryz.prog 32 168 (store_Open.RV R) ([(0, [1, 1, 0, 1, 0, 0]), (2, [1, 1, 0, 1, 0, 0]), (1, [0]), (0, [1, 1, 1])].map (toItem (Tryz.f32.body.getD .skip))) [(3, .pointer (some ⟨t, 0, none⟩)), (4, .int .i64 b)] w := by
  obtain ⟨I, m, hBase, hr⟩ := h
  refine KW.loop (fun m σ w => ∃ (t : Nat) (b : Int), σ = [(3, .pointer (some ⟨t, 0, none⟩)), (4, .int .i64 b)] ∧ I m t b w) ?_ m _ w ⟨t, b, rfl, hBase⟩
  rintro m ih σ w ⟨t, b, rfl, hI⟩
  exact store_Open.L1b_sound  (N1 := fun t' b' w' => ∃ m', m' < m ∧ I m' t' b' w') (fun t' b' w' hx => by obtain ⟨m', hlt, hI'⟩ := hx; exact ih m' hlt _ w' ⟨t', b', rfl, hI'⟩) t b w (hr m t b w hI)
def store_Open.B0 (d : Option Addr) (w : World)   (R : Option Addr → World → Prop) : Prop :=
  New (.cells #[.pointer d, .int .u8 (0 : Int), .int .u8 (0 : Int), .int .u8 (0 : Int), .int .u8 (0 : Int), .int .u8 (0 : Int), .int .u8 (0 : Int), .int .u8 (0 : Int), .int .u8 (0 : Int), .int .u8 (0 : Int), .int .u8 (0 : Int), .int .u8 (0 : Int), .int .u8 (0 : Int), .int .u8 (0 : Int), .int .u8 (0 : Int), .bool false, .int .i64 (0 : Int), .int .i64 (0 : Int), .int .i64 (0 : Int), .int .i64 (0 : Int), .bool false, .int .i64 (0 : Int), .int .i64 (0 : Int), .int .i64 (0 : Int), .int .i64 (0 : Int), .int .i64 (0 : Int), .int .i64 (0 : Int), .string (ByteArray.mk #[]), .bool false, .bool false, .bool false, .bool false, .bool false, .bool false, .int .i64 (0 : Int), .int .i64 (0 : Int), .string (ByteArray.mk #[]), .int .i64 (0 : Int), .int .i64 (0 : Int), .string (ByteArray.mk #[]), .int .i64 (0 : Int), .int .i64 (0 : Int), .string (ByteArray.mk #[]), .int .i64 (0 : Int), .int .i64 (0 : Int), .string (ByteArray.mk #[]), .int .i64 (0 : Int), .int .i64 (0 : Int), .string (ByteArray.mk #[]), .int .i64 (0 : Int), .int .i64 (0 : Int), .string (ByteArray.mk #[])] 123) w fun b16 w1 =>
  store_Open.L1 b16 (0 : Int) w1  R
theorem store_Open.B0_eq (d : Option Addr) (w : World)   (R : Option Addr → World → Prop) (sL1 : Nat → Int → World → Prop) :
    (
  New (.cells #[.pointer d, .int .u8 (0 : Int), .int .u8 (0 : Int), .int .u8 (0 : Int), .int .u8 (0 : Int), .int .u8 (0 : Int), .int .u8 (0 : Int), .int .u8 (0 : Int), .int .u8 (0 : Int), .int .u8 (0 : Int), .int .u8 (0 : Int), .int .u8 (0 : Int), .int .u8 (0 : Int), .int .u8 (0 : Int), .int .u8 (0 : Int), .bool false, .int .i64 (0 : Int), .int .i64 (0 : Int), .int .i64 (0 : Int), .int .i64 (0 : Int), .bool false, .int .i64 (0 : Int), .int .i64 (0 : Int), .int .i64 (0 : Int), .int .i64 (0 : Int), .int .i64 (0 : Int), .int .i64 (0 : Int), .string (ByteArray.mk #[]), .bool false, .bool false, .bool false, .bool false, .bool false, .bool false, .int .i64 (0 : Int), .int .i64 (0 : Int), .string (ByteArray.mk #[]), .int .i64 (0 : Int), .int .i64 (0 : Int), .string (ByteArray.mk #[]), .int .i64 (0 : Int), .int .i64 (0 : Int), .string (ByteArray.mk #[]), .int .i64 (0 : Int), .int .i64 (0 : Int), .string (ByteArray.mk #[]), .int .i64 (0 : Int), .int .i64 (0 : Int), .string (ByteArray.mk #[]), .int .i64 (0 : Int), .int .i64 (0 : Int), .string (ByteArray.mk #[])] 123) w fun b16 w1 =>
  sL1 b16 (0 : Int) w1) = kstep Tryz.prog 168 Tryz.f32.results.toList (Tryz.f32.body.getD .skip) (store_Open.RV R) (kvc Tryz.prog 168 Tryz.f32.results.toList (Tryz.f32.body.getD .skip) (store_Open.RV R) [([(0, [1, 1, 0, 1, 0, 0]), (2, [1, 1, 0, 1, 0, 0]), (1, [0]), (0, [1, 1, 1])], fun σ w => dK (slotOf σ 3) fun t_ => dI .i64 (slotOf σ 4) fun b_ => sL1 t_ b_ w)] 2000) [(0, [])] [(0, .pointer d)] w := by kernel_rfl
theorem store_Open.B0_sound {R : Option Addr → World → Prop}  (d : Option Addr) (w : World) (h : store_Open.B0 d w   R) :
    KW Tryz.prog 32 168 (store_Open.RV R) ([(0, [])].map (toItem (Tryz.f32.body.getD .skip))) [(0, .pointer d)] w := by
  exact block_spec Tryz.func32 Tryz.mixed (stops_cons (fun σ w h => by
      obtain ⟨t_, e0, h⟩ := dK_elim h
      obtain ⟨b_, e1, h⟩ := dI_elim h
      exact (store_Open.L1_sound  t_ b_ w h).weaken (Sub.cons (Sub.cons (Sub.nil _) e1) e0)) stops_nil) (Eq.mp (store_Open.B0_eq d w   R (fun t_ b_ w => store_Open.L1 t_ b_ w  R)) h)
theorem store_Open.sound (d : Option Addr) (w : World) (R : Option Addr → World → Prop) (h : store_Open.B0 d w R) : store_Open.Call d w R := by
  have hc := calls_of_block (args := #[.pointer d]) Tryz.func32 (body := (Tryz.f32.body.getD .skip)) (by kernel_rfl) (by kernel_rfl) (args_slot _) (store_Open.B0_sound d w h)
  exact hc.mono fun e w' he => by
    obtain ⟨v, rfl, hv⟩ := he
    exact store_Open.RV_elim hv
end Go.Proofs.Qxb6500433aGreat
