import Derived.Test.Qxb6500431aSig
set_option maxRecDepth 100000
set_option linter.unusedVariables false
open Go.Vc
namespace Go.Proofs.Qxb6500431a
def rloglaw_Ground.B0  (w : World)   (R : Option Addr → Option Addr → World → Prop) : Prop :=
  New (.cells #[.pointer none, .pointer none] 30) w fun b0 w1 =>
  diskm_New.Call  w1 fun r2 w2 =>
  store_Open.Call r2 w2 fun r5 w3 =>
  Sts [.pointer r2, .pointer r5] ⟨b0, 0, none⟩ 0 w3 fun w4 =>
  LdP ⟨b0, 0, none⟩ w4 fun r_0 =>
  LdP ⟨b0, 1, none⟩ w4 fun r_1 =>
  R r_0 r_1 w4
theorem rloglaw_Ground.B0_eq  (w : World)   (R : Option Addr → Option Addr → World → Prop)  :
    (
  New (.cells #[.pointer none, .pointer none] 30) w fun b0 w1 =>
  diskm_New.Call  w1 fun r2 w2 =>
  store_Open.Call r2 w2 fun r5 w3 =>
  Sts [.pointer r2, .pointer r5] ⟨b0, 0, none⟩ 0 w3 fun w4 =>
  LdP ⟨b0, 0, none⟩ w4 fun r_0 =>
  LdP ⟨b0, 1, none⟩ w4 fun r_1 =>
  R r_0 r_1 w4) = kstep Try.prog 7 Try.f8.results.toList (Try.f8.body.getD .skip) (rloglaw_Ground.RV R) (kvc Try.prog 7 Try.f8.results.toList (Try.f8.body.getD .skip) (rloglaw_Ground.RV R) [] 2000) [(0, [])] [] w := by kernel_rfl
theorem rloglaw_Ground.B0_sound {R : Option Addr → Option Addr → World → Prop}   (w : World) (h : rloglaw_Ground.B0  w   R) :
    KW Try.prog 8 7 (rloglaw_Ground.RV R) ([(0, [])].map (toItem (Try.f8.body.getD .skip))) [] w := by
  exact block_spec Try.func8 Try.mixed stops_nil (Eq.mp (rloglaw_Ground.B0_eq  w   R ) h)
theorem rloglaw_Ground.sound  (w : World) (R : Option Addr → Option Addr → World → Prop) (h : rloglaw_Ground.B0  w R) : rloglaw_Ground.Call  w R := by
  have hc := calls_of_block (args := #[]) Try.func8 (body := (Try.f8.body.getD .skip)) (by kernel_rfl) (by kernel_rfl) (args_slot _) (rloglaw_Ground.B0_sound  w h)
  exact hc.mono fun e w' he => by
    obtain ⟨v, rfl, hv⟩ := he
    exact rloglaw_Ground.RV_elim hv
def rlog_New.B0 (st : Option Addr) (w : World)   (R : Option Addr → World → Prop) : Prop :=
  rlog_Open.Call st w fun r4 w1 =>
  R r4 w1
theorem rlog_New.B0_eq (st : Option Addr) (w : World)   (R : Option Addr → World → Prop)  :
    (
  rlog_Open.Call st w fun r4 w1 =>
  R r4 w1) = kstep Try.prog 5 Try.f9.results.toList (Try.f9.body.getD .skip) (rlog_New.RV R) (kvc Try.prog 5 Try.f9.results.toList (Try.f9.body.getD .skip) (rlog_New.RV R) [] 2000) [(0, [])] [(0, .pointer st)] w := by kernel_rfl
theorem rlog_New.B0_sound {R : Option Addr → World → Prop}  (st : Option Addr) (w : World) (h : rlog_New.B0 st w   R) :
    KW Try.prog 9 5 (rlog_New.RV R) ([(0, [])].map (toItem (Try.f9.body.getD .skip))) [(0, .pointer st)] w := by
  exact block_spec Try.func9 Try.mixed stops_nil (Eq.mp (rlog_New.B0_eq st w   R ) h)
theorem rlog_New.sound (st : Option Addr) (w : World) (R : Option Addr → World → Prop) (h : rlog_New.B0 st w R) : rlog_New.Call st w R := by
  have hc := calls_of_block (args := #[.pointer st]) Try.func9 (body := (Try.f9.body.getD .skip)) (by kernel_rfl) (by kernel_rfl) (args_slot _) (rlog_New.B0_sound st w h)
  exact hc.mono fun e w' he => by
    obtain ⟨v, rfl, hv⟩ := he
    exact rlog_New.RV_elim hv
def rlogm_New.B0  (w : World)   (R : Option Addr → World → Prop) : Prop :=
  New (.cells #[.int .i64 (0 : Int), .int .i64 (-1 : Int), .int .i64 (0 : Int), .int .i64 (0 : Int), .string (ByteArray.mk #[]), .int .i64 (0 : Int), .int .i64 (0 : Int), .string (ByteArray.mk #[]), .int .i64 (0 : Int), .string (ByteArray.mk #[]), .int .i64 (0 : Int), .string (ByteArray.mk #[]), .int .i64 (0 : Int), .string (ByteArray.mk #[]), .int .i64 (0 : Int), .string (ByteArray.mk #[]), .int .i64 (0 : Int), .string (ByteArray.mk #[])] 57) w fun b3 w1 =>
  New (.cells #[.pointer (some ⟨b3, 0, none⟩), .pointer none, .slice none 0 0] 60) w1 fun b5 w2 =>
  LdP ⟨b5, 0, none⟩ w2 fun x10 =>
  rlogm_state_clone.Call x10 w2 fun r11 w3 =>
  Sts [.pointer r11] ⟨b5, 1, none⟩ 0 w3 fun w4 =>
  R (some ⟨b5, 0, none⟩) w4
theorem rlogm_New.B0_eq  (w : World)   (R : Option Addr → World → Prop)  :
    (
  New (.cells #[.int .i64 (0 : Int), .int .i64 (-1 : Int), .int .i64 (0 : Int), .int .i64 (0 : Int), .string (ByteArray.mk #[]), .int .i64 (0 : Int), .int .i64 (0 : Int), .string (ByteArray.mk #[]), .int .i64 (0 : Int), .string (ByteArray.mk #[]), .int .i64 (0 : Int), .string (ByteArray.mk #[]), .int .i64 (0 : Int), .string (ByteArray.mk #[]), .int .i64 (0 : Int), .string (ByteArray.mk #[]), .int .i64 (0 : Int), .string (ByteArray.mk #[])] 57) w fun b3 w1 =>
  New (.cells #[.pointer (some ⟨b3, 0, none⟩), .pointer none, .slice none 0 0] 60) w1 fun b5 w2 =>
  LdP ⟨b5, 0, none⟩ w2 fun x10 =>
  rlogm_state_clone.Call x10 w2 fun r11 w3 =>
  Sts [.pointer r11] ⟨b5, 1, none⟩ 0 w3 fun w4 =>
  R (some ⟨b5, 0, none⟩) w4) = kstep Try.prog 15 Try.f10.results.toList (Try.f10.body.getD .skip) (rlogm_New.RV R) (kvc Try.prog 15 Try.f10.results.toList (Try.f10.body.getD .skip) (rlogm_New.RV R) [] 2000) [(0, [])] [] w := by kernel_rfl
theorem rlogm_New.B0_sound {R : Option Addr → World → Prop}   (w : World) (h : rlogm_New.B0  w   R) :
    KW Try.prog 10 15 (rlogm_New.RV R) ([(0, [])].map (toItem (Try.f10.body.getD .skip))) [] w := by
  exact block_spec Try.func10 Try.mixed stops_nil (Eq.mp (rlogm_New.B0_eq  w   R ) h)
theorem rlogm_New.sound  (w : World) (R : Option Addr → World → Prop) (h : rlogm_New.B0  w R) : rlogm_New.Call  w R := by
  have hc := calls_of_block (args := #[]) Try.func10 (body := (Try.f10.body.getD .skip)) (by kernel_rfl) (by kernel_rfl) (args_slot _) (rlogm_New.B0_sound  w h)
  exact hc.mono fun e w' he => by
    obtain ⟨v, rfl, hv⟩ := he
    exact rlogm_New.RV_elim hv
def rloglaw_Steps.B0 (b_0 b_1 : Option Addr) (w : World)   (R : Int → World → Prop) : Prop :=
  New (.cells #[.pointer b_0, .pointer b_1] 30) w fun b_ w1 =>
  LdP ⟨b_, 0, none⟩ w1 fun x4 =>
  diskm_Disk_Steps.Call x4 w1 fun r5 w2 =>
  R r5 w2
theorem rloglaw_Steps.B0_eq (b_0 b_1 : Option Addr) (w : World)   (R : Int → World → Prop)  :
    (
  New (.cells #[.pointer b_0, .pointer b_1] 30) w fun b_ w1 =>
  LdP ⟨b_, 0, none⟩ w1 fun x4 =>
  diskm_Disk_Steps.Call x4 w1 fun r5 w2 =>
  R r5 w2) = kstep Try.prog 6 Try.f11.results.toList (Try.f11.body.getD .skip) (rloglaw_Steps.RV R) (kvc Try.prog 6 Try.f11.results.toList (Try.f11.body.getD .skip) (rloglaw_Steps.RV R) [] 2000) [(0, [])] [(0, .agg #[.pointer b_0, .pointer b_1])] w := by kernel_rfl
theorem rloglaw_Steps.B0_sound {R : Int → World → Prop}  (b_0 b_1 : Option Addr) (w : World) (h : rloglaw_Steps.B0 b_0 b_1 w   R) :
    KW Try.prog 11 6 (rloglaw_Steps.RV R) ([(0, [])].map (toItem (Try.f11.body.getD .skip))) [(0, .agg #[.pointer b_0, .pointer b_1])] w := by
  exact block_spec Try.func11 Try.mixed stops_nil (Eq.mp (rloglaw_Steps.B0_eq b_0 b_1 w   R ) h)
theorem rloglaw_Steps.sound (b_0 b_1 : Option Addr) (w : World) (R : Int → World → Prop) (h : rloglaw_Steps.B0 b_0 b_1 w R) : rloglaw_Steps.Call b_0 b_1 w R := by
  have hc := calls_of_block (args := #[.agg #[.pointer b_0, .pointer b_1]]) Try.func11 (body := (Try.f11.body.getD .skip)) (by kernel_rfl) (by kernel_rfl) (args_slot _) (rloglaw_Steps.B0_sound b_0 b_1 w h)
  exact hc.mono fun e w' he => by
    obtain ⟨v, rfl, hv⟩ := he
    exact rloglaw_Steps.RV_elim hv
def rloglaw_Seen.B0 (x m0 b_0 b_1 : Option Addr) (n : Int) (w : World)   (R : Bool → World → Prop) : Prop :=
  New (.cells #[.pointer b_0, .pointer b_1] 30) w fun b_ w1 =>
  rlog_Log_Check.Call x w1 fun r10 w2 =>
  Bm (!(r10.toList == (ByteArray.mk #[]).toList)) (
    R false w2) (
    rloglaw_Alike.Call x m0 w2 fun r14 w3 =>
    Bm (!r14) (
      R false w3) (
      LdP ⟨b_, 0, none⟩ w3 fun x16_0 =>
      LdP ⟨b_, 1, none⟩ w3 fun x16_1 =>
      rloglaw_Steps.Call x16_0 x16_1 w3 fun r17 w4 =>
      R (r17 == n) w4))
theorem rloglaw_Seen.B0_eq (x m0 b_0 b_1 : Option Addr) (n : Int) (w : World)   (R : Bool → World → Prop)  :
    (
  New (.cells #[.pointer b_0, .pointer b_1] 30) w fun b_ w1 =>
  rlog_Log_Check.Call x w1 fun r10 w2 =>
  Bm (!(r10.toList == (ByteArray.mk #[]).toList)) (
    R false w2) (
    rloglaw_Alike.Call x m0 w2 fun r14 w3 =>
    Bm (!r14) (
      R false w3) (
      LdP ⟨b_, 0, none⟩ w3 fun x16_0 =>
      LdP ⟨b_, 1, none⟩ w3 fun x16_1 =>
      rloglaw_Steps.Call x16_0 x16_1 w3 fun r17 w4 =>
      R (r17 == n) w4))) = kstep Try.prog 20 Try.f12.results.toList (Try.f12.body.getD .skip) (rloglaw_Seen.RV R) (kvc Try.prog 20 Try.f12.results.toList (Try.f12.body.getD .skip) (rloglaw_Seen.RV R) [] 2000) [(0, [])] [(0, .pointer x), (1, .pointer m0), (2, .agg #[.pointer b_0, .pointer b_1]), (3, .int .i64 n)] w := by kernel_rfl
theorem rloglaw_Seen.B0_sound {R : Bool → World → Prop}  (x m0 b_0 b_1 : Option Addr) (n : Int) (w : World) (h : rloglaw_Seen.B0 x m0 b_0 b_1 n w   R) :
    KW Try.prog 12 20 (rloglaw_Seen.RV R) ([(0, [])].map (toItem (Try.f12.body.getD .skip))) [(0, .pointer x), (1, .pointer m0), (2, .agg #[.pointer b_0, .pointer b_1]), (3, .int .i64 n)] w := by
  exact block_spec Try.func12 Try.mixed stops_nil (Eq.mp (rloglaw_Seen.B0_eq x m0 b_0 b_1 n w   R ) h)
theorem rloglaw_Seen.sound (x m0 b_0 b_1 : Option Addr) (n : Int) (w : World) (R : Bool → World → Prop) (h : rloglaw_Seen.B0 x m0 b_0 b_1 n w R) : rloglaw_Seen.Call x m0 b_0 b_1 n w R := by
  have hc := calls_of_block (args := #[.pointer x, .pointer m0, .agg #[.pointer b_0, .pointer b_1], .int .i64 n]) Try.func12 (body := (Try.f12.body.getD .skip)) (by kernel_rfl) (by kernel_rfl) (args_slot _) (rloglaw_Seen.B0_sound x m0 b_0 b_1 n w h)
  exact hc.mono fun e w' he => by
    obtain ⟨v, rfl, hv⟩ := he
    exact rloglaw_Seen.RV_elim hv
def rloglaw_Mark.B0 (b_0 b_1 : Option Addr) (w : World)   (R : World → Prop) : Prop :=
  New (.cells #[.pointer b_0, .pointer b_1] 30) w fun b_ w1 =>
  LdP ⟨b_, 0, none⟩ w1 fun x3 =>
  diskm_Disk_Mark.Call x3 w1 fun w2 =>
  R  w2
theorem rloglaw_Mark.B0_eq (b_0 b_1 : Option Addr) (w : World)   (R : World → Prop)  :
    (
  New (.cells #[.pointer b_0, .pointer b_1] 30) w fun b_ w1 =>
  LdP ⟨b_, 0, none⟩ w1 fun x3 =>
  diskm_Disk_Mark.Call x3 w1 fun w2 =>
  R  w2) = kstep Try.prog 5 Try.f13.results.toList (Try.f13.body.getD .skip) (rloglaw_Mark.RV R) (kvc Try.prog 5 Try.f13.results.toList (Try.f13.body.getD .skip) (rloglaw_Mark.RV R) [] 2000) [(0, [])] [(0, .agg #[.pointer b_0, .pointer b_1])] w := by kernel_rfl
theorem rloglaw_Mark.B0_sound {R : World → Prop}  (b_0 b_1 : Option Addr) (w : World) (h : rloglaw_Mark.B0 b_0 b_1 w   R) :
    KW Try.prog 13 5 (rloglaw_Mark.RV R) ([(0, [])].map (toItem (Try.f13.body.getD .skip))) [(0, .agg #[.pointer b_0, .pointer b_1])] w := by
  exact block_spec Try.func13 Try.mixed stops_nil (Eq.mp (rloglaw_Mark.B0_eq b_0 b_1 w   R ) h)
theorem rloglaw_Mark.sound (b_0 b_1 : Option Addr) (w : World) (R : World → Prop) (h : rloglaw_Mark.B0 b_0 b_1 w R) : rloglaw_Mark.Call b_0 b_1 w R := by
  have hc := calls_of_block (args := #[.agg #[.pointer b_0, .pointer b_1]]) Try.func13 (body := (Try.f13.body.getD .skip)) (by kernel_rfl) (by kernel_rfl) (args_slot _) (rloglaw_Mark.B0_sound b_0 b_1 w h)
  exact hc.mono fun e w' he => by
    obtain ⟨v, rfl, hv⟩ := he
    exact rloglaw_Mark.RV_elim hv
def rlogm_Log_Mark.B0 (l : Option Addr) (w : World)   (R : World → Prop) : Prop :=
  Pn l fun a =>
  LdP a w fun x6 =>
  rlogm_state_clone.Call x6 w fun r7 w1 =>
  Pn l fun a_1 =>
  Sts [.pointer r7] (a_1.add 1) 0 w1 fun w2 =>
  Pn l fun a_2 =>
  Sts [.slice none 0 0] (a_2.add 2) 0 w2 fun w3 =>
  R  w3
theorem rlogm_Log_Mark.B0_eq (l : Option Addr) (w : World)   (R : World → Prop)  :
    (
  Pn l fun a =>
  LdP a w fun x6 =>
  rlogm_state_clone.Call x6 w fun r7 w1 =>
  Pn l fun a_1 =>
  Sts [.pointer r7] (a_1.add 1) 0 w1 fun w2 =>
  Pn l fun a_2 =>
  Sts [.slice none 0 0] (a_2.add 2) 0 w2 fun w3 =>
  R  w3) = kstep Try.prog 13 Try.f14.results.toList (Try.f14.body.getD .skip) (rlogm_Log_Mark.RV R) (kvc Try.prog 13 Try.f14.results.toList (Try.f14.body.getD .skip) (rlogm_Log_Mark.RV R) [] 2000) [(0, [])] [(0, .pointer l)] w := by kernel_rfl
theorem rlogm_Log_Mark.B0_sound {R : World → Prop}  (l : Option Addr) (w : World) (h : rlogm_Log_Mark.B0 l w   R) :
    KW Try.prog 14 13 (rlogm_Log_Mark.RV R) ([(0, [])].map (toItem (Try.f14.body.getD .skip))) [(0, .pointer l)] w := by
  exact block_spec Try.func14 Try.mixed stops_nil (Eq.mp (rlogm_Log_Mark.B0_eq l w   R ) h)
theorem rlogm_Log_Mark.sound (l : Option Addr) (w : World) (R : World → Prop) (h : rlogm_Log_Mark.B0 l w R) : rlogm_Log_Mark.Call l w R := by
  have hc := calls_of_block (args := #[.pointer l]) Try.func14 (body := (Try.f14.body.getD .skip)) (by kernel_rfl) (by kernel_rfl) (args_slot _) (rlogm_Log_Mark.B0_sound l w h)
  exact hc.mono fun e w' he => by
    obtain ⟨v, rfl, hv⟩ := he
    exact rlogm_Log_Mark.RV_elim hv
def rloglaw_Play.B0 (x m0 : Option Addr) (o_0 o_1 o_2 o_3 : Int) (o_4 o_5 : ByteArray) (w : World)   (R : Bool → World → Prop) : Prop :=
  New (.cells #[.int .i64 o_0, .int .i64 o_1, .int .i64 o_2, .int .i64 o_3, .string o_4, .string o_5] 39) w fun o_ w1 =>
  LdI .i64 ⟨o_, 0, none⟩ w1 fun x8 =>
  Bm (x8 == (1 : Int)) (
    LdI .i64 ⟨o_, 1, none⟩ w1 fun x14 =>
    LdI .i64 ⟨o_, 2, none⟩ w1 fun x16 =>
    rloglaw_SameSetTerm.Call x m0 x14 x16 w1 fun r17 w2 =>
    R r17 w2) (
    Bm (x8 == (2 : Int)) (
      LdI .i64 ⟨o_, 1, none⟩ w1 fun x23 =>
      LdS ⟨o_, 4, none⟩ w1 fun x25 =>
      rloglaw_SameAppend.Call x m0 x23 x25 w1 fun r27 w3 =>
      R r27 w3) (
      Bm (x8 == (3 : Int)) (
        LdI .i64 ⟨o_, 1, none⟩ w1 fun x33 =>
        rloglaw_SameTruncate.Call x m0 x33 w1 fun r34 w4 =>
        R r34 w4) (
        Bm (x8 == (4 : Int)) (
          LdI .i64 ⟨o_, 1, none⟩ w1 fun x40 =>
          LdS ⟨o_, 4, none⟩ w1 fun x42 =>
          rloglaw_SameCompact.Call x m0 x40 x42 w1 fun r43 w5 =>
          R r43 w5) (
          Bm (x8 == (5 : Int)) (
            LdI .i64 ⟨o_, 1, none⟩ w1 fun x49 =>
            LdI .i64 ⟨o_, 2, none⟩ w1 fun x51 =>
            LdS ⟨o_, 4, none⟩ w1 fun x53 =>
            rloglaw_SameInstall.Call x m0 x49 x51 x53 w1 fun r54 w6 =>
            R r54 w6) (
            Bm (x8 == (6 : Int)) (
              LdI .i64 ⟨o_, 1, none⟩ w1 fun x60 =>
              rloglaw_SameAt.Call x m0 x60 w1 fun r61 w7 =>
              R r61 w7) (
              Bm (x8 == (7 : Int)) (
                LdI .i64 ⟨o_, 1, none⟩ w1 fun x67 =>
                rloglaw_SameTermAt.Call x m0 x67 w1 fun r68 w8 =>
                R r68 w8) (
                Bm (x8 == (21 : Int)) (
                  rloglaw_SameTerm.Call x m0 w1 fun r73 w9 =>
                  R r73 w9) (
                  Bm (x8 == (22 : Int)) (
                    rloglaw_SameVote.Call x m0 w1 fun r78 w10 =>
                    R r78 w10) (
                    Bm (x8 == (23 : Int)) (
                      rloglaw_SameBase.Call x m0 w1 fun r83 w11 =>
                      R r83 w11) (
                      Bm (x8 == (24 : Int)) (
                        rloglaw_SameBaseTerm.Call x m0 w1 fun r88 w12 =>
                        R r88 w12) (
                        Bm (x8 == (25 : Int)) (
                          rloglaw_SameSnap.Call x m0 w1 fun r93 w13 =>
                          R r93 w13) (
                          Bm (x8 == (26 : Int)) (
                            rloglaw_SameLast.Call x m0 w1 fun r98 w14 =>
                            R r98 w14) (
                            Bm (x8 == (27 : Int)) (
                              rlog_Log_Check.Call x w1 fun r102 w15 =>
                              R (r102.toList == (ByteArray.mk #[]).toList) w15) (
                              R true w1))))))))))))))
theorem rloglaw_Play.B0_eq (x m0 : Option Addr) (o_0 o_1 o_2 o_3 : Int) (o_4 o_5 : ByteArray) (w : World)   (R : Bool → World → Prop)  :
    (
  New (.cells #[.int .i64 o_0, .int .i64 o_1, .int .i64 o_2, .int .i64 o_3, .string o_4, .string o_5] 39) w fun o_ w1 =>
  LdI .i64 ⟨o_, 0, none⟩ w1 fun x8 =>
  Bm (x8 == (1 : Int)) (
    LdI .i64 ⟨o_, 1, none⟩ w1 fun x14 =>
    LdI .i64 ⟨o_, 2, none⟩ w1 fun x16 =>
    rloglaw_SameSetTerm.Call x m0 x14 x16 w1 fun r17 w2 =>
    R r17 w2) (
    Bm (x8 == (2 : Int)) (
      LdI .i64 ⟨o_, 1, none⟩ w1 fun x23 =>
      LdS ⟨o_, 4, none⟩ w1 fun x25 =>
      rloglaw_SameAppend.Call x m0 x23 x25 w1 fun r27 w3 =>
      R r27 w3) (
      Bm (x8 == (3 : Int)) (
        LdI .i64 ⟨o_, 1, none⟩ w1 fun x33 =>
        rloglaw_SameTruncate.Call x m0 x33 w1 fun r34 w4 =>
        R r34 w4) (
        Bm (x8 == (4 : Int)) (
          LdI .i64 ⟨o_, 1, none⟩ w1 fun x40 =>
          LdS ⟨o_, 4, none⟩ w1 fun x42 =>
          rloglaw_SameCompact.Call x m0 x40 x42 w1 fun r43 w5 =>
          R r43 w5) (
          Bm (x8 == (5 : Int)) (
            LdI .i64 ⟨o_, 1, none⟩ w1 fun x49 =>
            LdI .i64 ⟨o_, 2, none⟩ w1 fun x51 =>
            LdS ⟨o_, 4, none⟩ w1 fun x53 =>
            rloglaw_SameInstall.Call x m0 x49 x51 x53 w1 fun r54 w6 =>
            R r54 w6) (
            Bm (x8 == (6 : Int)) (
              LdI .i64 ⟨o_, 1, none⟩ w1 fun x60 =>
              rloglaw_SameAt.Call x m0 x60 w1 fun r61 w7 =>
              R r61 w7) (
              Bm (x8 == (7 : Int)) (
                LdI .i64 ⟨o_, 1, none⟩ w1 fun x67 =>
                rloglaw_SameTermAt.Call x m0 x67 w1 fun r68 w8 =>
                R r68 w8) (
                Bm (x8 == (21 : Int)) (
                  rloglaw_SameTerm.Call x m0 w1 fun r73 w9 =>
                  R r73 w9) (
                  Bm (x8 == (22 : Int)) (
                    rloglaw_SameVote.Call x m0 w1 fun r78 w10 =>
                    R r78 w10) (
                    Bm (x8 == (23 : Int)) (
                      rloglaw_SameBase.Call x m0 w1 fun r83 w11 =>
                      R r83 w11) (
                      Bm (x8 == (24 : Int)) (
                        rloglaw_SameBaseTerm.Call x m0 w1 fun r88 w12 =>
                        R r88 w12) (
                        Bm (x8 == (25 : Int)) (
                          rloglaw_SameSnap.Call x m0 w1 fun r93 w13 =>
                          R r93 w13) (
                          Bm (x8 == (26 : Int)) (
                            rloglaw_SameLast.Call x m0 w1 fun r98 w14 =>
                            R r98 w14) (
                            Bm (x8 == (27 : Int)) (
                              rlog_Log_Check.Call x w1 fun r102 w15 =>
                              R (r102.toList == (ByteArray.mk #[]).toList) w15) (
                              R true w1))))))))))))))) = kstep Try.prog 104 Try.f15.results.toList (Try.f15.body.getD .skip) (rloglaw_Play.RV R) (kvc Try.prog 104 Try.f15.results.toList (Try.f15.body.getD .skip) (rloglaw_Play.RV R) [] 2000) [(0, [])] [(0, .pointer x), (1, .pointer m0), (2, .agg #[.int .i64 o_0, .int .i64 o_1, .int .i64 o_2, .int .i64 o_3, .string o_4, .string o_5])] w := by kernel_rfl
theorem rloglaw_Play.B0_sound {R : Bool → World → Prop}  (x m0 : Option Addr) (o_0 o_1 o_2 o_3 : Int) (o_4 o_5 : ByteArray) (w : World) (h : rloglaw_Play.B0 x m0 o_0 o_1 o_2 o_3 o_4 o_5 w   R) :
    KW Try.prog 15 104 (rloglaw_Play.RV R) ([(0, [])].map (toItem (Try.f15.body.getD .skip))) [(0, .pointer x), (1, .pointer m0), (2, .agg #[.int .i64 o_0, .int .i64 o_1, .int .i64 o_2, .int .i64 o_3, .string o_4, .string o_5])] w := by
  exact block_spec Try.func15 Try.mixed stops_nil (Eq.mp (rloglaw_Play.B0_eq x m0 o_0 o_1 o_2 o_3 o_4 o_5 w   R ) h)
theorem rloglaw_Play.sound (x m0 : Option Addr) (o_0 o_1 o_2 o_3 : Int) (o_4 o_5 : ByteArray) (w : World) (R : Bool → World → Prop) (h : rloglaw_Play.B0 x m0 o_0 o_1 o_2 o_3 o_4 o_5 w R) : rloglaw_Play.Call x m0 o_0 o_1 o_2 o_3 o_4 o_5 w R := by
  have hc := calls_of_block (args := #[.pointer x, .pointer m0, .agg #[.int .i64 o_0, .int .i64 o_1, .int .i64 o_2, .int .i64 o_3, .string o_4, .string o_5]]) Try.func15 (body := (Try.f15.body.getD .skip)) (by kernel_rfl) (by kernel_rfl) (args_slot _) (rloglaw_Play.B0_sound x m0 o_0 o_1 o_2 o_3 o_4 o_5 w h)
  exact hc.mono fun e w' he => by
    obtain ⟨v, rfl, hv⟩ := he
    exact rloglaw_Play.RV_elim hv
def rloglaw_Idle.B0 (b_0 b_1 m0 : Option Addr) (w : World)   (R : Bool → World → Prop) : Prop :=
  New (.cells #[.pointer b_0, .pointer b_1] 30) w fun b_ w1 =>
  rlogm_Log_Steps.Call m0 w1 fun r6 w2 =>
  Bm (r6 != (0 : Int)) (
    R true w2) (
    LdP ⟨b_, 0, none⟩ w2 fun x8_0 =>
    LdP ⟨b_, 1, none⟩ w2 fun x8_1 =>
    rloglaw_Steps.Call x8_0 x8_1 w2 fun r9 w3 =>
    R (r9 == (0 : Int)) w3)
theorem rloglaw_Idle.B0_eq (b_0 b_1 m0 : Option Addr) (w : World)   (R : Bool → World → Prop)  :
    (
  New (.cells #[.pointer b_0, .pointer b_1] 30) w fun b_ w1 =>
  rlogm_Log_Steps.Call m0 w1 fun r6 w2 =>
  Bm (r6 != (0 : Int)) (
    R true w2) (
    LdP ⟨b_, 0, none⟩ w2 fun x8_0 =>
    LdP ⟨b_, 1, none⟩ w2 fun x8_1 =>
    rloglaw_Steps.Call x8_0 x8_1 w2 fun r9 w3 =>
    R (r9 == (0 : Int)) w3)) = kstep Try.prog 11 Try.f16.results.toList (Try.f16.body.getD .skip) (rloglaw_Idle.RV R) (kvc Try.prog 11 Try.f16.results.toList (Try.f16.body.getD .skip) (rloglaw_Idle.RV R) [] 2000) [(0, [])] [(0, .agg #[.pointer b_0, .pointer b_1]), (1, .pointer m0)] w := by kernel_rfl
theorem rloglaw_Idle.B0_sound {R : Bool → World → Prop}  (b_0 b_1 m0 : Option Addr) (w : World) (h : rloglaw_Idle.B0 b_0 b_1 m0 w   R) :
    KW Try.prog 16 11 (rloglaw_Idle.RV R) ([(0, [])].map (toItem (Try.f16.body.getD .skip))) [(0, .agg #[.pointer b_0, .pointer b_1]), (1, .pointer m0)] w := by
  exact block_spec Try.func16 Try.mixed stops_nil (Eq.mp (rloglaw_Idle.B0_eq b_0 b_1 m0 w   R ) h)
theorem rloglaw_Idle.sound (b_0 b_1 m0 : Option Addr) (w : World) (R : Bool → World → Prop) (h : rloglaw_Idle.B0 b_0 b_1 m0 w R) : rloglaw_Idle.Call b_0 b_1 m0 w R := by
  have hc := calls_of_block (args := #[.agg #[.pointer b_0, .pointer b_1], .pointer m0]) Try.func16 (body := (Try.f16.body.getD .skip)) (by kernel_rfl) (by kernel_rfl) (args_slot _) (rloglaw_Idle.B0_sound b_0 b_1 m0 w h)
  exact hc.mono fun e w' he => by
    obtain ⟨v, rfl, hv⟩ := he
    exact rloglaw_Idle.RV_elim hv
def rloglaw_After.B0 (b_0 b_1 : Option Addr) (k : Int) (w : World)   (R : Option Addr → Option Addr → World → Prop) : Prop :=
  New (.cells #[.pointer b_0, .pointer b_1] 30) w fun b_ w1 =>
  New (.cells #[.pointer none, .pointer none] 30) w1 fun b4 w2 =>
  LdP ⟨b_, 0, none⟩ w2 fun x7 =>
  diskm_Disk_After.Call x7 k w2 fun r9 w3 =>
  diskm_Disk_Mark.Call r9 w3 fun w4 =>
  store_Open.Call r9 w4 fun r14 w5 =>
  Sts [.pointer r9, .pointer r14] ⟨b4, 0, none⟩ 0 w5 fun w6 =>
  LdP ⟨b4, 0, none⟩ w6 fun r_0 =>
  LdP ⟨b4, 1, none⟩ w6 fun r_1 =>
  R r_0 r_1 w6
theorem rloglaw_After.B0_eq (b_0 b_1 : Option Addr) (k : Int) (w : World)   (R : Option Addr → Option Addr → World → Prop)  :
    (
  New (.cells #[.pointer b_0, .pointer b_1] 30) w fun b_ w1 =>
  New (.cells #[.pointer none, .pointer none] 30) w1 fun b4 w2 =>
  LdP ⟨b_, 0, none⟩ w2 fun x7 =>
  diskm_Disk_After.Call x7 k w2 fun r9 w3 =>
  diskm_Disk_Mark.Call r9 w3 fun w4 =>
  store_Open.Call r9 w4 fun r14 w5 =>
  Sts [.pointer r9, .pointer r14] ⟨b4, 0, none⟩ 0 w5 fun w6 =>
  LdP ⟨b4, 0, none⟩ w6 fun r_0 =>
  LdP ⟨b4, 1, none⟩ w6 fun r_1 =>
  R r_0 r_1 w6) = kstep Try.prog 16 Try.f17.results.toList (Try.f17.body.getD .skip) (rloglaw_After.RV R) (kvc Try.prog 16 Try.f17.results.toList (Try.f17.body.getD .skip) (rloglaw_After.RV R) [] 2000) [(0, [])] [(0, .agg #[.pointer b_0, .pointer b_1]), (1, .int .i64 k)] w := by kernel_rfl
theorem rloglaw_After.B0_sound {R : Option Addr → Option Addr → World → Prop}  (b_0 b_1 : Option Addr) (k : Int) (w : World) (h : rloglaw_After.B0 b_0 b_1 k w   R) :
    KW Try.prog 17 16 (rloglaw_After.RV R) ([(0, [])].map (toItem (Try.f17.body.getD .skip))) [(0, .agg #[.pointer b_0, .pointer b_1]), (1, .int .i64 k)] w := by
  exact block_spec Try.func17 Try.mixed stops_nil (Eq.mp (rloglaw_After.B0_eq b_0 b_1 k w   R ) h)
theorem rloglaw_After.sound (b_0 b_1 : Option Addr) (k : Int) (w : World) (R : Option Addr → Option Addr → World → Prop) (h : rloglaw_After.B0 b_0 b_1 k w R) : rloglaw_After.Call b_0 b_1 k w R := by
  have hc := calls_of_block (args := #[.agg #[.pointer b_0, .pointer b_1], .int .i64 k]) Try.func17 (body := (Try.f17.body.getD .skip)) (by kernel_rfl) (by kernel_rfl) (args_slot _) (rloglaw_After.B0_sound b_0 b_1 k w h)
  exact hc.mono fun e w' he => by
    obtain ⟨v, rfl, hv⟩ := he
    exact rloglaw_After.RV_elim hv
def rlog_Sound.B3 (st : Option Addr) (top s : Int) (t55 : Bool) (w : World) (N2 : Option Addr → Int → Int → World → Prop)  (R : ByteArray → World → Prop) : Prop :=
  Bm t55 (
    R (ByteArray.mk #[97, 32, 114, 101, 99, 111, 114, 100, 32, 115, 116, 97, 110, 100, 115, 32, 97, 98, 111, 118, 101, 32, 97, 32, 103, 97, 112]) w) (
    N2 st top (IntKind.i64.wrap (s + (1 : Int))) w)
theorem rlog_Sound.B3_eq (st : Option Addr) (top s : Int) (t55 : Bool) (w : World) (N2 : Option Addr → Int → Int → World → Prop)  (R : ByteArray → World → Prop)  :
    (
  Bm t55 (
    R (ByteArray.mk #[97, 32, 114, 101, 99, 111, 114, 100, 32, 115, 116, 97, 110, 100, 115, 32, 97, 98, 111, 118, 101, 32, 97, 32, 103, 97, 112]) w) (
    N2 st top (IntKind.i64.wrap (s + (1 : Int))) w)) = kstep Try.prog 56 Try.f18.results.toList (Try.f18.body.getD .skip) (rlog_Sound.RV R) (kvc Try.prog 56 Try.f18.results.toList (Try.f18.body.getD .skip) (rlog_Sound.RV R) [([(0, [1, 1, 1, 1, 0, 1, 0, 0]), (2, [1, 1, 1, 1, 0, 1, 0, 0]), (1, [2]), (0, [1, 1, 1, 1, 1])], fun σ w => dP (slotOf σ 0) fun st_ => dI .i64 (slotOf σ 6) fun top_ => dI .i64 (slotOf σ 7) fun s_ => N2 st_ top_ s_ w)] 2000) [(0, [1, 1, 1, 1, 0, 1, 0, 0, 1, 0, 0, 1, 1, 1]), (1, [3]), (0, [1, 1, 1, 1, 0, 1, 0, 0, 1, 1]), (2, [1, 1, 1, 1, 0, 1, 0, 0]), (1, [2]), (0, [1, 1, 1, 1, 1])] [(0, .pointer st), (6, .int .i64 top), (7, .int .i64 s), (55, .bool t55)] w := by kernel_rfl
theorem rlog_Sound.B3_sound {R : ByteArray → World → Prop} {N2 : Option Addr → Int → Int → World → Prop} (hN2 : ∀ st top s w, N2 st top s w → KW Try.prog 18 56 (rlog_Sound.RV R) ([(0, [1, 1, 1, 1, 0, 1, 0, 0]), (2, [1, 1, 1, 1, 0, 1, 0, 0]), (1, [2]), (0, [1, 1, 1, 1, 1])].map (toItem (Try.f18.body.getD .skip))) [(0, .pointer st), (6, .int .i64 top), (7, .int .i64 s)] w) (st : Option Addr) (top s : Int) (t55 : Bool) (w : World) (h : rlog_Sound.B3 st top s t55 w N2  R) :
    KW Try.prog 18 56 (rlog_Sound.RV R) ([(0, [1, 1, 1, 1, 0, 1, 0, 0, 1, 0, 0, 1, 1, 1]), (1, [3]), (0, [1, 1, 1, 1, 0, 1, 0, 0, 1, 1]), (2, [1, 1, 1, 1, 0, 1, 0, 0]), (1, [2]), (0, [1, 1, 1, 1, 1])].map (toItem (Try.f18.body.getD .skip))) [(0, .pointer st), (6, .int .i64 top), (7, .int .i64 s), (55, .bool t55)] w := by
  exact block_spec Try.func18 Try.mixed (stops_cons (fun σ w h => by
      obtain ⟨st_, e0, h⟩ := dP_elim h
      obtain ⟨top_, e1, h⟩ := dI_elim h
      obtain ⟨s_, e2, h⟩ := dI_elim h
      exact (hN2 st_ top_ s_ w h).weaken (Sub.cons (Sub.cons (Sub.cons (Sub.nil _) e2) e1) e0)) stops_nil) (Eq.mp (rlog_Sound.B3_eq st top s t55 w N2  R ) h)
def rlog_Sound.B2 (st : Option Addr) (top s : Int) (r : Nat) (err : Int) (t47 : Bool) (w : World) (N2 : Option Addr → Int → Int → World → Prop)  (R : ByteArray → World → Prop) : Prop :=
  Bm t47 (
    R (ByteArray.mk #[97, 32, 114, 101, 99, 111, 114, 100, 32, 108, 105, 101, 115, 32, 105, 110, 32, 97, 32, 115, 108, 111, 116, 32, 116, 104, 97, 116, 32, 105, 115, 32, 110, 111, 116, 32, 105, 116, 115, 32, 105, 110, 100, 101, 120, 39, 115]) w) (
    Bm (err == (0 : Int)) (
      LdI .i64 ⟨r, 0, none⟩ w fun x52 =>
      rlog_Sound.B3 st top s (decide (x52 > top)) w N2 R) (
      rlog_Sound.B3 st top s false w N2 R))
theorem rlog_Sound.B2_eq (st : Option Addr) (top s : Int) (r : Nat) (err : Int) (t47 : Bool) (w : World) (N2 : Option Addr → Int → Int → World → Prop)  (R : ByteArray → World → Prop) (sB3 : Option Addr → Int → Int → Bool → World → Prop) :
    (
  Bm t47 (
    R (ByteArray.mk #[97, 32, 114, 101, 99, 111, 114, 100, 32, 108, 105, 101, 115, 32, 105, 110, 32, 97, 32, 115, 108, 111, 116, 32, 116, 104, 97, 116, 32, 105, 115, 32, 110, 111, 116, 32, 105, 116, 115, 32, 105, 110, 100, 101, 120, 39, 115]) w) (
    Bm (err == (0 : Int)) (
      LdI .i64 ⟨r, 0, none⟩ w fun x52 =>
      sB3 st top s (decide (x52 > top)) w) (
      sB3 st top s false w))) = kstep Try.prog 56 Try.f18.results.toList (Try.f18.body.getD .skip) (rlog_Sound.RV R) (kvc Try.prog 56 Try.f18.results.toList (Try.f18.body.getD .skip) (rlog_Sound.RV R) [([(0, [1, 1, 1, 1, 0, 1, 0, 0, 1, 0, 0, 1, 1, 1]), (1, [3]), (0, [1, 1, 1, 1, 0, 1, 0, 0, 1, 1]), (2, [1, 1, 1, 1, 0, 1, 0, 0]), (1, [2]), (0, [1, 1, 1, 1, 1])], fun σ w => dP (slotOf σ 0) fun st_ => dI .i64 (slotOf σ 6) fun top_ => dI .i64 (slotOf σ 7) fun s_ => dB (slotOf σ 55) fun t55_ => sB3 st_ top_ s_ t55_ w)] 2000) [(0, [1, 1, 1, 1, 0, 1, 0, 0, 1, 0, 0, 1, 0, 1]), (0, [1, 1, 1, 1, 0, 1, 0, 0, 1, 0, 0, 1, 1]), (1, [3]), (0, [1, 1, 1, 1, 0, 1, 0, 0, 1, 1]), (2, [1, 1, 1, 1, 0, 1, 0, 0]), (1, [2]), (0, [1, 1, 1, 1, 1])] [(0, .pointer st), (6, .int .i64 top), (7, .int .i64 s), (8, .pointer (some ⟨r, 0, none⟩)), (9, .int .i64 err), (47, .bool t47)] w := by kernel_rfl
theorem rlog_Sound.B2_sound {R : ByteArray → World → Prop} {N2 : Option Addr → Int → Int → World → Prop} (hN2 : ∀ st top s w, N2 st top s w → KW Try.prog 18 56 (rlog_Sound.RV R) ([(0, [1, 1, 1, 1, 0, 1, 0, 0]), (2, [1, 1, 1, 1, 0, 1, 0, 0]), (1, [2]), (0, [1, 1, 1, 1, 1])].map (toItem (Try.f18.body.getD .skip))) [(0, .pointer st), (6, .int .i64 top), (7, .int .i64 s)] w) (st : Option Addr) (top s : Int) (r : Nat) (err : Int) (t47 : Bool) (w : World) (h : rlog_Sound.B2 st top s r err t47 w N2  R) :
    KW Try.prog 18 56 (rlog_Sound.RV R) ([(0, [1, 1, 1, 1, 0, 1, 0, 0, 1, 0, 0, 1, 0, 1]), (0, [1, 1, 1, 1, 0, 1, 0, 0, 1, 0, 0, 1, 1]), (1, [3]), (0, [1, 1, 1, 1, 0, 1, 0, 0, 1, 1]), (2, [1, 1, 1, 1, 0, 1, 0, 0]), (1, [2]), (0, [1, 1, 1, 1, 1])].map (toItem (Try.f18.body.getD .skip))) [(0, .pointer st), (6, .int .i64 top), (7, .int .i64 s), (8, .pointer (some ⟨r, 0, none⟩)), (9, .int .i64 err), (47, .bool t47)] w := by
  exact block_spec Try.func18 Try.mixed (stops_cons (fun σ w h => by
      obtain ⟨st_, e0, h⟩ := dP_elim h
      obtain ⟨top_, e1, h⟩ := dI_elim h
      obtain ⟨s_, e2, h⟩ := dI_elim h
      obtain ⟨t55_, e3, h⟩ := dB_elim h
      exact (rlog_Sound.B3_sound hN2 st_ top_ s_ t55_ w h).weaken (Sub.cons (Sub.cons (Sub.cons (Sub.cons (Sub.nil _) e3) e2) e1) e0)) stops_nil) (Eq.mp (rlog_Sound.B2_eq st top s r err t47 w N2  R (fun st_ top_ s_ t55_ w => rlog_Sound.B3 st_ top_ s_ t55_ w N2 R)) h)
def rlog_Sound.L2b (st : Option Addr) (top s : Int) (w : World)  (N2 : Option Addr → Int → Int → World → Prop) (R : ByteArray → World → Prop) : Prop :=
  Bm (decide (s < (6 : Int))) (
    store_Store_Rec.Call st s w fun r36_0_0 r36_0_1 r36_0_2 r36_1 w1 =>
    New (.cells #[.int .i64 (0 : Int), .int .i64 (0 : Int), .string (ByteArray.mk #[])] 72) w1 fun r_ w2 =>
    Sts [.int .i64 r36_0_0, .int .i64 r36_0_1, .string r36_0_2] ⟨r_, 0, none⟩ 0 w2 fun w3 =>
    Bm (r36_1 == (0 : Int)) (
      LdI .i64 ⟨r_, 0, none⟩ w3 fun x43 =>
      rlog_slotOf.Call x43 w3 fun r44 w4 =>
      rlog_Sound.B2 st top s r_ r36_1 (r44 != s) w4 N2 R) (
      rlog_Sound.B2 st top s r_ r36_1 false w3 N2 R)) (
    R (ByteArray.mk #[]) w)
theorem rlog_Sound.L2b_eq (st : Option Addr) (top s : Int) (w : World)  (N2 : Option Addr → Int → Int → World → Prop) (R : ByteArray → World → Prop) (sB2 : Option Addr → Int → Int → Nat → Int → Bool → World → Prop) :
    (
  Bm (decide (s < (6 : Int))) (
    store_Store_Rec.Call st s w fun r36_0_0 r36_0_1 r36_0_2 r36_1 w1 =>
    New (.cells #[.int .i64 (0 : Int), .int .i64 (0 : Int), .string (ByteArray.mk #[])] 72) w1 fun r_ w2 =>
    Sts [.int .i64 r36_0_0, .int .i64 r36_0_1, .string r36_0_2] ⟨r_, 0, none⟩ 0 w2 fun w3 =>
    Bm (r36_1 == (0 : Int)) (
      LdI .i64 ⟨r_, 0, none⟩ w3 fun x43 =>
      rlog_slotOf.Call x43 w3 fun r44 w4 =>
      sB2 st top s r_ r36_1 (r44 != s) w4) (
      sB2 st top s r_ r36_1 false w3)) (
    R (ByteArray.mk #[]) w)) = kstep Try.prog 56 Try.f18.results.toList (Try.f18.body.getD .skip) (rlog_Sound.RV R) (kvc Try.prog 56 Try.f18.results.toList (Try.f18.body.getD .skip) (rlog_Sound.RV R) [([(0, [1, 1, 1, 1, 0, 1, 0, 0, 1, 0, 0, 1, 0, 1]), (0, [1, 1, 1, 1, 0, 1, 0, 0, 1, 0, 0, 1, 1]), (1, [3]), (0, [1, 1, 1, 1, 0, 1, 0, 0, 1, 1]), (2, [1, 1, 1, 1, 0, 1, 0, 0]), (1, [2]), (0, [1, 1, 1, 1, 1])], fun σ w => dP (slotOf σ 0) fun st_ => dI .i64 (slotOf σ 6) fun top_ => dI .i64 (slotOf σ 7) fun s_ => dK (slotOf σ 8) fun r_ => dI .i64 (slotOf σ 9) fun err_ => dB (slotOf σ 47) fun t47_ => sB2 st_ top_ s_ r_ err_ t47_ w)] 2000) [(0, [1, 1, 1, 1, 0, 1, 0, 0]), (2, [1, 1, 1, 1, 0, 1, 0, 0]), (1, [2]), (0, [1, 1, 1, 1, 1])] [(0, .pointer st), (6, .int .i64 top), (7, .int .i64 s)] w := by kernel_rfl
theorem rlog_Sound.L2b_sound {R : ByteArray → World → Prop} {N2 : Option Addr → Int → Int → World → Prop} (hN2 : ∀ st top s w, N2 st top s w → KW Try.prog 18 56 (rlog_Sound.RV R) ([(0, [1, 1, 1, 1, 0, 1, 0, 0]), (2, [1, 1, 1, 1, 0, 1, 0, 0]), (1, [2]), (0, [1, 1, 1, 1, 1])].map (toItem (Try.f18.body.getD .skip))) [(0, .pointer st), (6, .int .i64 top), (7, .int .i64 s)] w) (st : Option Addr) (top s : Int) (w : World) (h : rlog_Sound.L2b st top s w  N2 R) :
    KW Try.prog 18 56 (rlog_Sound.RV R) ([(0, [1, 1, 1, 1, 0, 1, 0, 0]), (2, [1, 1, 1, 1, 0, 1, 0, 0]), (1, [2]), (0, [1, 1, 1, 1, 1])].map (toItem (Try.f18.body.getD .skip))) [(0, .pointer st), (6, .int .i64 top), (7, .int .i64 s)] w := by
  exact block_spec Try.func18 Try.mixed (stops_cons (fun σ w h => by
      obtain ⟨st_, e0, h⟩ := dP_elim h
      obtain ⟨top_, e1, h⟩ := dI_elim h
      obtain ⟨s_, e2, h⟩ := dI_elim h
      obtain ⟨r_, e3, h⟩ := dK_elim h
      obtain ⟨err_, e4, h⟩ := dI_elim h
      obtain ⟨t47_, e5, h⟩ := dB_elim h
      exact (rlog_Sound.B2_sound hN2 st_ top_ s_ r_ err_ t47_ w h).weaken (Sub.cons (Sub.cons (Sub.cons (Sub.cons (Sub.cons (Sub.cons (Sub.nil _) e5) e4) e3) e2) e1) e0)) stops_nil) (Eq.mp (rlog_Sound.L2b_eq st top s w  N2 R (fun st_ top_ s_ r_ err_ t47_ w => rlog_Sound.B2 st_ top_ s_ r_ err_ t47_ w N2 R)) h)
def rlog_Sound.L2 (st : Option Addr) (top s : Int) (w : World)  (R : ByteArray → World → Prop) : Prop :=
  ∃ (I : Nat → Option Addr → Int → Int → World → Prop) (m : Nat), I m st top s w ∧ ∀ m st top s w, I m st top s w → rlog_Sound.L2b st top s w  (fun st' top' s' w' => ∃ m', m' < m ∧ I m' st' top' s' w') R
theorem rlog_Sound.L2_sound {R : ByteArray → World → Prop}  (st : Option Addr) (top s : Int) (w : World) (h : rlog_Sound.L2 st top s w  R) :
    KW Try.prog 18 56 (rlog_Sound.RV R) ([(0, [1, 1, 1, 1, 0, 1, 0, 0]), (2, [1, 1, 1, 1, 0, 1, 0, 0]), (1, [2]), (0, [1, 1, 1, 1, 1])].map (toItem (Try.f18.body.getD .skip))) [(0, .pointer st), (6, .int .i64 top), (7, .int .i64 s)] w := by
  obtain ⟨I, m, hBase, hr⟩ := h
  refine KW.loop (fun m σ w => ∃ (st : Option Addr) (top s : Int), σ = [(0, .pointer st), (6, .int .i64 top), (7, .int .i64 s)] ∧ I m st top s w) ?_ m _ w ⟨st, top, s, rfl, hBase⟩
  rintro m ih σ w ⟨st, top, s, rfl, hI⟩
  exact rlog_Sound.L2b_sound  (N2 := fun st' top' s' w' => ∃ m', m' < m ∧ I m' st' top' s' w') (fun st' top' s' w' hx => by obtain ⟨m', hlt, hI'⟩ := hx; exact ih m' hlt _ w' ⟨st', top', s', rfl, hI'⟩) st top s w (hr m st top s w hI)
def rlog_Sound.B1 (st : Option Addr) (base top : Int) (t26 : Bool) (w : World) (N1 : Option Addr → Int → Int → World → Prop)  (R : ByteArray → World → Prop) : Prop :=
  Bm t26 (
    N1 st base (IntKind.i64.wrap (top + (1 : Int))) w) (
    rlog_Sound.L2 st top (0 : Int) w  R)
theorem rlog_Sound.B1_eq (st : Option Addr) (base top : Int) (t26 : Bool) (w : World) (N1 : Option Addr → Int → Int → World → Prop)  (R : ByteArray → World → Prop) (sL2 : Option Addr → Int → Int → World → Prop) :
    (
  Bm t26 (
    N1 st base (IntKind.i64.wrap (top + (1 : Int))) w) (
    sL2 st top (0 : Int) w)) = kstep Try.prog 56 Try.f18.results.toList (Try.f18.body.getD .skip) (rlog_Sound.RV R) (kvc Try.prog 56 Try.f18.results.toList (Try.f18.body.getD .skip) (rlog_Sound.RV R) [([(0, [1, 1, 1, 0, 0, 0]), (2, [1, 1, 1, 0, 0, 0]), (1, [0]), (0, [1, 1, 1, 1])], fun σ w => dP (slotOf σ 0) fun st_ => dI .i64 (slotOf σ 3) fun base_ => dI .i64 (slotOf σ 6) fun top_ => N1 st_ base_ top_ w),
    ([(0, [1, 1, 1, 1, 0, 1, 0, 0]), (2, [1, 1, 1, 1, 0, 1, 0, 0]), (1, [2]), (0, [1, 1, 1, 1, 1])], fun σ w => dP (slotOf σ 0) fun st_ => dI .i64 (slotOf σ 6) fun top_ => dI .i64 (slotOf σ 7) fun s_ => sL2 st_ top_ s_ w)] 2000) [(0, [1, 1, 1, 0, 0, 0, 0, 1]), (0, [1, 1, 1, 0, 0, 0, 1]), (2, [1, 1, 1, 0, 0, 0]), (1, [0]), (0, [1, 1, 1, 1])] [(0, .pointer st), (3, .int .i64 base), (6, .int .i64 top), (26, .bool t26)] w := by kernel_rfl
theorem rlog_Sound.B1_sound {R : ByteArray → World → Prop} {N1 : Option Addr → Int → Int → World → Prop} (hN1 : ∀ st base top w, N1 st base top w → KW Try.prog 18 56 (rlog_Sound.RV R) ([(0, [1, 1, 1, 0, 0, 0]), (2, [1, 1, 1, 0, 0, 0]), (1, [0]), (0, [1, 1, 1, 1])].map (toItem (Try.f18.body.getD .skip))) [(0, .pointer st), (3, .int .i64 base), (6, .int .i64 top)] w) (st : Option Addr) (base top : Int) (t26 : Bool) (w : World) (h : rlog_Sound.B1 st base top t26 w N1  R) :
    KW Try.prog 18 56 (rlog_Sound.RV R) ([(0, [1, 1, 1, 0, 0, 0, 0, 1]), (0, [1, 1, 1, 0, 0, 0, 1]), (2, [1, 1, 1, 0, 0, 0]), (1, [0]), (0, [1, 1, 1, 1])].map (toItem (Try.f18.body.getD .skip))) [(0, .pointer st), (3, .int .i64 base), (6, .int .i64 top), (26, .bool t26)] w := by
  exact block_spec Try.func18 Try.mixed (stops_cons (fun σ w h => by
      obtain ⟨st_, e0, h⟩ := dP_elim h
      obtain ⟨base_, e1, h⟩ := dI_elim h
      obtain ⟨top_, e2, h⟩ := dI_elim h
      exact (hN1 st_ base_ top_ w h).weaken (Sub.cons (Sub.cons (Sub.cons (Sub.nil _) e2) e1) e0)) (stops_cons (fun σ w h => by
      obtain ⟨st_, e0, h⟩ := dP_elim h
      obtain ⟨top_, e1, h⟩ := dI_elim h
      obtain ⟨s_, e2, h⟩ := dI_elim h
      exact (rlog_Sound.L2_sound  st_ top_ s_ w h).weaken (Sub.cons (Sub.cons (Sub.cons (Sub.nil _) e2) e1) e0)) stops_nil)) (Eq.mp (rlog_Sound.B1_eq st base top t26 w N1  R (fun st_ top_ s_ w => rlog_Sound.L2 st_ top_ s_ w  R)) h)
def rlog_Sound.L1b (st : Option Addr) (base top : Int) (w : World)  (N1 : Option Addr → Int → Int → World → Prop) (R : ByteArray → World → Prop) : Prop :=
  Bm (decide ((IntKind.i64.wrap (top - base)) < (6 : Int))) (
    rlog_holds.Call st (IntKind.i64.wrap (top + (1 : Int))) w fun r25 w1 =>
    rlog_Sound.B1 st base top r25 w1 N1 R) (
    rlog_Sound.B1 st base top false w N1 R)
theorem rlog_Sound.L1b_eq (st : Option Addr) (base top : Int) (w : World)  (N1 : Option Addr → Int → Int → World → Prop) (R : ByteArray → World → Prop) (sB1 : Option Addr → Int → Int → Bool → World → Prop) :
    (
  Bm (decide ((IntKind.i64.wrap (top - base)) < (6 : Int))) (
    rlog_holds.Call st (IntKind.i64.wrap (top + (1 : Int))) w fun r25 w1 =>
    sB1 st base top r25 w1) (
    sB1 st base top false w)) = kstep Try.prog 56 Try.f18.results.toList (Try.f18.body.getD .skip) (rlog_Sound.RV R) (kvc Try.prog 56 Try.f18.results.toList (Try.f18.body.getD .skip) (rlog_Sound.RV R) [([(0, [1, 1, 1, 0, 0, 0, 0, 1]), (0, [1, 1, 1, 0, 0, 0, 1]), (2, [1, 1, 1, 0, 0, 0]), (1, [0]), (0, [1, 1, 1, 1])], fun σ w => dP (slotOf σ 0) fun st_ => dI .i64 (slotOf σ 3) fun base_ => dI .i64 (slotOf σ 6) fun top_ => dB (slotOf σ 26) fun t26_ => sB1 st_ base_ top_ t26_ w)] 2000) [(0, [1, 1, 1, 0, 0, 0]), (2, [1, 1, 1, 0, 0, 0]), (1, [0]), (0, [1, 1, 1, 1])] [(0, .pointer st), (3, .int .i64 base), (6, .int .i64 top)] w := by kernel_rfl
theorem rlog_Sound.L1b_sound {R : ByteArray → World → Prop} {N1 : Option Addr → Int → Int → World → Prop} (hN1 : ∀ st base top w, N1 st base top w → KW Try.prog 18 56 (rlog_Sound.RV R) ([(0, [1, 1, 1, 0, 0, 0]), (2, [1, 1, 1, 0, 0, 0]), (1, [0]), (0, [1, 1, 1, 1])].map (toItem (Try.f18.body.getD .skip))) [(0, .pointer st), (3, .int .i64 base), (6, .int .i64 top)] w) (st : Option Addr) (base top : Int) (w : World) (h : rlog_Sound.L1b st base top w  N1 R) :
    KW Try.prog 18 56 (rlog_Sound.RV R) ([(0, [1, 1, 1, 0, 0, 0]), (2, [1, 1, 1, 0, 0, 0]), (1, [0]), (0, [1, 1, 1, 1])].map (toItem (Try.f18.body.getD .skip))) [(0, .pointer st), (3, .int .i64 base), (6, .int .i64 top)] w := by
  exact block_spec Try.func18 Try.mixed (stops_cons (fun σ w h => by
      obtain ⟨st_, e0, h⟩ := dP_elim h
      obtain ⟨base_, e1, h⟩ := dI_elim h
      obtain ⟨top_, e2, h⟩ := dI_elim h
      obtain ⟨t26_, e3, h⟩ := dB_elim h
      exact (rlog_Sound.B1_sound hN1 st_ base_ top_ t26_ w h).weaken (Sub.cons (Sub.cons (Sub.cons (Sub.cons (Sub.nil _) e3) e2) e1) e0)) stops_nil) (Eq.mp (rlog_Sound.L1b_eq st base top w  N1 R (fun st_ base_ top_ t26_ w => rlog_Sound.B1 st_ base_ top_ t26_ w N1 R)) h)
def rlog_Sound.L1 (st : Option Addr) (base top : Int) (w : World)  (R : ByteArray → World → Prop) : Prop :=
  ∃ (I : Nat → Option Addr → Int → Int → World → Prop) (m : Nat), I m st base top w ∧ ∀ m st base top w, I m st base top w → rlog_Sound.L1b st base top w  (fun st' base' top' w' => ∃ m', m' < m ∧ I m' st' base' top' w') R
theorem rlog_Sound.L1_sound {R : ByteArray → World → Prop}  (st : Option Addr) (base top : Int) (w : World) (h : rlog_Sound.L1 st base top w  R) :
    KW Try.prog 18 56 (rlog_Sound.RV R) ([(0, [1, 1, 1, 0, 0, 0]), (2, [1, 1, 1, 0, 0, 0]), (1, [0]), (0, [1, 1, 1, 1])].map (toItem (Try.f18.body.getD .skip))) [(0, .pointer st), (3, .int .i64 base), (6, .int .i64 top)] w := by
  obtain ⟨I, m, hBase, hr⟩ := h
  refine KW.loop (fun m σ w => ∃ (st : Option Addr) (base top : Int), σ = [(0, .pointer st), (3, .int .i64 base), (6, .int .i64 top)] ∧ I m st base top w) ?_ m _ w ⟨st, base, top, rfl, hBase⟩
  rintro m ih σ w ⟨st, base, top, rfl, hI⟩
  exact rlog_Sound.L1b_sound  (N1 := fun st' base' top' w' => ∃ m', m' < m ∧ I m' st' base' top' w') (fun st' base' top' w' hx => by obtain ⟨m', hlt, hI'⟩ := hx; exact ih m' hlt _ w' ⟨st', base', top', rfl, hI'⟩) st base top w (hr m st base top w hI)
def rlog_Sound.B0 (st : Option Addr) (w : World)   (R : ByteArray → World → Prop) : Prop :=
  store_Store_Snap.Call st w fun r12_0 r12_1 r12_2 w1 =>
  rlog_Sound.L1 st r12_0 r12_0 w1  R
theorem rlog_Sound.B0_eq (st : Option Addr) (w : World)   (R : ByteArray → World → Prop) (sL1 : Option Addr → Int → Int → World → Prop) :
    (
  store_Store_Snap.Call st w fun r12_0 r12_1 r12_2 w1 =>
  sL1 st r12_0 r12_0 w1) = kstep Try.prog 56 Try.f18.results.toList (Try.f18.body.getD .skip) (rlog_Sound.RV R) (kvc Try.prog 56 Try.f18.results.toList (Try.f18.body.getD .skip) (rlog_Sound.RV R) [([(0, [1, 1, 1, 0, 0, 0]), (2, [1, 1, 1, 0, 0, 0]), (1, [0]), (0, [1, 1, 1, 1])], fun σ w => dP (slotOf σ 0) fun st_ => dI .i64 (slotOf σ 3) fun base_ => dI .i64 (slotOf σ 6) fun top_ => sL1 st_ base_ top_ w)] 2000) [(0, [])] [(0, .pointer st)] w := by kernel_rfl
theorem rlog_Sound.B0_sound {R : ByteArray → World → Prop}  (st : Option Addr) (w : World) (h : rlog_Sound.B0 st w   R) :
    KW Try.prog 18 56 (rlog_Sound.RV R) ([(0, [])].map (toItem (Try.f18.body.getD .skip))) [(0, .pointer st)] w := by
  exact block_spec Try.func18 Try.mixed (stops_cons (fun σ w h => by
      obtain ⟨st_, e0, h⟩ := dP_elim h
      obtain ⟨base_, e1, h⟩ := dI_elim h
      obtain ⟨top_, e2, h⟩ := dI_elim h
      exact (rlog_Sound.L1_sound  st_ base_ top_ w h).weaken (Sub.cons (Sub.cons (Sub.cons (Sub.nil _) e2) e1) e0)) stops_nil) (Eq.mp (rlog_Sound.B0_eq st w   R (fun st_ base_ top_ w => rlog_Sound.L1 st_ base_ top_ w  R)) h)
theorem rlog_Sound.sound (st : Option Addr) (w : World) (R : ByteArray → World → Prop) (h : rlog_Sound.B0 st w R) : rlog_Sound.Call st w R := by
  have hc := calls_of_block (args := #[.pointer st]) Try.func18 (body := (Try.f18.body.getD .skip)) (by kernel_rfl) (by kernel_rfl) (args_slot _) (rlog_Sound.B0_sound st w h)
  exact hc.mono fun e w' he => by
    obtain ⟨v, rfl, hv⟩ := he
    exact rlog_Sound.RV_elim hv
def rlog_Open.B1 (l : Nat) (t58 : Bool) (w : World) (N1 : Nat → World → Prop)  (R : Option Addr → World → Prop) : Prop :=
  Bm t58 (
    LdI .i64 ⟨l, 6, none⟩ w fun x62 =>
    Sts [.int .i64 (IntKind.i64.wrap (x62 + (1 : Int)))] ⟨l, 6, none⟩ 0 w fun w1 =>
    N1 l w1) (
    rlog_Log_sweep.Call (some ⟨l, 0, none⟩) w fun w2 =>
    R (some ⟨l, 0, none⟩) w2)
theorem rlog_Open.B1_eq (l : Nat) (t58 : Bool) (w : World) (N1 : Nat → World → Prop)  (R : Option Addr → World → Prop)  :
    (
  Bm t58 (
    LdI .i64 ⟨l, 6, none⟩ w fun x62 =>
    Sts [.int .i64 (IntKind.i64.wrap (x62 + (1 : Int)))] ⟨l, 6, none⟩ 0 w fun w1 =>
    N1 l w1) (
    rlog_Log_sweep.Call (some ⟨l, 0, none⟩) w fun w2 =>
    R (some ⟨l, 0, none⟩) w2)) = kstep Try.prog 69 Try.f19.results.toList (Try.f19.body.getD .skip) (rlog_Open.RV R) (kvc Try.prog 69 Try.f19.results.toList (Try.f19.body.getD .skip) (rlog_Open.RV R) [([(0, [1, 1, 1, 1, 1, 0, 0, 0]), (2, [1, 1, 1, 1, 1, 0, 0, 0]), (1, [0]), (0, [1, 1, 1, 1, 1, 1])], fun σ w => dK (slotOf σ 3) fun l_ => N1 l_ w)] 2000) [(0, [1, 1, 1, 1, 1, 0, 0, 0, 0, 1]), (0, [1, 1, 1, 1, 1, 0, 0, 0, 1]), (2, [1, 1, 1, 1, 1, 0, 0, 0]), (1, [0]), (0, [1, 1, 1, 1, 1, 1])] [(3, .pointer (some ⟨l, 0, none⟩)), (58, .bool t58)] w := by kernel_rfl
theorem rlog_Open.B1_sound {R : Option Addr → World → Prop} {N1 : Nat → World → Prop} (hN1 : ∀ l w, N1 l w → KW Try.prog 19 69 (rlog_Open.RV R) ([(0, [1, 1, 1, 1, 1, 0, 0, 0]), (2, [1, 1, 1, 1, 1, 0, 0, 0]), (1, [0]), (0, [1, 1, 1, 1, 1, 1])].map (toItem (Try.f19.body.getD .skip))) [(3, .pointer (some ⟨l, 0, none⟩))] w) (l : Nat) (t58 : Bool) (w : World) (h : rlog_Open.B1 l t58 w N1  R) :
    KW Try.prog 19 69 (rlog_Open.RV R) ([(0, [1, 1, 1, 1, 1, 0, 0, 0, 0, 1]), (0, [1, 1, 1, 1, 1, 0, 0, 0, 1]), (2, [1, 1, 1, 1, 1, 0, 0, 0]), (1, [0]), (0, [1, 1, 1, 1, 1, 1])].map (toItem (Try.f19.body.getD .skip))) [(3, .pointer (some ⟨l, 0, none⟩)), (58, .bool t58)] w := by
  exact block_spec Try.func19 Try.mixed (stops_cons (fun σ w h => by
      obtain ⟨l_, e0, h⟩ := dK_elim h
      exact (hN1 l_ w h).weaken (Sub.cons (Sub.nil _) e0)) stops_nil) (Eq.mp (rlog_Open.B1_eq l t58 w N1  R ) h)
def rlog_Open.L1b (l : Nat) (w : World)  (N1 : Nat → World → Prop) (R : Option Addr → World → Prop) : Prop :=
  LdI .i64 ⟨l, 6, none⟩ w.drew fun x43 =>
  LdI .i64 ⟨l, 3, none⟩ w.drew fun x47 =>
  Bm (decide ((IntKind.i64.wrap (x43 - x47)) < (6 : Int))) (
    LdI .i64 ⟨l, 6, none⟩ w.drew fun x55 =>
    rlog_Log_load.Call (some ⟨l, 0, none⟩) (IntKind.i64.wrap (x55 + (1 : Int))) w.drew fun r57 w1 =>
    rlog_Open.B1 l r57 w1 N1 R) (
    rlog_Open.B1 l false w.drew N1 R)
theorem rlog_Open.L1b_eq (l : Nat) (w : World)  (N1 : Nat → World → Prop) (R : Option Addr → World → Prop) (sB1 : Nat → Bool → World → Prop) :
    (
  LdI .i64 ⟨l, 6, none⟩ w.drew fun x43 =>
  LdI .i64 ⟨l, 3, none⟩ w.drew fun x47 =>
  Bm (decide ((IntKind.i64.wrap (x43 - x47)) < (6 : Int))) (
    LdI .i64 ⟨l, 6, none⟩ w.drew fun x55 =>
    rlog_Log_load.Call (some ⟨l, 0, none⟩) (IntKind.i64.wrap (x55 + (1 : Int))) w.drew fun r57 w1 =>
    sB1 l r57 w1) (
    sB1 l false w.drew)) = kstep Try.prog 69 Try.f19.results.toList (Try.f19.body.getD .skip) (rlog_Open.RV R) (kvc Try.prog 69 Try.f19.results.toList (Try.f19.body.getD .skip) (rlog_Open.RV R) [([(0, [1, 1, 1, 1, 1, 0, 0, 0, 0, 1]), (0, [1, 1, 1, 1, 1, 0, 0, 0, 1]), (2, [1, 1, 1, 1, 1, 0, 0, 0]), (1, [0]), (0, [1, 1, 1, 1, 1, 1])], fun σ w => dK (slotOf σ 3) fun l_ => dB (slotOf σ 58) fun t58_ => sB1 l_ t58_ w)] 2000) [(0, [1, 1, 1, 1, 1, 0, 0, 0]), (2, [1, 1, 1, 1, 1, 0, 0, 0]), (1, [0]), (0, [1, 1, 1, 1, 1, 1])] [(3, .pointer (some ⟨l, 0, none⟩))] w := by kernel_rfl
theorem rlog_Open.L1b_sound {R : Option Addr → World → Prop} {N1 : Nat → World → Prop} (hN1 : ∀ l w, N1 l w → KW Try.prog 19 69 (rlog_Open.RV R) ([(0, [1, 1, 1, 1, 1, 0, 0, 0]), (2, [1, 1, 1, 1, 1, 0, 0, 0]), (1, [0]), (0, [1, 1, 1, 1, 1, 1])].map (toItem (Try.f19.body.getD .skip))) [(3, .pointer (some ⟨l, 0, none⟩))] w) (l : Nat) (w : World) (h : rlog_Open.L1b l w  N1 R) :
    KW Try.prog 19 69 (rlog_Open.RV R) ([(0, [1, 1, 1, 1, 1, 0, 0, 0]), (2, [1, 1, 1, 1, 1, 0, 0, 0]), (1, [0]), (0, [1, 1, 1, 1, 1, 1])].map (toItem (Try.f19.body.getD .skip))) [(3, .pointer (some ⟨l, 0, none⟩))] w := by
  exact block_spec Try.func19 Try.mixed (stops_cons (fun σ w h => by
      obtain ⟨l_, e0, h⟩ := dK_elim h
      obtain ⟨t58_, e1, h⟩ := dB_elim h
      exact (rlog_Open.B1_sound hN1 l_ t58_ w h).weaken (Sub.cons (Sub.cons (Sub.nil _) e1) e0)) stops_nil) (Eq.mp (rlog_Open.L1b_eq l w  N1 R (fun l_ t58_ w => rlog_Open.B1 l_ t58_ w N1 R)) h)
def rlog_Open.L1 (l : Nat) (w : World)  (R : Option Addr → World → Prop) : Prop :=
  ∃ (I : Nat → Nat → World → Prop) (m : Nat), I m l w ∧ ∀ m l w, I m l w → rlog_Open.L1b l w  (fun l' w' => ∃ m', m' < m ∧ I m' l' w') R
theorem rlog_Open.L1_sound {R : Option Addr → World → Prop}  (l : Nat) (w : World) (h : rlog_Open.L1 l w  R) :
    KW Try.prog 19 69 (rlog_Open.RV R) ([(0, [1, 1, 1, 1, 1, 0, 0, 0]), (2, [1, 1, 1, 1, 1, 0, 0, 0]), (1, [0]), (0, [1, 1, 1, 1, 1, 1])].map (toItem (Try.f19.body.getD .skip))) [(3, .pointer (some ⟨l, 0, none⟩))] w := by
  obtain ⟨I, m, hBase, hr⟩ := h
  refine KW.loop (fun m σ w => ∃ (l : Nat), σ = [(3, .pointer (some ⟨l, 0, none⟩))] ∧ I m l w) ?_ m _ w ⟨l, rfl, hBase⟩
  rintro m ih σ w ⟨l, rfl, hI⟩
  exact rlog_Open.L1b_sound  (N1 := fun l' w' => ∃ m', m' < m ∧ I m' l' w') (fun l' w' hx => by obtain ⟨m', hlt, hI'⟩ := hx; exact ih m' hlt _ w' ⟨l', rfl, hI'⟩) l w (hr m l w hI)
def rlog_Open.B0 (st : Option Addr) (w : World)   (R : Option Addr → World → Prop) : Prop :=
  New (.cells #[.pointer st, .int .i64 (0 : Int), .int .i64 (0 : Int), .int .i64 (0 : Int), .int .i64 (0 : Int), .string (ByteArray.mk #[]), .int .i64 (0 : Int), .int .i64 (0 : Int), .int .i64 (0 : Int), .int .i64 (0 : Int), .int .i64 (0 : Int), .int .i64 (0 : Int), .int .i64 (0 : Int), .string (ByteArray.mk #[]), .string (ByteArray.mk #[]), .string (ByteArray.mk #[]), .string (ByteArray.mk #[]), .string (ByteArray.mk #[]), .string (ByteArray.mk #[])] 80) w fun b6 w1 =>
  store_Store_Meta.Call st w1 fun r11_0 r11_1 w2 =>
  Sts [.int .i64 r11_0] ⟨b6, 1, none⟩ 0 w2 fun w3 =>
  Sts [.int .i64 r11_1] ⟨b6, 2, none⟩ 0 w3 fun w4 =>
  store_Store_Snap.Call st w4 fun r23_0 r23_1 r23_2 w5 =>
  Sts [.int .i64 r23_0] ⟨b6, 3, none⟩ 0 w5 fun w6 =>
  Sts [.int .i64 r23_1] ⟨b6, 4, none⟩ 0 w6 fun w7 =>
  Sts [.string r23_2] ⟨b6, 5, none⟩ 0 w7 fun w8 =>
  LdI .i64 ⟨b6, 3, none⟩ w8 fun x37 =>
  Sts [.int .i64 x37] ⟨b6, 6, none⟩ 0 w8 fun w9 =>
  rlog_Open.L1 b6 w9  R
theorem rlog_Open.B0_eq (st : Option Addr) (w : World)   (R : Option Addr → World → Prop) (sL1 : Nat → World → Prop) :
    (
  New (.cells #[.pointer st, .int .i64 (0 : Int), .int .i64 (0 : Int), .int .i64 (0 : Int), .int .i64 (0 : Int), .string (ByteArray.mk #[]), .int .i64 (0 : Int), .int .i64 (0 : Int), .int .i64 (0 : Int), .int .i64 (0 : Int), .int .i64 (0 : Int), .int .i64 (0 : Int), .int .i64 (0 : Int), .string (ByteArray.mk #[]), .string (ByteArray.mk #[]), .string (ByteArray.mk #[]), .string (ByteArray.mk #[]), .string (ByteArray.mk #[]), .string (ByteArray.mk #[])] 80) w fun b6 w1 =>
  store_Store_Meta.Call st w1 fun r11_0 r11_1 w2 =>
  Sts [.int .i64 r11_0] ⟨b6, 1, none⟩ 0 w2 fun w3 =>
  Sts [.int .i64 r11_1] ⟨b6, 2, none⟩ 0 w3 fun w4 =>
  store_Store_Snap.Call st w4 fun r23_0 r23_1 r23_2 w5 =>
  Sts [.int .i64 r23_0] ⟨b6, 3, none⟩ 0 w5 fun w6 =>
  Sts [.int .i64 r23_1] ⟨b6, 4, none⟩ 0 w6 fun w7 =>
  Sts [.string r23_2] ⟨b6, 5, none⟩ 0 w7 fun w8 =>
  LdI .i64 ⟨b6, 3, none⟩ w8 fun x37 =>
  Sts [.int .i64 x37] ⟨b6, 6, none⟩ 0 w8 fun w9 =>
  sL1 b6 w9) = kstep Try.prog 69 Try.f19.results.toList (Try.f19.body.getD .skip) (rlog_Open.RV R) (kvc Try.prog 69 Try.f19.results.toList (Try.f19.body.getD .skip) (rlog_Open.RV R) [([(0, [1, 1, 1, 1, 1, 0, 0, 0]), (2, [1, 1, 1, 1, 1, 0, 0, 0]), (1, [0]), (0, [1, 1, 1, 1, 1, 1])], fun σ w => dK (slotOf σ 3) fun l_ => sL1 l_ w)] 2000) [(0, [])] [(0, .pointer st)] w := by kernel_rfl
theorem rlog_Open.B0_sound {R : Option Addr → World → Prop}  (st : Option Addr) (w : World) (h : rlog_Open.B0 st w   R) :
    KW Try.prog 19 69 (rlog_Open.RV R) ([(0, [])].map (toItem (Try.f19.body.getD .skip))) [(0, .pointer st)] w := by
  exact block_spec Try.func19 Try.mixed (stops_cons (fun σ w h => by
      obtain ⟨l_, e0, h⟩ := dK_elim h
      exact (rlog_Open.L1_sound  l_ w h).weaken (Sub.cons (Sub.nil _) e0)) stops_nil) (Eq.mp (rlog_Open.B0_eq st w   R (fun l_ w => rlog_Open.L1 l_ w  R)) h)
theorem rlog_Open.sound (st : Option Addr) (w : World) (R : Option Addr → World → Prop) (h : rlog_Open.B0 st w R) : rlog_Open.Call st w R := by
  have hc := calls_of_block (args := #[.pointer st]) Try.func19 (body := (Try.f19.body.getD .skip)) (by kernel_rfl) (by kernel_rfl) (args_slot _) (rlog_Open.B0_sound st w h)
  exact hc.mono fun e w' he => by
    obtain ⟨v, rfl, hv⟩ := he
    exact rlog_Open.RV_elim hv
def rlog_Log_Check.B5 (l : Option Addr) (s : Int) (t155 : Bool) (w : World) (N1 : Option Addr → Int → World → Prop)  (R : ByteArray → World → Prop) : Prop :=
  Bm t155 (
    R (ByteArray.mk #[97, 32, 115, 108, 111, 116, 32, 100, 111, 101, 115, 32, 110, 111, 116, 32, 104, 111, 108, 100, 32, 116, 104, 101, 32, 114, 105, 110, 103, 39, 115, 32, 101, 110, 116, 114, 121]) w) (
    N1 l (IntKind.i64.wrap (s + (1 : Int))) w)
theorem rlog_Log_Check.B5_eq (l : Option Addr) (s : Int) (t155 : Bool) (w : World) (N1 : Option Addr → Int → World → Prop)  (R : ByteArray → World → Prop)  :
    (
  Bm t155 (
    R (ByteArray.mk #[97, 32, 115, 108, 111, 116, 32, 100, 111, 101, 115, 32, 110, 111, 116, 32, 104, 111, 108, 100, 32, 116, 104, 101, 32, 114, 105, 110, 103, 39, 115, 32, 101, 110, 116, 114, 121]) w) (
    N1 l (IntKind.i64.wrap (s + (1 : Int))) w)) = kstep Try.prog 156 Try.f20.results.toList (Try.f20.body.getD .skip) (rlog_Log_Check.RV R) (kvc Try.prog 156 Try.f20.results.toList (Try.f20.body.getD .skip) (rlog_Log_Check.RV R) [([(0, [1, 1, 1, 1, 1, 1, 0, 1, 0, 0]), (2, [1, 1, 1, 1, 1, 1, 0, 1, 0, 0]), (1, [0]), (0, [1, 1, 1, 1, 1, 1, 1])], fun σ w => dP (slotOf σ 0) fun l_ => dI .i64 (slotOf σ 8) fun s_ => N1 l_ s_ w)] 2000) [(0, [1, 1, 1, 1, 1, 1, 0, 1, 0, 0, 1, 0, 0, 1, 1, 1, 1]), (1, [1]), (0, [1, 1, 1, 1, 1, 1, 0, 1, 0, 0, 1, 1]), (2, [1, 1, 1, 1, 1, 1, 0, 1, 0, 0]), (1, [0]), (0, [1, 1, 1, 1, 1, 1, 1])] [(0, .pointer l), (8, .int .i64 s), (155, .bool t155)] w := by kernel_rfl
theorem rlog_Log_Check.B5_sound {R : ByteArray → World → Prop} {N1 : Option Addr → Int → World → Prop} (hN1 : ∀ l s w, N1 l s w → KW Try.prog 20 156 (rlog_Log_Check.RV R) ([(0, [1, 1, 1, 1, 1, 1, 0, 1, 0, 0]), (2, [1, 1, 1, 1, 1, 1, 0, 1, 0, 0]), (1, [0]), (0, [1, 1, 1, 1, 1, 1, 1])].map (toItem (Try.f20.body.getD .skip))) [(0, .pointer l), (8, .int .i64 s)] w) (l : Option Addr) (s : Int) (t155 : Bool) (w : World) (h : rlog_Log_Check.B5 l s t155 w N1  R) :
    KW Try.prog 20 156 (rlog_Log_Check.RV R) ([(0, [1, 1, 1, 1, 1, 1, 0, 1, 0, 0, 1, 0, 0, 1, 1, 1, 1]), (1, [1]), (0, [1, 1, 1, 1, 1, 1, 0, 1, 0, 0, 1, 1]), (2, [1, 1, 1, 1, 1, 1, 0, 1, 0, 0]), (1, [0]), (0, [1, 1, 1, 1, 1, 1, 1])].map (toItem (Try.f20.body.getD .skip))) [(0, .pointer l), (8, .int .i64 s), (155, .bool t155)] w := by
  exact block_spec Try.func20 Try.mixed (stops_cons (fun σ w h => by
      obtain ⟨l_, e0, h⟩ := dP_elim h
      obtain ⟨s_, e1, h⟩ := dI_elim h
      exact (hN1 l_ s_ w h).weaken (Sub.cons (Sub.cons (Sub.nil _) e1) e0)) stops_nil) (Eq.mp (rlog_Log_Check.B5_eq l s t155 w N1  R ) h)
def rlog_Log_Check.B4 (l : Option Addr) (s : Int) (r : Nat) (err i : Int) (t121 : Bool) (w : World) (N1 : Option Addr → Int → World → Prop)  (R : ByteArray → World → Prop) : Prop :=
  Bm t121 (
    R (ByteArray.mk #[114, 117, 98, 98, 105, 115, 104, 32, 105, 110, 32, 97, 32, 115, 108, 111, 116, 32, 119, 104, 101, 114, 101, 32, 110, 111, 32, 101, 110, 116, 114, 121, 32, 108, 105, 118, 101, 115]) w) (
    Bm (i != (0 : Int)) (
      Bm (err != (0 : Int)) (
        rlog_Log_Check.B5 l s true w.drew N1 R) (
        LdI .i64 ⟨r, 0, none⟩ w.drew fun x129 =>
        Bm (x129 != i) (
          rlog_Log_Check.B5 l s true w.drew N1 R) (
          LdI .i64 ⟨r, 1, none⟩ w.drew fun x135 =>
          Pn l fun a =>
          (0 ≤ s ∧ s < ((6 : Nat) : Int)) ∧
          LdI .i64 (Addr.add (a.add 7) (s.toNat * 1)) w.drew fun x141 =>
          Bm (x135 != x141) (
            rlog_Log_Check.B5 l s true w.drew N1 R) (
            LdS ⟨r, 2, none⟩ w.drew fun x146 =>
            Pn l fun a_1 =>
            (0 ≤ s ∧ s < ((6 : Nat) : Int)) ∧
            LdS (Addr.add (a_1.add 13) (s.toNat * 1)) w.drew fun x152 =>
            rlog_Log_Check.B5 l s (!(x146.toList == x152.toList)) w.drew N1 R)))) (
      rlog_Log_Check.B5 l s false w.drew N1 R))
theorem rlog_Log_Check.B4_eq (l : Option Addr) (s : Int) (r : Nat) (err i : Int) (t121 : Bool) (w : World) (N1 : Option Addr → Int → World → Prop)  (R : ByteArray → World → Prop) (sB5 : Option Addr → Int → Bool → World → Prop) :
    (
  Bm t121 (
    R (ByteArray.mk #[114, 117, 98, 98, 105, 115, 104, 32, 105, 110, 32, 97, 32, 115, 108, 111, 116, 32, 119, 104, 101, 114, 101, 32, 110, 111, 32, 101, 110, 116, 114, 121, 32, 108, 105, 118, 101, 115]) w) (
    Bm (i != (0 : Int)) (
      Bm (err != (0 : Int)) (
        sB5 l s true w.drew) (
        LdI .i64 ⟨r, 0, none⟩ w.drew fun x129 =>
        Bm (x129 != i) (
          sB5 l s true w.drew) (
          LdI .i64 ⟨r, 1, none⟩ w.drew fun x135 =>
          Pn l fun a =>
          (0 ≤ s ∧ s < ((6 : Nat) : Int)) ∧
          LdI .i64 (Addr.add (a.add 7) (s.toNat * 1)) w.drew fun x141 =>
          Bm (x135 != x141) (
            sB5 l s true w.drew) (
            LdS ⟨r, 2, none⟩ w.drew fun x146 =>
            Pn l fun a_1 =>
            (0 ≤ s ∧ s < ((6 : Nat) : Int)) ∧
            LdS (Addr.add (a_1.add 13) (s.toNat * 1)) w.drew fun x152 =>
            sB5 l s (!(x146.toList == x152.toList)) w.drew)))) (
      sB5 l s false w.drew))) = kstep Try.prog 156 Try.f20.results.toList (Try.f20.body.getD .skip) (rlog_Log_Check.RV R) (kvc Try.prog 156 Try.f20.results.toList (Try.f20.body.getD .skip) (rlog_Log_Check.RV R) [([(0, [1, 1, 1, 1, 1, 1, 0, 1, 0, 0, 1, 0, 0, 1, 1, 1, 1]), (1, [1]), (0, [1, 1, 1, 1, 1, 1, 0, 1, 0, 0, 1, 1]), (2, [1, 1, 1, 1, 1, 1, 0, 1, 0, 0]), (1, [0]), (0, [1, 1, 1, 1, 1, 1, 1])], fun σ w => dP (slotOf σ 0) fun l_ => dI .i64 (slotOf σ 8) fun s_ => dB (slotOf σ 155) fun t155_ => sB5 l_ s_ t155_ w)] 2000) [(0, [1, 1, 1, 1, 1, 1, 0, 1, 0, 0, 1, 0, 0, 1, 1, 0, 1]), (0, [1, 1, 1, 1, 1, 1, 0, 1, 0, 0, 1, 0, 0, 1, 1, 1]), (1, [1]), (0, [1, 1, 1, 1, 1, 1, 0, 1, 0, 0, 1, 1]), (2, [1, 1, 1, 1, 1, 1, 0, 1, 0, 0]), (1, [0]), (0, [1, 1, 1, 1, 1, 1, 1])] [(0, .pointer l), (8, .int .i64 s), (9, .pointer (some ⟨r, 0, none⟩)), (10, .int .i64 err), (11, .int .i64 i), (121, .bool t121)] w := by kernel_rfl
theorem rlog_Log_Check.B4_sound {R : ByteArray → World → Prop} {N1 : Option Addr → Int → World → Prop} (hN1 : ∀ l s w, N1 l s w → KW Try.prog 20 156 (rlog_Log_Check.RV R) ([(0, [1, 1, 1, 1, 1, 1, 0, 1, 0, 0]), (2, [1, 1, 1, 1, 1, 1, 0, 1, 0, 0]), (1, [0]), (0, [1, 1, 1, 1, 1, 1, 1])].map (toItem (Try.f20.body.getD .skip))) [(0, .pointer l), (8, .int .i64 s)] w) (l : Option Addr) (s : Int) (r : Nat) (err i : Int) (t121 : Bool) (w : World) (h : rlog_Log_Check.B4 l s r err i t121 w N1  R) :
    KW Try.prog 20 156 (rlog_Log_Check.RV R) ([(0, [1, 1, 1, 1, 1, 1, 0, 1, 0, 0, 1, 0, 0, 1, 1, 0, 1]), (0, [1, 1, 1, 1, 1, 1, 0, 1, 0, 0, 1, 0, 0, 1, 1, 1]), (1, [1]), (0, [1, 1, 1, 1, 1, 1, 0, 1, 0, 0, 1, 1]), (2, [1, 1, 1, 1, 1, 1, 0, 1, 0, 0]), (1, [0]), (0, [1, 1, 1, 1, 1, 1, 1])].map (toItem (Try.f20.body.getD .skip))) [(0, .pointer l), (8, .int .i64 s), (9, .pointer (some ⟨r, 0, none⟩)), (10, .int .i64 err), (11, .int .i64 i), (121, .bool t121)] w := by
  exact block_spec Try.func20 Try.mixed (stops_cons (fun σ w h => by
      obtain ⟨l_, e0, h⟩ := dP_elim h
      obtain ⟨s_, e1, h⟩ := dI_elim h
      obtain ⟨t155_, e2, h⟩ := dB_elim h
      exact (rlog_Log_Check.B5_sound hN1 l_ s_ t155_ w h).weaken (Sub.cons (Sub.cons (Sub.cons (Sub.nil _) e2) e1) e0)) stops_nil) (Eq.mp (rlog_Log_Check.B4_eq l s r err i t121 w N1  R (fun l_ s_ t155_ w => rlog_Log_Check.B5 l_ s_ t155_ w N1 R)) h)
def rlog_Log_Check.L1b (l : Option Addr) (s : Int) (w : World)  (N1 : Option Addr → Int → World → Prop) (R : ByteArray → World → Prop) : Prop :=
  Bm (decide (s < (6 : Int))) (
    Pn l fun a =>
    LdP a w fun x108 =>
    store_Store_Rec.Call x108 s w fun r110_0_0 r110_0_1 r110_0_2 r110_1 w1 =>
    New (.cells #[.int .i64 (0 : Int), .int .i64 (0 : Int), .string (ByteArray.mk #[])] 72) w1 fun r_ w2 =>
    Sts [.int .i64 r110_0_0, .int .i64 r110_0_1, .string r110_0_2] ⟨r_, 0, none⟩ 0 w2 fun w3 =>
    rlog_Log_indexIn.Call l s w3 fun r115 w4 =>
    Bm (r115 == (0 : Int)) (
      rlog_Log_Check.B4 l s r_ r110_1 r115 (r110_1 != (2 : Int)) w4 N1 R) (
      rlog_Log_Check.B4 l s r_ r110_1 r115 false w4 N1 R)) (
    R (ByteArray.mk #[]) w)
theorem rlog_Log_Check.L1b_eq (l : Option Addr) (s : Int) (w : World)  (N1 : Option Addr → Int → World → Prop) (R : ByteArray → World → Prop) (sB4 : Option Addr → Int → Nat → Int → Int → Bool → World → Prop) :
    (
  Bm (decide (s < (6 : Int))) (
    Pn l fun a =>
    LdP a w fun x108 =>
    store_Store_Rec.Call x108 s w fun r110_0_0 r110_0_1 r110_0_2 r110_1 w1 =>
    New (.cells #[.int .i64 (0 : Int), .int .i64 (0 : Int), .string (ByteArray.mk #[])] 72) w1 fun r_ w2 =>
    Sts [.int .i64 r110_0_0, .int .i64 r110_0_1, .string r110_0_2] ⟨r_, 0, none⟩ 0 w2 fun w3 =>
    rlog_Log_indexIn.Call l s w3 fun r115 w4 =>
    Bm (r115 == (0 : Int)) (
      sB4 l s r_ r110_1 r115 (r110_1 != (2 : Int)) w4) (
      sB4 l s r_ r110_1 r115 false w4)) (
    R (ByteArray.mk #[]) w)) = kstep Try.prog 156 Try.f20.results.toList (Try.f20.body.getD .skip) (rlog_Log_Check.RV R) (kvc Try.prog 156 Try.f20.results.toList (Try.f20.body.getD .skip) (rlog_Log_Check.RV R) [([(0, [1, 1, 1, 1, 1, 1, 0, 1, 0, 0, 1, 0, 0, 1, 1, 0, 1]), (0, [1, 1, 1, 1, 1, 1, 0, 1, 0, 0, 1, 0, 0, 1, 1, 1]), (1, [1]), (0, [1, 1, 1, 1, 1, 1, 0, 1, 0, 0, 1, 1]), (2, [1, 1, 1, 1, 1, 1, 0, 1, 0, 0]), (1, [0]), (0, [1, 1, 1, 1, 1, 1, 1])], fun σ w => dP (slotOf σ 0) fun l_ => dI .i64 (slotOf σ 8) fun s_ => dK (slotOf σ 9) fun r_ => dI .i64 (slotOf σ 10) fun err_ => dI .i64 (slotOf σ 11) fun i_ => dB (slotOf σ 121) fun t121_ => sB4 l_ s_ r_ err_ i_ t121_ w)] 2000) [(0, [1, 1, 1, 1, 1, 1, 0, 1, 0, 0]), (2, [1, 1, 1, 1, 1, 1, 0, 1, 0, 0]), (1, [0]), (0, [1, 1, 1, 1, 1, 1, 1])] [(0, .pointer l), (8, .int .i64 s)] w := by kernel_rfl
theorem rlog_Log_Check.L1b_sound {R : ByteArray → World → Prop} {N1 : Option Addr → Int → World → Prop} (hN1 : ∀ l s w, N1 l s w → KW Try.prog 20 156 (rlog_Log_Check.RV R) ([(0, [1, 1, 1, 1, 1, 1, 0, 1, 0, 0]), (2, [1, 1, 1, 1, 1, 1, 0, 1, 0, 0]), (1, [0]), (0, [1, 1, 1, 1, 1, 1, 1])].map (toItem (Try.f20.body.getD .skip))) [(0, .pointer l), (8, .int .i64 s)] w) (l : Option Addr) (s : Int) (w : World) (h : rlog_Log_Check.L1b l s w  N1 R) :
    KW Try.prog 20 156 (rlog_Log_Check.RV R) ([(0, [1, 1, 1, 1, 1, 1, 0, 1, 0, 0]), (2, [1, 1, 1, 1, 1, 1, 0, 1, 0, 0]), (1, [0]), (0, [1, 1, 1, 1, 1, 1, 1])].map (toItem (Try.f20.body.getD .skip))) [(0, .pointer l), (8, .int .i64 s)] w := by
  exact block_spec Try.func20 Try.mixed (stops_cons (fun σ w h => by
      obtain ⟨l_, e0, h⟩ := dP_elim h
      obtain ⟨s_, e1, h⟩ := dI_elim h
      obtain ⟨r_, e2, h⟩ := dK_elim h
      obtain ⟨err_, e3, h⟩ := dI_elim h
      obtain ⟨i_, e4, h⟩ := dI_elim h
      obtain ⟨t121_, e5, h⟩ := dB_elim h
      exact (rlog_Log_Check.B4_sound hN1 l_ s_ r_ err_ i_ t121_ w h).weaken (Sub.cons (Sub.cons (Sub.cons (Sub.cons (Sub.cons (Sub.cons (Sub.nil _) e5) e4) e3) e2) e1) e0)) stops_nil) (Eq.mp (rlog_Log_Check.L1b_eq l s w  N1 R (fun l_ s_ r_ err_ i_ t121_ w => rlog_Log_Check.B4 l_ s_ r_ err_ i_ t121_ w N1 R)) h)
def rlog_Log_Check.L1 (l : Option Addr) (s : Int) (w : World)  (R : ByteArray → World → Prop) : Prop :=
  ∃ (I : Nat → Option Addr → Int → World → Prop) (m : Nat), I m l s w ∧ ∀ m l s w, I m l s w → rlog_Log_Check.L1b l s w  (fun l' s' w' => ∃ m', m' < m ∧ I m' l' s' w') R
theorem rlog_Log_Check.L1_sound {R : ByteArray → World → Prop}  (l : Option Addr) (s : Int) (w : World) (h : rlog_Log_Check.L1 l s w  R) :
    KW Try.prog 20 156 (rlog_Log_Check.RV R) ([(0, [1, 1, 1, 1, 1, 1, 0, 1, 0, 0]), (2, [1, 1, 1, 1, 1, 1, 0, 1, 0, 0]), (1, [0]), (0, [1, 1, 1, 1, 1, 1, 1])].map (toItem (Try.f20.body.getD .skip))) [(0, .pointer l), (8, .int .i64 s)] w := by
  obtain ⟨I, m, hBase, hr⟩ := h
  refine KW.loop (fun m σ w => ∃ (l : Option Addr) (s : Int), σ = [(0, .pointer l), (8, .int .i64 s)] ∧ I m l s w) ?_ m _ w ⟨l, s, rfl, hBase⟩
  rintro m ih σ w ⟨l, s, rfl, hI⟩
  exact rlog_Log_Check.L1b_sound  (N1 := fun l' s' w' => ∃ m', m' < m ∧ I m' l' s' w') (fun l' s' w' hx => by obtain ⟨m', hlt, hI'⟩ := hx; exact ih m' hlt _ w' ⟨l', s', rfl, hI'⟩) l s w (hr m l s w hI)
def rlog_Log_Check.B3 (l : Option Addr) (t99 : Bool) (w : World)   (R : ByteArray → World → Prop) : Prop :=
  Bm t99 (
    R (ByteArray.mk #[98, 97, 115, 101, 32, 97, 110, 100, 32, 108, 97, 115, 116, 32, 97, 114, 101, 32, 111, 117, 116, 32, 111, 102, 32, 98, 111, 117, 110, 100, 115]) w) (
    rlog_Log_Check.L1 l (0 : Int) w  R)
theorem rlog_Log_Check.B3_eq (l : Option Addr) (t99 : Bool) (w : World)   (R : ByteArray → World → Prop) (sL1 : Option Addr → Int → World → Prop) :
    (
  Bm t99 (
    R (ByteArray.mk #[98, 97, 115, 101, 32, 97, 110, 100, 32, 108, 97, 115, 116, 32, 97, 114, 101, 32, 111, 117, 116, 32, 111, 102, 32, 98, 111, 117, 110, 100, 115]) w) (
    sL1 l (0 : Int) w)) = kstep Try.prog 156 Try.f20.results.toList (Try.f20.body.getD .skip) (rlog_Log_Check.RV R) (kvc Try.prog 156 Try.f20.results.toList (Try.f20.body.getD .skip) (rlog_Log_Check.RV R) [([(0, [1, 1, 1, 1, 1, 1, 0, 1, 0, 0]), (2, [1, 1, 1, 1, 1, 1, 0, 1, 0, 0]), (1, [0]), (0, [1, 1, 1, 1, 1, 1, 1])], fun σ w => dP (slotOf σ 0) fun l_ => dI .i64 (slotOf σ 8) fun s_ => sL1 l_ s_ w)] 2000) [(0, [1, 1, 1, 1, 1, 0, 1]), (0, [1, 1, 1, 1, 1, 1])] [(0, .pointer l), (99, .bool t99)] w := by kernel_rfl
theorem rlog_Log_Check.B3_sound {R : ByteArray → World → Prop}  (l : Option Addr) (t99 : Bool) (w : World) (h : rlog_Log_Check.B3 l t99 w   R) :
    KW Try.prog 20 156 (rlog_Log_Check.RV R) ([(0, [1, 1, 1, 1, 1, 0, 1]), (0, [1, 1, 1, 1, 1, 1])].map (toItem (Try.f20.body.getD .skip))) [(0, .pointer l), (99, .bool t99)] w := by
  exact block_spec Try.func20 Try.mixed (stops_cons (fun σ w h => by
      obtain ⟨l_, e0, h⟩ := dP_elim h
      obtain ⟨s_, e1, h⟩ := dI_elim h
      exact (rlog_Log_Check.L1_sound  l_ s_ w h).weaken (Sub.cons (Sub.cons (Sub.nil _) e1) e0)) stops_nil) (Eq.mp (rlog_Log_Check.B3_eq l t99 w   R (fun l_ s_ w => rlog_Log_Check.L1 l_ s_ w  R)) h)
def rlog_Log_Check.B2 (l : Option Addr) (t64 : Bool) (w : World)   (R : ByteArray → World → Prop) : Prop :=
  Bm t64 (
    R (ByteArray.mk #[98, 97, 115, 101, 44, 32, 98, 97, 115, 101, 32, 116, 101, 114, 109, 32, 111, 114, 32, 115, 110, 97, 112, 115, 104, 111, 116, 32, 105, 115, 32, 110, 111, 116, 32, 116, 104, 101, 32, 115, 116, 111, 114, 101, 39, 115]) w) (
    Pn l fun a =>
    LdI .i64 (a.add 3) w.drew fun x68 =>
    Bm (decide (x68 < (0 : Int))) (
      rlog_Log_Check.B3 l true w.drew  R) (
      Pn l fun a_1 =>
      LdI .i64 (a_1.add 6) w.drew fun x74 =>
      Pn l fun a_2 =>
      LdI .i64 (a_2.add 3) w.drew fun x78 =>
      Bm (decide (x74 < x78)) (
        rlog_Log_Check.B3 l true w.drew  R) (
        Pn l fun a_3 =>
        LdI .i64 (a_3.add 6) w.drew fun x85 =>
        Bm (decide (x85 > (72057594037927936 : Int))) (
          rlog_Log_Check.B3 l true w.drew  R) (
          Pn l fun a_4 =>
          LdI .i64 (a_4.add 6) w.drew fun x92 =>
          Pn l fun a_5 =>
          LdI .i64 (a_5.add 3) w.drew fun x96 =>
          rlog_Log_Check.B3 l (decide ((IntKind.i64.wrap (x92 - x96)) > (6 : Int))) w.drew  R))))
theorem rlog_Log_Check.B2_eq (l : Option Addr) (t64 : Bool) (w : World)   (R : ByteArray → World → Prop) (sB3 : Option Addr → Bool → World → Prop) :
    (
  Bm t64 (
    R (ByteArray.mk #[98, 97, 115, 101, 44, 32, 98, 97, 115, 101, 32, 116, 101, 114, 109, 32, 111, 114, 32, 115, 110, 97, 112, 115, 104, 111, 116, 32, 105, 115, 32, 110, 111, 116, 32, 116, 104, 101, 32, 115, 116, 111, 114, 101, 39, 115]) w) (
    Pn l fun a =>
    LdI .i64 (a.add 3) w.drew fun x68 =>
    Bm (decide (x68 < (0 : Int))) (
      sB3 l true w.drew) (
      Pn l fun a_1 =>
      LdI .i64 (a_1.add 6) w.drew fun x74 =>
      Pn l fun a_2 =>
      LdI .i64 (a_2.add 3) w.drew fun x78 =>
      Bm (decide (x74 < x78)) (
        sB3 l true w.drew) (
        Pn l fun a_3 =>
        LdI .i64 (a_3.add 6) w.drew fun x85 =>
        Bm (decide (x85 > (72057594037927936 : Int))) (
          sB3 l true w.drew) (
          Pn l fun a_4 =>
          LdI .i64 (a_4.add 6) w.drew fun x92 =>
          Pn l fun a_5 =>
          LdI .i64 (a_5.add 3) w.drew fun x96 =>
          sB3 l (decide ((IntKind.i64.wrap (x92 - x96)) > (6 : Int))) w.drew))))) = kstep Try.prog 156 Try.f20.results.toList (Try.f20.body.getD .skip) (rlog_Log_Check.RV R) (kvc Try.prog 156 Try.f20.results.toList (Try.f20.body.getD .skip) (rlog_Log_Check.RV R) [([(0, [1, 1, 1, 1, 1, 0, 1]), (0, [1, 1, 1, 1, 1, 1])], fun σ w => dP (slotOf σ 0) fun l_ => dB (slotOf σ 99) fun t99_ => sB3 l_ t99_ w)] 2000) [(0, [1, 1, 1, 1, 0, 1]), (0, [1, 1, 1, 1, 1])] [(0, .pointer l), (64, .bool t64)] w := by kernel_rfl
theorem rlog_Log_Check.B2_sound {R : ByteArray → World → Prop}  (l : Option Addr) (t64 : Bool) (w : World) (h : rlog_Log_Check.B2 l t64 w   R) :
    KW Try.prog 20 156 (rlog_Log_Check.RV R) ([(0, [1, 1, 1, 1, 0, 1]), (0, [1, 1, 1, 1, 1])].map (toItem (Try.f20.body.getD .skip))) [(0, .pointer l), (64, .bool t64)] w := by
  exact block_spec Try.func20 Try.mixed (stops_cons (fun σ w h => by
      obtain ⟨l_, e0, h⟩ := dP_elim h
      obtain ⟨t99_, e1, h⟩ := dB_elim h
      exact (rlog_Log_Check.B3_sound  l_ t99_ w h).weaken (Sub.cons (Sub.cons (Sub.nil _) e1) e0)) stops_nil) (Eq.mp (rlog_Log_Check.B2_eq l t64 w   R (fun l_ t99_ w => rlog_Log_Check.B3 l_ t99_ w  R)) h)
def rlog_Log_Check.B1 (l : Option Addr) (t33 : Bool) (w : World)   (R : ByteArray → World → Prop) : Prop :=
  Bm t33 (
    R (ByteArray.mk #[116, 101, 114, 109, 32, 111, 114, 32, 118, 111, 116, 101, 32, 105, 115, 32, 110, 111, 116, 32, 116, 104, 101, 32, 115, 116, 111, 114, 101, 39, 115]) w) (
    Pn l fun a =>
    LdP a w fun x38 =>
    store_Store_Snap.Call x38 w fun r39_0 r39_1 r39_2 w1 =>
    Pn l fun a_1 =>
    LdI .i64 (a_1.add 3) w1 fun x47 =>
    Bm (r39_0 != x47) (
      rlog_Log_Check.B2 l true w1  R) (
      Pn l fun a_2 =>
      LdI .i64 (a_2.add 4) w1 fun x54 =>
      Bm (r39_1 != x54) (
        rlog_Log_Check.B2 l true w1  R) (
        Pn l fun a_3 =>
        LdS (a_3.add 5) w1 fun x62 =>
        rlog_Log_Check.B2 l (!(r39_2.toList == x62.toList)) w1  R)))
theorem rlog_Log_Check.B1_eq (l : Option Addr) (t33 : Bool) (w : World)   (R : ByteArray → World → Prop) (sB2 : Option Addr → Bool → World → Prop) :
    (
  Bm t33 (
    R (ByteArray.mk #[116, 101, 114, 109, 32, 111, 114, 32, 118, 111, 116, 101, 32, 105, 115, 32, 110, 111, 116, 32, 116, 104, 101, 32, 115, 116, 111, 114, 101, 39, 115]) w) (
    Pn l fun a =>
    LdP a w fun x38 =>
    store_Store_Snap.Call x38 w fun r39_0 r39_1 r39_2 w1 =>
    Pn l fun a_1 =>
    LdI .i64 (a_1.add 3) w1 fun x47 =>
    Bm (r39_0 != x47) (
      sB2 l true w1) (
      Pn l fun a_2 =>
      LdI .i64 (a_2.add 4) w1 fun x54 =>
      Bm (r39_1 != x54) (
        sB2 l true w1) (
        Pn l fun a_3 =>
        LdS (a_3.add 5) w1 fun x62 =>
        sB2 l (!(r39_2.toList == x62.toList)) w1)))) = kstep Try.prog 156 Try.f20.results.toList (Try.f20.body.getD .skip) (rlog_Log_Check.RV R) (kvc Try.prog 156 Try.f20.results.toList (Try.f20.body.getD .skip) (rlog_Log_Check.RV R) [([(0, [1, 1, 1, 1, 0, 1]), (0, [1, 1, 1, 1, 1])], fun σ w => dP (slotOf σ 0) fun l_ => dB (slotOf σ 64) fun t64_ => sB2 l_ t64_ w)] 2000) [(0, [1, 1, 0, 1]), (0, [1, 1, 1])] [(0, .pointer l), (33, .bool t33)] w := by kernel_rfl
theorem rlog_Log_Check.B1_sound {R : ByteArray → World → Prop}  (l : Option Addr) (t33 : Bool) (w : World) (h : rlog_Log_Check.B1 l t33 w   R) :
    KW Try.prog 20 156 (rlog_Log_Check.RV R) ([(0, [1, 1, 0, 1]), (0, [1, 1, 1])].map (toItem (Try.f20.body.getD .skip))) [(0, .pointer l), (33, .bool t33)] w := by
  exact block_spec Try.func20 Try.mixed (stops_cons (fun σ w h => by
      obtain ⟨l_, e0, h⟩ := dP_elim h
      obtain ⟨t64_, e1, h⟩ := dB_elim h
      exact (rlog_Log_Check.B2_sound  l_ t64_ w h).weaken (Sub.cons (Sub.cons (Sub.nil _) e1) e0)) stops_nil) (Eq.mp (rlog_Log_Check.B1_eq l t33 w   R (fun l_ t64_ w => rlog_Log_Check.B2 l_ t64_ w  R)) h)
def rlog_Log_Check.B0 (l : Option Addr) (w : World)   (R : ByteArray → World → Prop) : Prop :=
  Pn l fun a =>
  LdP a w fun x16 =>
  store_Store_Meta.Call x16 w fun r17_0 r17_1 w1 =>
  Pn l fun a_1 =>
  LdI .i64 (a_1.add 1) w1 fun x24 =>
  Bm (r17_0 != x24) (
    rlog_Log_Check.B1 l true w1  R) (
    Pn l fun a_2 =>
    LdI .i64 (a_2.add 2) w1 fun x31 =>
    rlog_Log_Check.B1 l (r17_1 != x31) w1  R)
theorem rlog_Log_Check.B0_eq (l : Option Addr) (w : World)   (R : ByteArray → World → Prop) (sB1 : Option Addr → Bool → World → Prop) :
    (
  Pn l fun a =>
  LdP a w fun x16 =>
  store_Store_Meta.Call x16 w fun r17_0 r17_1 w1 =>
  Pn l fun a_1 =>
  LdI .i64 (a_1.add 1) w1 fun x24 =>
  Bm (r17_0 != x24) (
    sB1 l true w1) (
    Pn l fun a_2 =>
    LdI .i64 (a_2.add 2) w1 fun x31 =>
    sB1 l (r17_1 != x31) w1)) = kstep Try.prog 156 Try.f20.results.toList (Try.f20.body.getD .skip) (rlog_Log_Check.RV R) (kvc Try.prog 156 Try.f20.results.toList (Try.f20.body.getD .skip) (rlog_Log_Check.RV R) [([(0, [1, 1, 0, 1]), (0, [1, 1, 1])], fun σ w => dP (slotOf σ 0) fun l_ => dB (slotOf σ 33) fun t33_ => sB1 l_ t33_ w)] 2000) [(0, [])] [(0, .pointer l)] w := by kernel_rfl
theorem rlog_Log_Check.B0_sound {R : ByteArray → World → Prop}  (l : Option Addr) (w : World) (h : rlog_Log_Check.B0 l w   R) :
    KW Try.prog 20 156 (rlog_Log_Check.RV R) ([(0, [])].map (toItem (Try.f20.body.getD .skip))) [(0, .pointer l)] w := by
  exact block_spec Try.func20 Try.mixed (stops_cons (fun σ w h => by
      obtain ⟨l_, e0, h⟩ := dP_elim h
      obtain ⟨t33_, e1, h⟩ := dB_elim h
      exact (rlog_Log_Check.B1_sound  l_ t33_ w h).weaken (Sub.cons (Sub.cons (Sub.nil _) e1) e0)) stops_nil) (Eq.mp (rlog_Log_Check.B0_eq l w   R (fun l_ t33_ w => rlog_Log_Check.B1 l_ t33_ w  R)) h)
theorem rlog_Log_Check.sound (l : Option Addr) (w : World) (R : ByteArray → World → Prop) (h : rlog_Log_Check.B0 l w R) : rlog_Log_Check.Call l w R := by
  have hc := calls_of_block (args := #[.pointer l]) Try.func20 (body := (Try.f20.body.getD .skip)) (by kernel_rfl) (by kernel_rfl) (args_slot _) (rlog_Log_Check.B0_sound l w h)
  exact hc.mono fun e w' he => by
    obtain ⟨v, rfl, hv⟩ := he
    exact rlog_Log_Check.RV_elim hv
end Go.Proofs.Qxb6500431a
