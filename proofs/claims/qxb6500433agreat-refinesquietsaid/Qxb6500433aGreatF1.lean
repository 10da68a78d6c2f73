import Derived.Test.Qxb6500433aGreatSig
set_option maxRecDepth 100000
set_option linter.unusedVariables false
open Go.Vc
namespace Go.Proofs.Qxb6500433aGreat
def synclaw_Ground.B0  (w : World)   (R : Option Addr → Option Addr → World → Prop) : Prop :=
  New (.cells #[.pointer none, .pointer none] 30) w fun b0 w1 =>
  diskm_New.Call  w1 fun r4 w2 =>
  store_Open.Call r4 w2 fun r6 w3 =>
  rlog_Open.Call r6 w3 fun r8 w4 =>
  Sts [.pointer r4, .pointer r8] ⟨b0, 0, none⟩ 0 w4 fun w5 =>
  LdP ⟨b0, 0, none⟩ w5 fun r_0 =>
  LdP ⟨b0, 1, none⟩ w5 fun r_1 =>
  R r_0 r_1 w5
theorem synclaw_Ground.B0_eq  (w : World)   (R : Option Addr → Option Addr → World → Prop)  :
    (
  New (.cells #[.pointer none, .pointer none] 30) w fun b0 w1 =>
  diskm_New.Call  w1 fun r4 w2 =>
  store_Open.Call r4 w2 fun r6 w3 =>
  rlog_Open.Call r6 w3 fun r8 w4 =>
  Sts [.pointer r4, .pointer r8] ⟨b0, 0, none⟩ 0 w4 fun w5 =>
  LdP ⟨b0, 0, none⟩ w5 fun r_0 =>
  LdP ⟨b0, 1, none⟩ w5 fun r_1 =>
  R r_0 r_1 w5) = kstep Tryz.prog 12 Tryz.f8.results.toList (Tryz.f8.body.getD .skip) (synclaw_Ground.RV R) (kvc Tryz.prog 12 Tryz.f8.results.toList (Tryz.f8.body.getD .skip) (synclaw_Ground.RV R) [] 2000) [(0, [])] [] w := by kernel_rfl
theorem synclaw_Ground.B0_sound {R : Option Addr → Option Addr → World → Prop}   (w : World) (h : synclaw_Ground.B0  w   R) :
    KW Tryz.prog 8 12 (synclaw_Ground.RV R) ([(0, [])].map (toItem (Tryz.f8.body.getD .skip))) [] w := by
  exact block_spec Tryz.func8 Tryz.mixed stops_nil (Eq.mp (synclaw_Ground.B0_eq  w   R ) h)
theorem synclaw_Ground.sound  (w : World) (R : Option Addr → Option Addr → World → Prop) (h : synclaw_Ground.B0  w R) : synclaw_Ground.Call  w R := by
  have hc := calls_of_block (args := #[]) Tryz.func8 (body := (Tryz.f8.body.getD .skip)) (by kernel_rfl) (by kernel_rfl) (args_slot _) (synclaw_Ground.B0_sound  w h)
  exact hc.mono fun e w' he => by
    obtain ⟨v, rfl, hv⟩ := he
    exact synclaw_Ground.RV_elim hv
def elect_New.B2 (id0 : Int) (w : World)   (R : Option Addr → World → Prop) : Prop :=
  New (.cells #[.int .i64 id0, .int .i64 (0 : Int), .int .i64 (0 : Int), .int .i64 (0 : Int), .int .i64 (0 : Int), .int .i64 (0 : Int)] 72) w fun b12 w1 =>
  elect_Elect_put.Call (some ⟨b12, 0, none⟩) (0 : Int) (-1 : Int) (-1 : Int) w1 fun w2 =>
  elect_Elect_wind.Call (some ⟨b12, 0, none⟩) w2 fun w3 =>
  R (some ⟨b12, 0, none⟩) w3
theorem elect_New.B2_eq (id0 : Int) (w : World)   (R : Option Addr → World → Prop)  :
    (
  New (.cells #[.int .i64 id0, .int .i64 (0 : Int), .int .i64 (0 : Int), .int .i64 (0 : Int), .int .i64 (0 : Int), .int .i64 (0 : Int)] 72) w fun b12 w1 =>
  elect_Elect_put.Call (some ⟨b12, 0, none⟩) (0 : Int) (-1 : Int) (-1 : Int) w1 fun w2 =>
  elect_Elect_wind.Call (some ⟨b12, 0, none⟩) w2 fun w3 =>
  R (some ⟨b12, 0, none⟩) w3) = kstep Tryz.prog 18 Tryz.f9.results.toList (Tryz.f9.body.getD .skip) (elect_New.RV R) (kvc Tryz.prog 18 Tryz.f9.results.toList (Tryz.f9.body.getD .skip) (elect_New.RV R) [] 2000) [(0, [1, 1])] [(0, .int .i64 id0)] w := by kernel_rfl
theorem elect_New.B2_sound {R : Option Addr → World → Prop}  (id0 : Int) (w : World) (h : elect_New.B2 id0 w   R) :
    KW Tryz.prog 9 18 (elect_New.RV R) ([(0, [1, 1])].map (toItem (Tryz.f9.body.getD .skip))) [(0, .int .i64 id0)] w := by
  exact block_spec Tryz.func9 Tryz.mixed stops_nil (Eq.mp (elect_New.B2_eq id0 w   R ) h)
def elect_New.B1 (id0 : Int) (t9 : Bool) (w : World)   (R : Option Addr → World → Prop) : Prop :=
  Bm t9 (
    elect_New.B2 (0 : Int) w  R) (
    elect_New.B2 id0 w  R)
theorem elect_New.B1_eq (id0 : Int) (t9 : Bool) (w : World)   (R : Option Addr → World → Prop) (sB2 : Int → World → Prop) :
    (
  Bm t9 (
    sB2 (0 : Int) w) (
    sB2 id0 w)) = kstep Tryz.prog 18 Tryz.f9.results.toList (Tryz.f9.body.getD .skip) (elect_New.RV R) (kvc Tryz.prog 18 Tryz.f9.results.toList (Tryz.f9.body.getD .skip) (elect_New.RV R) [([(0, [1, 1])], fun σ w => dI .i64 (slotOf σ 0) fun id0_ => sB2 id0_ w)] 2000) [(0, [1, 0, 1]), (0, [1, 1])] [(0, .int .i64 id0), (9, .bool t9)] w := by kernel_rfl
theorem elect_New.B1_sound {R : Option Addr → World → Prop}  (id0 : Int) (t9 : Bool) (w : World) (h : elect_New.B1 id0 t9 w   R) :
    KW Tryz.prog 9 18 (elect_New.RV R) ([(0, [1, 0, 1]), (0, [1, 1])].map (toItem (Tryz.f9.body.getD .skip))) [(0, .int .i64 id0), (9, .bool t9)] w := by
  exact block_spec Tryz.func9 Tryz.mixed (stops_cons (fun σ w h => by
      obtain ⟨id0_, e0, h⟩ := dI_elim h
      exact (elect_New.B2_sound  id0_ w h).weaken (Sub.cons (Sub.nil _) e0)) stops_nil) (Eq.mp (elect_New.B1_eq id0 t9 w   R (fun id0_ w => elect_New.B2 id0_ w  R)) h)
def elect_New.B0 (id0 : Int) (w : World)   (R : Option Addr → World → Prop) : Prop :=
  Bm (decide (id0 < (0 : Int))) (
    elect_New.B1 id0 true w  R) (
    elect_New.B1 id0 (decide (id0 ≥ (3 : Int))) w  R)
theorem elect_New.B0_eq (id0 : Int) (w : World)   (R : Option Addr → World → Prop) (sB1 : Int → Bool → World → Prop) :
    (
  Bm (decide (id0 < (0 : Int))) (
    sB1 id0 true w) (
    sB1 id0 (decide (id0 ≥ (3 : Int))) w)) = kstep Tryz.prog 18 Tryz.f9.results.toList (Tryz.f9.body.getD .skip) (elect_New.RV R) (kvc Tryz.prog 18 Tryz.f9.results.toList (Tryz.f9.body.getD .skip) (elect_New.RV R) [([(0, [1, 0, 1]), (0, [1, 1])], fun σ w => dI .i64 (slotOf σ 0) fun id0_ => dB (slotOf σ 9) fun t9_ => sB1 id0_ t9_ w)] 2000) [(0, [])] [(0, .int .i64 id0)] w := by kernel_rfl
theorem elect_New.B0_sound {R : Option Addr → World → Prop}  (id0 : Int) (w : World) (h : elect_New.B0 id0 w   R) :
    KW Tryz.prog 9 18 (elect_New.RV R) ([(0, [])].map (toItem (Tryz.f9.body.getD .skip))) [(0, .int .i64 id0)] w := by
  exact block_spec Tryz.func9 Tryz.mixed (stops_cons (fun σ w h => by
      obtain ⟨id0_, e0, h⟩ := dI_elim h
      obtain ⟨t9_, e1, h⟩ := dB_elim h
      exact (elect_New.B1_sound  id0_ t9_ w h).weaken (Sub.cons (Sub.cons (Sub.nil _) e1) e0)) stops_nil) (Eq.mp (elect_New.B0_eq id0 w   R (fun id0_ t9_ w => elect_New.B1 id0_ t9_ w  R)) h)
theorem elect_New.sound (id0 : Int) (w : World) (R : Option Addr → World → Prop) (h : elect_New.B0 id0 w R) : elect_New.Call id0 w R := by
  have hc := calls_of_block (args := #[.int .i64 id0]) Tryz.func9 (body := (Tryz.f9.body.getD .skip)) (by kernel_rfl) (by kernel_rfl) (args_slot _) (elect_New.B0_sound id0 w h)
  exact hc.mono fun e w' he => by
    obtain ⟨v, rfl, hv⟩ := he
    exact elect_New.RV_elim hv
def sync_New.B0 (lg el : Option Addr) (w : World)   (R : Option Addr → World → Prop) : Prop :=
  sync_Open.Call lg el w fun r7 w1 =>
  R r7 w1
theorem sync_New.B0_eq (lg el : Option Addr) (w : World)   (R : Option Addr → World → Prop)  :
    (
  sync_Open.Call lg el w fun r7 w1 =>
  R r7 w1) = kstep Tryz.prog 8 Tryz.f10.results.toList (Tryz.f10.body.getD .skip) (sync_New.RV R) (kvc Tryz.prog 8 Tryz.f10.results.toList (Tryz.f10.body.getD .skip) (sync_New.RV R) [] 2000) [(0, [])] [(0, .pointer lg), (1, .pointer el)] w := by kernel_rfl
theorem sync_New.B0_sound {R : Option Addr → World → Prop}  (lg el : Option Addr) (w : World) (h : sync_New.B0 lg el w   R) :
    KW Tryz.prog 10 8 (sync_New.RV R) ([(0, [])].map (toItem (Tryz.f10.body.getD .skip))) [(0, .pointer lg), (1, .pointer el)] w := by
  exact block_spec Tryz.func10 Tryz.mixed stops_nil (Eq.mp (sync_New.B0_eq lg el w   R ) h)
theorem sync_New.sound (lg el : Option Addr) (w : World) (R : Option Addr → World → Prop) (h : sync_New.B0 lg el w R) : sync_New.Call lg el w R := by
  have hc := calls_of_block (args := #[.pointer lg, .pointer el]) Tryz.func10 (body := (Tryz.f10.body.getD .skip)) (by kernel_rfl) (by kernel_rfl) (args_slot _) (sync_New.B0_sound lg el w h)
  exact hc.mono fun e w' he => by
    obtain ⟨v, rfl, hv⟩ := he
    exact sync_New.RV_elim hv
def syncm_New.B0 (id0 : Int) (w : World)   (R : Option Addr → World → Prop) : Prop :=
  rlogm_New.Call  w fun r5 w1 =>
  electm_New.Call id0 w1 fun r7 w2 =>
  syncm_open.Call r5 r7 w2 fun r10 w3 =>
  R r10 w3
theorem syncm_New.B0_eq (id0 : Int) (w : World)   (R : Option Addr → World → Prop)  :
    (
  rlogm_New.Call  w fun r5 w1 =>
  electm_New.Call id0 w1 fun r7 w2 =>
  syncm_open.Call r5 r7 w2 fun r10 w3 =>
  R r10 w3) = kstep Tryz.prog 11 Tryz.f11.results.toList (Tryz.f11.body.getD .skip) (syncm_New.RV R) (kvc Tryz.prog 11 Tryz.f11.results.toList (Tryz.f11.body.getD .skip) (syncm_New.RV R) [] 2000) [(0, [])] [(0, .int .i64 id0)] w := by kernel_rfl
theorem syncm_New.B0_sound {R : Option Addr → World → Prop}  (id0 : Int) (w : World) (h : syncm_New.B0 id0 w   R) :
    KW Tryz.prog 11 11 (syncm_New.RV R) ([(0, [])].map (toItem (Tryz.f11.body.getD .skip))) [(0, .int .i64 id0)] w := by
  exact block_spec Tryz.func11 Tryz.mixed stops_nil (Eq.mp (syncm_New.B0_eq id0 w   R ) h)
theorem syncm_New.sound (id0 : Int) (w : World) (R : Option Addr → World → Prop) (h : syncm_New.B0 id0 w R) : syncm_New.Call id0 w R := by
  have hc := calls_of_block (args := #[.int .i64 id0]) Tryz.func11 (body := (Tryz.f11.body.getD .skip)) (by kernel_rfl) (by kernel_rfl) (args_slot _) (syncm_New.B0_sound id0 w h)
  exact hc.mono fun e w' he => by
    obtain ⟨v, rfl, hv⟩ := he
    exact syncm_New.RV_elim hv
def synclaw_Steps.B0 (b_0 b_1 : Option Addr) (w : World)   (R : Int → World → Prop) : Prop :=
  New (.cells #[.pointer b_0, .pointer b_1] 30) w fun b_ w1 =>
  LdP ⟨b_, 0, none⟩ w1 fun x4 =>
  diskm_Disk_Steps.Call x4 w1 fun r5 w2 =>
  R r5 w2
theorem synclaw_Steps.B0_eq (b_0 b_1 : Option Addr) (w : World)   (R : Int → World → Prop)  :
    (
  New (.cells #[.pointer b_0, .pointer b_1] 30) w fun b_ w1 =>
  LdP ⟨b_, 0, none⟩ w1 fun x4 =>
  diskm_Disk_Steps.Call x4 w1 fun r5 w2 =>
  R r5 w2) = kstep Tryz.prog 6 Tryz.f12.results.toList (Tryz.f12.body.getD .skip) (synclaw_Steps.RV R) (kvc Tryz.prog 6 Tryz.f12.results.toList (Tryz.f12.body.getD .skip) (synclaw_Steps.RV R) [] 2000) [(0, [])] [(0, .agg #[.pointer b_0, .pointer b_1])] w := by kernel_rfl
theorem synclaw_Steps.B0_sound {R : Int → World → Prop}  (b_0 b_1 : Option Addr) (w : World) (h : synclaw_Steps.B0 b_0 b_1 w   R) :
    KW Tryz.prog 12 6 (synclaw_Steps.RV R) ([(0, [])].map (toItem (Tryz.f12.body.getD .skip))) [(0, .agg #[.pointer b_0, .pointer b_1])] w := by
  exact block_spec Tryz.func12 Tryz.mixed stops_nil (Eq.mp (synclaw_Steps.B0_eq b_0 b_1 w   R ) h)
theorem synclaw_Steps.sound (b_0 b_1 : Option Addr) (w : World) (R : Int → World → Prop) (h : synclaw_Steps.B0 b_0 b_1 w R) : synclaw_Steps.Call b_0 b_1 w R := by
  have hc := calls_of_block (args := #[.agg #[.pointer b_0, .pointer b_1]]) Tryz.func12 (body := (Tryz.f12.body.getD .skip)) (by kernel_rfl) (by kernel_rfl) (args_slot _) (synclaw_Steps.B0_sound b_0 b_1 w h)
  exact hc.mono fun e w' he => by
    obtain ⟨v, rfl, hv⟩ := he
    exact synclaw_Steps.RV_elim hv
def synclaw_Seen.B0 (x m0 b_0 b_1 : Option Addr) (n : Int) (w : World)   (R : Bool → World → Prop) : Prop :=
  New (.cells #[.pointer b_0, .pointer b_1] 30) w fun b_ w1 =>
  sync_Sync_Check.Call x w1 fun r10 w2 =>
  Bm (!(r10.toList == (ByteArray.mk #[]).toList)) (
    R false w2) (
    synclaw_Alike.Call x m0 w2 fun r14 w3 =>
    Bm (!r14) (
      R false w3) (
      LdP ⟨b_, 0, none⟩ w3 fun x16_0 =>
      LdP ⟨b_, 1, none⟩ w3 fun x16_1 =>
      synclaw_Steps.Call x16_0 x16_1 w3 fun r17 w4 =>
      R (r17 == n) w4))
theorem synclaw_Seen.B0_eq (x m0 b_0 b_1 : Option Addr) (n : Int) (w : World)   (R : Bool → World → Prop)  :
    (
  New (.cells #[.pointer b_0, .pointer b_1] 30) w fun b_ w1 =>
  sync_Sync_Check.Call x w1 fun r10 w2 =>
  Bm (!(r10.toList == (ByteArray.mk #[]).toList)) (
    R false w2) (
    synclaw_Alike.Call x m0 w2 fun r14 w3 =>
    Bm (!r14) (
      R false w3) (
      LdP ⟨b_, 0, none⟩ w3 fun x16_0 =>
      LdP ⟨b_, 1, none⟩ w3 fun x16_1 =>
      synclaw_Steps.Call x16_0 x16_1 w3 fun r17 w4 =>
      R (r17 == n) w4))) = kstep Tryz.prog 20 Tryz.f13.results.toList (Tryz.f13.body.getD .skip) (synclaw_Seen.RV R) (kvc Tryz.prog 20 Tryz.f13.results.toList (Tryz.f13.body.getD .skip) (synclaw_Seen.RV R) [] 2000) [(0, [])] [(0, .pointer x), (1, .pointer m0), (2, .agg #[.pointer b_0, .pointer b_1]), (3, .int .i64 n)] w := by kernel_rfl
theorem synclaw_Seen.B0_sound {R : Bool → World → Prop}  (x m0 b_0 b_1 : Option Addr) (n : Int) (w : World) (h : synclaw_Seen.B0 x m0 b_0 b_1 n w   R) :
    KW Tryz.prog 13 20 (synclaw_Seen.RV R) ([(0, [])].map (toItem (Tryz.f13.body.getD .skip))) [(0, .pointer x), (1, .pointer m0), (2, .agg #[.pointer b_0, .pointer b_1]), (3, .int .i64 n)] w := by
  exact block_spec Tryz.func13 Tryz.mixed stops_nil (Eq.mp (synclaw_Seen.B0_eq x m0 b_0 b_1 n w   R ) h)
theorem synclaw_Seen.sound (x m0 b_0 b_1 : Option Addr) (n : Int) (w : World) (R : Bool → World → Prop) (h : synclaw_Seen.B0 x m0 b_0 b_1 n w R) : synclaw_Seen.Call x m0 b_0 b_1 n w R := by
  have hc := calls_of_block (args := #[.pointer x, .pointer m0, .agg #[.pointer b_0, .pointer b_1], .int .i64 n]) Tryz.func13 (body := (Tryz.f13.body.getD .skip)) (by kernel_rfl) (by kernel_rfl) (args_slot _) (synclaw_Seen.B0_sound x m0 b_0 b_1 n w h)
  exact hc.mono fun e w' he => by
    obtain ⟨v, rfl, hv⟩ := he
    exact synclaw_Seen.RV_elim hv
def synclaw_After.B0 (b_0 b_1 : Option Addr) (k : Int) (w : World)   (R : Option Addr → Option Addr → World → Prop) : Prop :=
  New (.cells #[.pointer b_0, .pointer b_1] 30) w fun b_ w1 =>
  New (.cells #[.pointer none, .pointer none] 30) w1 fun b4 w2 =>
  LdP ⟨b_, 0, none⟩ w2 fun x9 =>
  diskm_Disk_After.Call x9 k w2 fun r11 w3 =>
  diskm_Disk_Mark.Call r11 w3 fun w4 =>
  store_Open.Call r11 w4 fun r15 w5 =>
  rlog_Open.Call r15 w5 fun r17 w6 =>
  Sts [.pointer r11, .pointer r17] ⟨b4, 0, none⟩ 0 w6 fun w7 =>
  LdP ⟨b4, 0, none⟩ w7 fun r_0 =>
  LdP ⟨b4, 1, none⟩ w7 fun r_1 =>
  R r_0 r_1 w7
theorem synclaw_After.B0_eq (b_0 b_1 : Option Addr) (k : Int) (w : World)   (R : Option Addr → Option Addr → World → Prop)  :
    (
  New (.cells #[.pointer b_0, .pointer b_1] 30) w fun b_ w1 =>
  New (.cells #[.pointer none, .pointer none] 30) w1 fun b4 w2 =>
  LdP ⟨b_, 0, none⟩ w2 fun x9 =>
  diskm_Disk_After.Call x9 k w2 fun r11 w3 =>
  diskm_Disk_Mark.Call r11 w3 fun w4 =>
  store_Open.Call r11 w4 fun r15 w5 =>
  rlog_Open.Call r15 w5 fun r17 w6 =>
  Sts [.pointer r11, .pointer r17] ⟨b4, 0, none⟩ 0 w6 fun w7 =>
  LdP ⟨b4, 0, none⟩ w7 fun r_0 =>
  LdP ⟨b4, 1, none⟩ w7 fun r_1 =>
  R r_0 r_1 w7) = kstep Tryz.prog 21 Tryz.f14.results.toList (Tryz.f14.body.getD .skip) (synclaw_After.RV R) (kvc Tryz.prog 21 Tryz.f14.results.toList (Tryz.f14.body.getD .skip) (synclaw_After.RV R) [] 2000) [(0, [])] [(0, .agg #[.pointer b_0, .pointer b_1]), (1, .int .i64 k)] w := by kernel_rfl
theorem synclaw_After.B0_sound {R : Option Addr → Option Addr → World → Prop}  (b_0 b_1 : Option Addr) (k : Int) (w : World) (h : synclaw_After.B0 b_0 b_1 k w   R) :
    KW Tryz.prog 14 21 (synclaw_After.RV R) ([(0, [])].map (toItem (Tryz.f14.body.getD .skip))) [(0, .agg #[.pointer b_0, .pointer b_1]), (1, .int .i64 k)] w := by
  exact block_spec Tryz.func14 Tryz.mixed stops_nil (Eq.mp (synclaw_After.B0_eq b_0 b_1 k w   R ) h)
theorem synclaw_After.sound (b_0 b_1 : Option Addr) (k : Int) (w : World) (R : Option Addr → Option Addr → World → Prop) (h : synclaw_After.B0 b_0 b_1 k w R) : synclaw_After.Call b_0 b_1 k w R := by
  have hc := calls_of_block (args := #[.agg #[.pointer b_0, .pointer b_1], .int .i64 k]) Tryz.func14 (body := (Tryz.f14.body.getD .skip)) (by kernel_rfl) (by kernel_rfl) (args_slot _) (synclaw_After.B0_sound b_0 b_1 k w h)
  exact hc.mono fun e w' he => by
    obtain ⟨v, rfl, hv⟩ := he
    exact synclaw_After.RV_elim hv
def sync_Open.B0 (lg el : Option Addr) (w : World)   (R : Option Addr → World → Prop) : Prop :=
  New (.cells #[.pointer lg, .pointer el, .int .i64 (0 : Int), .int .i64 (0 : Int), .int .i64 (0 : Int), .int .i64 (0 : Int), .int .i64 (0 : Int), .int .i64 (0 : Int), .int .i64 (0 : Int), .int .i64 (0 : Int), .int .i64 (0 : Int), .int .i64 (0 : Int), .int .i64 (0 : Int), .int .i64 (0 : Int), .int .i64 (0 : Int), .int .i64 (0 : Int), .int .i64 (0 : Int), .int .i64 (0 : Int), .bool false, .slice none 0 0, .string (ByteArray.mk #[]), .int .i64 (0 : Int), .int .i64 (0 : Int), .int .i64 (0 : Int), .int .i64 (0 : Int), .int .i64 (0 : Int), .int .i64 (0 : Int), .int .i64 (0 : Int), .bool false, .slice none 0 0, .string (ByteArray.mk #[]), .int .i64 (0 : Int), .int .i64 (0 : Int), .int .i64 (0 : Int), .int .i64 (0 : Int), .int .i64 (0 : Int), .int .i64 (0 : Int), .int .i64 (0 : Int), .bool false, .slice none 0 0, .string (ByteArray.mk #[]), .int .i64 (0 : Int)] 83) w fun b11 w1 =>
  rlog_Log_Term.Call lg w1 fun r13 w2 =>
  rlog_Log_Vote.Call lg w2 fun r15 w3 =>
  elect_Elect_Restore.Call el r13 r15 w3 fun r19 w4 =>
  rlog_Log_Base.Call lg w4 fun r22 w5 =>
  Sts [.int .i64 r22] ⟨b11, 2, none⟩ 0 w5 fun w6 =>
  sync_Sync_refresh.Call (some ⟨b11, 0, none⟩) w6 fun w7 =>
  R (some ⟨b11, 0, none⟩) w7
theorem sync_Open.B0_eq (lg el : Option Addr) (w : World)   (R : Option Addr → World → Prop)  :
    (
  New (.cells #[.pointer lg, .pointer el, .int .i64 (0 : Int), .int .i64 (0 : Int), .int .i64 (0 : Int), .int .i64 (0 : Int), .int .i64 (0 : Int), .int .i64 (0 : Int), .int .i64 (0 : Int), .int .i64 (0 : Int), .int .i64 (0 : Int), .int .i64 (0 : Int), .int .i64 (0 : Int), .int .i64 (0 : Int), .int .i64 (0 : Int), .int .i64 (0 : Int), .int .i64 (0 : Int), .int .i64 (0 : Int), .bool false, .slice none 0 0, .string (ByteArray.mk #[]), .int .i64 (0 : Int), .int .i64 (0 : Int), .int .i64 (0 : Int), .int .i64 (0 : Int), .int .i64 (0 : Int), .int .i64 (0 : Int), .int .i64 (0 : Int), .bool false, .slice none 0 0, .string (ByteArray.mk #[]), .int .i64 (0 : Int), .int .i64 (0 : Int), .int .i64 (0 : Int), .int .i64 (0 : Int), .int .i64 (0 : Int), .int .i64 (0 : Int), .int .i64 (0 : Int), .bool false, .slice none 0 0, .string (ByteArray.mk #[]), .int .i64 (0 : Int)] 83) w fun b11 w1 =>
  rlog_Log_Term.Call lg w1 fun r13 w2 =>
  rlog_Log_Vote.Call lg w2 fun r15 w3 =>
  elect_Elect_Restore.Call el r13 r15 w3 fun r19 w4 =>
  rlog_Log_Base.Call lg w4 fun r22 w5 =>
  Sts [.int .i64 r22] ⟨b11, 2, none⟩ 0 w5 fun w6 =>
  sync_Sync_refresh.Call (some ⟨b11, 0, none⟩) w6 fun w7 =>
  R (some ⟨b11, 0, none⟩) w7) = kstep Tryz.prog 28 Tryz.f15.results.toList (Tryz.f15.body.getD .skip) (sync_Open.RV R) (kvc Tryz.prog 28 Tryz.f15.results.toList (Tryz.f15.body.getD .skip) (sync_Open.RV R) [] 2000) [(0, [])] [(0, .pointer lg), (1, .pointer el)] w := by kernel_rfl
theorem sync_Open.B0_sound {R : Option Addr → World → Prop}  (lg el : Option Addr) (w : World) (h : sync_Open.B0 lg el w   R) :
    KW Tryz.prog 15 28 (sync_Open.RV R) ([(0, [])].map (toItem (Tryz.f15.body.getD .skip))) [(0, .pointer lg), (1, .pointer el)] w := by
  exact block_spec Tryz.func15 Tryz.mixed stops_nil (Eq.mp (sync_Open.B0_eq lg el w   R ) h)
theorem sync_Open.sound (lg el : Option Addr) (w : World) (R : Option Addr → World → Prop) (h : sync_Open.B0 lg el w R) : sync_Open.Call lg el w R := by
  have hc := calls_of_block (args := #[.pointer lg, .pointer el]) Tryz.func15 (body := (Tryz.f15.body.getD .skip)) (by kernel_rfl) (by kernel_rfl) (args_slot _) (sync_Open.B0_sound lg el w h)
  exact hc.mono fun e w' he => by
    obtain ⟨v, rfl, hv⟩ := he
    exact sync_Open.RV_elim hv
def sync_Sync_Check.B2 (s : Option Addr) (last id0 p : Int) (t132 : Bool) (w : World) (N1 : Option Addr → Int → Int → Int → World → Prop)  (R : ByteArray → World → Prop) : Prop :=
  Bm t132 (
    R (ByteArray.mk #[97, 32, 108, 101, 97, 100, 101, 114, 39, 115, 32, 98, 111, 111, 107, 58, 32, 77, 97, 116, 99, 104, 32, 60, 32, 78, 101, 120, 116, 32, 60, 61, 32, 76, 97, 115, 116, 43, 49, 32, 105, 115, 32, 98, 114, 111, 107, 101, 110]) w) (
    N1 s last id0 (IntKind.i64.wrap (p + (1 : Int))) w)
theorem sync_Sync_Check.B2_eq (s : Option Addr) (last id0 p : Int) (t132 : Bool) (w : World) (N1 : Option Addr → Int → Int → Int → World → Prop)  (R : ByteArray → World → Prop)  :
    (
  Bm t132 (
    R (ByteArray.mk #[97, 32, 108, 101, 97, 100, 101, 114, 39, 115, 32, 98, 111, 111, 107, 58, 32, 77, 97, 116, 99, 104, 32, 60, 32, 78, 101, 120, 116, 32, 60, 61, 32, 76, 97, 115, 116, 43, 49, 32, 105, 115, 32, 98, 114, 111, 107, 101, 110]) w) (
    N1 s last id0 (IntKind.i64.wrap (p + (1 : Int))) w)) = kstep Tryz.prog 133 Tryz.f16.results.toList (Tryz.f16.body.getD .skip) (sync_Sync_Check.RV R) (kvc Tryz.prog 133 Tryz.f16.results.toList (Tryz.f16.body.getD .skip) (sync_Sync_Check.RV R) [([(0, [1, 1, 1, 1, 1, 1, 1, 1, 1, 1, 1, 1, 1, 1, 1, 1, 1, 0, 1, 0, 0]), (2, [1, 1, 1, 1, 1, 1, 1, 1, 1, 1, 1, 1, 1, 1, 1, 1, 1, 0, 1, 0, 0]), (1, [0]), (0, [1, 1, 1, 1, 1, 1, 1, 1, 1, 1, 1, 1, 1, 1, 1, 1, 1, 1])], fun σ w => dP (slotOf σ 0) fun s_ => dI .i64 (slotOf σ 4) fun last_ => dI .i64 (slotOf σ 12) fun id0_ => dI .i64 (slotOf σ 13) fun p_ => N1 s_ last_ id0_ p_ w)] 2000) [(0, [1, 1, 1, 1, 1, 1, 1, 1, 1, 1, 1, 1, 1, 1, 1, 1, 1, 0, 1, 0, 0, 1, 0, 0, 1, 0, 1]), (1, [1]), (0, [1, 1, 1, 1, 1, 1, 1, 1, 1, 1, 1, 1, 1, 1, 1, 1, 1, 0, 1, 0, 0, 1, 1]), (2, [1, 1, 1, 1, 1, 1, 1, 1, 1, 1, 1, 1, 1, 1, 1, 1, 1, 0, 1, 0, 0]), (1, [0]), (0, [1, 1, 1, 1, 1, 1, 1, 1, 1, 1, 1, 1, 1, 1, 1, 1, 1, 1])] [(0, .pointer s), (4, .int .i64 last), (12, .int .i64 id0), (13, .int .i64 p), (132, .bool t132)] w := by kernel_rfl
theorem sync_Sync_Check.B2_sound {R : ByteArray → World → Prop} {N1 : Option Addr → Int → Int → Int → World → Prop} (hN1 : ∀ s last id0 p w, N1 s last id0 p w → KW Tryz.prog 16 133 (sync_Sync_Check.RV R) ([(0, [1, 1, 1, 1, 1, 1, 1, 1, 1, 1, 1, 1, 1, 1, 1, 1, 1, 0, 1, 0, 0]), (2, [1, 1, 1, 1, 1, 1, 1, 1, 1, 1, 1, 1, 1, 1, 1, 1, 1, 0, 1, 0, 0]), (1, [0]), (0, [1, 1, 1, 1, 1, 1, 1, 1, 1, 1, 1, 1, 1, 1, 1, 1, 1, 1])].map (toItem (Tryz.f16.body.getD .skip))) [(0, .pointer s), (4, .int .i64 last), (12, .int .i64 id0), (13, .int .i64 p)] w) (s : Option Addr) (last id0 p : Int) (t132 : Bool) (w : World) (h : sync_Sync_Check.B2 s last id0 p t132 w N1  R) :
    KW Tryz.prog 16 133 (sync_Sync_Check.RV R) ([(0, [1, 1, 1, 1, 1, 1, 1, 1, 1, 1, 1, 1, 1, 1, 1, 1, 1, 0, 1, 0, 0, 1, 0, 0, 1, 0, 1]), (1, [1]), (0, [1, 1, 1, 1, 1, 1, 1, 1, 1, 1, 1, 1, 1, 1, 1, 1, 1, 0, 1, 0, 0, 1, 1]), (2, [1, 1, 1, 1, 1, 1, 1, 1, 1, 1, 1, 1, 1, 1, 1, 1, 1, 0, 1, 0, 0]), (1, [0]), (0, [1, 1, 1, 1, 1, 1, 1, 1, 1, 1, 1, 1, 1, 1, 1, 1, 1, 1])].map (toItem (Tryz.f16.body.getD .skip))) [(0, .pointer s), (4, .int .i64 last), (12, .int .i64 id0), (13, .int .i64 p), (132, .bool t132)] w := by
  exact block_spec Tryz.func16 Tryz.mixed (stops_cons (fun σ w h => by
      obtain ⟨s_, e0, h⟩ := dP_elim h
      obtain ⟨last_, e1, h⟩ := dI_elim h
      obtain ⟨id0_, e2, h⟩ := dI_elim h
      obtain ⟨p_, e3, h⟩ := dI_elim h
      exact (hN1 s_ last_ id0_ p_ w h).weaken (Sub.cons (Sub.cons (Sub.cons (Sub.cons (Sub.nil _) e3) e2) e1) e0)) stops_nil) (Eq.mp (sync_Sync_Check.B2_eq s last id0 p t132 w N1  R ) h)
def sync_Sync_Check.L1b (s : Option Addr) (last id0 p : Int) (w : World)  (N1 : Option Addr → Int → Int → Int → World → Prop) (R : ByteArray → World → Prop) : Prop :=
  Bm (decide (p < (3 : Int))) (
    Bm (p != id0) (
      Pn s fun a =>
      (0 ≤ p ∧ p < ((3 : Nat) : Int)) ∧
      LdI .i64 (Addr.add (a.add 6) (p.toNat * 1)) w.drew fun x114 =>
      Pn s fun a_1 =>
      (0 ≤ p ∧ p < ((3 : Nat) : Int)) ∧
      LdI .i64 (Addr.add (a_1.add 3) (p.toNat * 1)) w.drew fun x120 =>
      Bm (decide (x114 ≥ x120)) (
        sync_Sync_Check.B2 s last id0 p true w.drew N1 R) (
        Pn s fun a_2 =>
        (0 ≤ p ∧ p < ((3 : Nat) : Int)) ∧
        LdI .i64 (Addr.add (a_2.add 3) (p.toNat * 1)) w.drew fun x128 =>
        sync_Sync_Check.B2 s last id0 p (decide (x128 > (IntKind.i64.wrap (last + (1 : Int))))) w.drew N1 R)) (
      N1 s last id0 (IntKind.i64.wrap (p + (1 : Int))) w)) (
    R (ByteArray.mk #[]) w)
theorem sync_Sync_Check.L1b_eq (s : Option Addr) (last id0 p : Int) (w : World)  (N1 : Option Addr → Int → Int → Int → World → Prop) (R : ByteArray → World → Prop) (sB2 : Option Addr → Int → Int → Int → Bool → World → Prop) :
    (
  Bm (decide (p < (3 : Int))) (
    Bm (p != id0) (
      Pn s fun a =>
      (0 ≤ p ∧ p < ((3 : Nat) : Int)) ∧
      LdI .i64 (Addr.add (a.add 6) (p.toNat * 1)) w.drew fun x114 =>
      Pn s fun a_1 =>
      (0 ≤ p ∧ p < ((3 : Nat) : Int)) ∧
      LdI .i64 (Addr.add (a_1.add 3) (p.toNat * 1)) w.drew fun x120 =>
      Bm (decide (x114 ≥ x120)) (
        sB2 s last id0 p true w.drew) (
        Pn s fun a_2 =>
        (0 ≤ p ∧ p < ((3 : Nat) : Int)) ∧
        LdI .i64 (Addr.add (a_2.add 3) (p.toNat * 1)) w.drew fun x128 =>
        sB2 s last id0 p (decide (x128 > (IntKind.i64.wrap (last + (1 : Int))))) w.drew)) (
      N1 s last id0 (IntKind.i64.wrap (p + (1 : Int))) w)) (
    R (ByteArray.mk #[]) w)) = kstep Tryz.prog 133 Tryz.f16.results.toList (Tryz.f16.body.getD .skip) (sync_Sync_Check.RV R) (kvc Tryz.prog 133 Tryz.f16.results.toList (Tryz.f16.body.getD .skip) (sync_Sync_Check.RV R) [([(0, [1, 1, 1, 1, 1, 1, 1, 1, 1, 1, 1, 1, 1, 1, 1, 1, 1, 0, 1, 0, 0, 1, 0, 0, 1, 0, 1]), (1, [1]), (0, [1, 1, 1, 1, 1, 1, 1, 1, 1, 1, 1, 1, 1, 1, 1, 1, 1, 0, 1, 0, 0, 1, 1]), (2, [1, 1, 1, 1, 1, 1, 1, 1, 1, 1, 1, 1, 1, 1, 1, 1, 1, 0, 1, 0, 0]), (1, [0]), (0, [1, 1, 1, 1, 1, 1, 1, 1, 1, 1, 1, 1, 1, 1, 1, 1, 1, 1])], fun σ w => dP (slotOf σ 0) fun s_ => dI .i64 (slotOf σ 4) fun last_ => dI .i64 (slotOf σ 12) fun id0_ => dI .i64 (slotOf σ 13) fun p_ => dB (slotOf σ 132) fun t132_ => sB2 s_ last_ id0_ p_ t132_ w),
    ([(0, [1, 1, 1, 1, 1, 1, 1, 1, 1, 1, 1, 1, 1, 1, 1, 1, 1, 0, 1, 0, 0]), (2, [1, 1, 1, 1, 1, 1, 1, 1, 1, 1, 1, 1, 1, 1, 1, 1, 1, 0, 1, 0, 0]), (1, [0]), (0, [1, 1, 1, 1, 1, 1, 1, 1, 1, 1, 1, 1, 1, 1, 1, 1, 1, 1])], fun σ w => dP (slotOf σ 0) fun s_ => dI .i64 (slotOf σ 4) fun last_ => dI .i64 (slotOf σ 12) fun id0_ => dI .i64 (slotOf σ 13) fun p_ => N1 s_ last_ id0_ p_ w)] 2000) [(0, [1, 1, 1, 1, 1, 1, 1, 1, 1, 1, 1, 1, 1, 1, 1, 1, 1, 0, 1, 0, 0]), (2, [1, 1, 1, 1, 1, 1, 1, 1, 1, 1, 1, 1, 1, 1, 1, 1, 1, 0, 1, 0, 0]), (1, [0]), (0, [1, 1, 1, 1, 1, 1, 1, 1, 1, 1, 1, 1, 1, 1, 1, 1, 1, 1])] [(0, .pointer s), (4, .int .i64 last), (12, .int .i64 id0), (13, .int .i64 p)] w := by kernel_rfl
theorem sync_Sync_Check.L1b_sound {R : ByteArray → World → Prop} {N1 : Option Addr → Int → Int → Int → World → Prop} (hN1 : ∀ s last id0 p w, N1 s last id0 p w → KW Tryz.prog 16 133 (sync_Sync_Check.RV R) ([(0, [1, 1, 1, 1, 1, 1, 1, 1, 1, 1, 1, 1, 1, 1, 1, 1, 1, 0, 1, 0, 0]), (2, [1, 1, 1, 1, 1, 1, 1, 1, 1, 1, 1, 1, 1, 1, 1, 1, 1, 0, 1, 0, 0]), (1, [0]), (0, [1, 1, 1, 1, 1, 1, 1, 1, 1, 1, 1, 1, 1, 1, 1, 1, 1, 1])].map (toItem (Tryz.f16.body.getD .skip))) [(0, .pointer s), (4, .int .i64 last), (12, .int .i64 id0), (13, .int .i64 p)] w) (s : Option Addr) (last id0 p : Int) (w : World) (h : sync_Sync_Check.L1b s last id0 p w  N1 R) :
    KW Tryz.prog 16 133 (sync_Sync_Check.RV R) ([(0, [1, 1, 1, 1, 1, 1, 1, 1, 1, 1, 1, 1, 1, 1, 1, 1, 1, 0, 1, 0, 0]), (2, [1, 1, 1, 1, 1, 1, 1, 1, 1, 1, 1, 1, 1, 1, 1, 1, 1, 0, 1, 0, 0]), (1, [0]), (0, [1, 1, 1, 1, 1, 1, 1, 1, 1, 1, 1, 1, 1, 1, 1, 1, 1, 1])].map (toItem (Tryz.f16.body.getD .skip))) [(0, .pointer s), (4, .int .i64 last), (12, .int .i64 id0), (13, .int .i64 p)] w := by
  exact block_spec Tryz.func16 Tryz.mixed (stops_cons (fun σ w h => by
      obtain ⟨s_, e0, h⟩ := dP_elim h
      obtain ⟨last_, e1, h⟩ := dI_elim h
      obtain ⟨id0_, e2, h⟩ := dI_elim h
      obtain ⟨p_, e3, h⟩ := dI_elim h
      obtain ⟨t132_, e4, h⟩ := dB_elim h
      exact (sync_Sync_Check.B2_sound hN1 s_ last_ id0_ p_ t132_ w h).weaken (Sub.cons (Sub.cons (Sub.cons (Sub.cons (Sub.cons (Sub.nil _) e4) e3) e2) e1) e0)) (stops_cons (fun σ w h => by
      obtain ⟨s_, e0, h⟩ := dP_elim h
      obtain ⟨last_, e1, h⟩ := dI_elim h
      obtain ⟨id0_, e2, h⟩ := dI_elim h
      obtain ⟨p_, e3, h⟩ := dI_elim h
      exact (hN1 s_ last_ id0_ p_ w h).weaken (Sub.cons (Sub.cons (Sub.cons (Sub.cons (Sub.nil _) e3) e2) e1) e0)) stops_nil)) (Eq.mp (sync_Sync_Check.L1b_eq s last id0 p w  N1 R (fun s_ last_ id0_ p_ t132_ w => sync_Sync_Check.B2 s_ last_ id0_ p_ t132_ w N1 R)) h)
def sync_Sync_Check.L1 (s : Option Addr) (last id0 p : Int) (w : World)  (R : ByteArray → World → Prop) : Prop :=
  ∃ (I : Nat → Option Addr → Int → Int → Int → World → Prop) (m : Nat), I m s last id0 p w ∧ ∀ m s last id0 p w, I m s last id0 p w → sync_Sync_Check.L1b s last id0 p w  (fun s' last' id0' p' w' => ∃ m', m' < m ∧ I m' s' last' id0' p' w') R
theorem sync_Sync_Check.L1_sound {R : ByteArray → World → Prop}  (s : Option Addr) (last id0 p : Int) (w : World) (h : sync_Sync_Check.L1 s last id0 p w  R) :
    KW Tryz.prog 16 133 (sync_Sync_Check.RV R) ([(0, [1, 1, 1, 1, 1, 1, 1, 1, 1, 1, 1, 1, 1, 1, 1, 1, 1, 0, 1, 0, 0]), (2, [1, 1, 1, 1, 1, 1, 1, 1, 1, 1, 1, 1, 1, 1, 1, 1, 1, 0, 1, 0, 0]), (1, [0]), (0, [1, 1, 1, 1, 1, 1, 1, 1, 1, 1, 1, 1, 1, 1, 1, 1, 1, 1])].map (toItem (Tryz.f16.body.getD .skip))) [(0, .pointer s), (4, .int .i64 last), (12, .int .i64 id0), (13, .int .i64 p)] w := by
  obtain ⟨I, m, hBase, hr⟩ := h
  refine KW.loop (fun m σ w => ∃ (s : Option Addr) (last id0 p : Int), σ = [(0, .pointer s), (4, .int .i64 last), (12, .int .i64 id0), (13, .int .i64 p)] ∧ I m s last id0 p w) ?_ m _ w ⟨s, last, id0, p, rfl, hBase⟩
  rintro m ih σ w ⟨s, last, id0, p, rfl, hI⟩
  exact sync_Sync_Check.L1b_sound  (N1 := fun s' last' id0' p' w' => ∃ m', m' < m ∧ I m' s' last' id0' p' w') (fun s' last' id0' p' w' hx => by obtain ⟨m', hlt, hI'⟩ := hx; exact ih m' hlt _ w' ⟨s', last', id0', p', rfl, hI'⟩) s last id0 p w (hr m s last id0 p w hI)
def sync_Sync_Check.B1 (s : Option Addr) (last : Int) (t58 : Bool) (w : World)   (R : ByteArray → World → Prop) : Prop :=
  Bm t58 (
    R (ByteArray.mk #[67, 111, 109, 109, 105, 116, 32, 108, 105, 101, 115, 32, 111, 117, 116, 115, 105, 100, 101, 32, 66, 97, 115, 101, 32, 46, 46, 32, 76, 97, 115, 116]) w) (
    Pn s fun a =>
    LdP (a.add 1) w fun x62 =>
    elect_Elect_Term.Call x62 w fun r63 w1 =>
    Pn s fun a_1 =>
    LdP a_1 w1 fun x67 =>
    rlog_Log_Term.Call x67 w1 fun r68 w2 =>
    Bm (r63 != r68) (
      R (ByteArray.mk #[116, 104, 101, 32, 116, 101, 114, 109, 32, 105, 115, 32, 110, 111, 116, 32, 115, 116, 111, 114, 101, 100]) w2) (
      Pn s fun a_2 =>
      LdP (a_2.add 1) w2 fun x75 =>
      elect_Elect_Vote.Call x75 w2 fun r76 w3 =>
      Pn s fun a_3 =>
      LdP a_3 w3 fun x80 =>
      rlog_Log_Vote.Call x80 w3 fun r81 w4 =>
      Bm (r76 != r81) (
        R (ByteArray.mk #[116, 104, 101, 32, 118, 111, 116, 101, 32, 105, 115, 32, 110, 111, 116, 32, 115, 116, 111, 114, 101, 100]) w4) (
        Pn s fun a_4 =>
        LdI .i64 (a_4.add 41) w4 fun x88 =>
        Bm (x88 != (0 : Int)) (
          R (ByteArray.mk #[116, 104, 101, 32, 111, 117, 116, 98, 111, 120, 32, 105, 115, 32, 110, 111, 116, 32, 101, 109, 112, 116, 121]) w4) (
          Pn s fun a_5 =>
          LdP (a_5.add 1) w4 fun x93 =>
          elect_Elect_Role.Call x93 w4 fun r94 w5 =>
          Bm (r94 != (2 : Int)) (
            R (ByteArray.mk #[]) w5) (
            Pn s fun a_6 =>
            LdP (a_6.add 1) w5 fun x100 =>
            elect_Elect_Id.Call x100 w5 fun r101 w6 =>
            sync_Sync_Check.L1 s last r101 (0 : Int) w6  R)))))
theorem sync_Sync_Check.B1_eq (s : Option Addr) (last : Int) (t58 : Bool) (w : World)   (R : ByteArray → World → Prop) (sL1 : Option Addr → Int → Int → Int → World → Prop) :
    (
  Bm t58 (
    R (ByteArray.mk #[67, 111, 109, 109, 105, 116, 32, 108, 105, 101, 115, 32, 111, 117, 116, 115, 105, 100, 101, 32, 66, 97, 115, 101, 32, 46, 46, 32, 76, 97, 115, 116]) w) (
    Pn s fun a =>
    LdP (a.add 1) w fun x62 =>
    elect_Elect_Term.Call x62 w fun r63 w1 =>
    Pn s fun a_1 =>
    LdP a_1 w1 fun x67 =>
    rlog_Log_Term.Call x67 w1 fun r68 w2 =>
    Bm (r63 != r68) (
      R (ByteArray.mk #[116, 104, 101, 32, 116, 101, 114, 109, 32, 105, 115, 32, 110, 111, 116, 32, 115, 116, 111, 114, 101, 100]) w2) (
      Pn s fun a_2 =>
      LdP (a_2.add 1) w2 fun x75 =>
      elect_Elect_Vote.Call x75 w2 fun r76 w3 =>
      Pn s fun a_3 =>
      LdP a_3 w3 fun x80 =>
      rlog_Log_Vote.Call x80 w3 fun r81 w4 =>
      Bm (r76 != r81) (
        R (ByteArray.mk #[116, 104, 101, 32, 118, 111, 116, 101, 32, 105, 115, 32, 110, 111, 116, 32, 115, 116, 111, 114, 101, 100]) w4) (
        Pn s fun a_4 =>
        LdI .i64 (a_4.add 41) w4 fun x88 =>
        Bm (x88 != (0 : Int)) (
          R (ByteArray.mk #[116, 104, 101, 32, 111, 117, 116, 98, 111, 120, 32, 105, 115, 32, 110, 111, 116, 32, 101, 109, 112, 116, 121]) w4) (
          Pn s fun a_5 =>
          LdP (a_5.add 1) w4 fun x93 =>
          elect_Elect_Role.Call x93 w4 fun r94 w5 =>
          Bm (r94 != (2 : Int)) (
            R (ByteArray.mk #[]) w5) (
            Pn s fun a_6 =>
            LdP (a_6.add 1) w5 fun x100 =>
            elect_Elect_Id.Call x100 w5 fun r101 w6 =>
            sL1 s last r101 (0 : Int) w6)))))) = kstep Tryz.prog 133 Tryz.f16.results.toList (Tryz.f16.body.getD .skip) (sync_Sync_Check.RV R) (kvc Tryz.prog 133 Tryz.f16.results.toList (Tryz.f16.body.getD .skip) (sync_Sync_Check.RV R) [([(0, [1, 1, 1, 1, 1, 1, 1, 1, 1, 1, 1, 1, 1, 1, 1, 1, 1, 0, 1, 0, 0]), (2, [1, 1, 1, 1, 1, 1, 1, 1, 1, 1, 1, 1, 1, 1, 1, 1, 1, 0, 1, 0, 0]), (1, [0]), (0, [1, 1, 1, 1, 1, 1, 1, 1, 1, 1, 1, 1, 1, 1, 1, 1, 1, 1])], fun σ w => dP (slotOf σ 0) fun s_ => dI .i64 (slotOf σ 4) fun last_ => dI .i64 (slotOf σ 12) fun id0_ => dI .i64 (slotOf σ 13) fun p_ => sL1 s_ last_ id0_ p_ w)] 2000) [(0, [1, 1, 1, 1, 1, 1, 0, 1]), (0, [1, 1, 1, 1, 1, 1, 1])] [(0, .pointer s), (4, .int .i64 last), (58, .bool t58)] w := by kernel_rfl
theorem sync_Sync_Check.B1_sound {R : ByteArray → World → Prop}  (s : Option Addr) (last : Int) (t58 : Bool) (w : World) (h : sync_Sync_Check.B1 s last t58 w   R) :
    KW Tryz.prog 16 133 (sync_Sync_Check.RV R) ([(0, [1, 1, 1, 1, 1, 1, 0, 1]), (0, [1, 1, 1, 1, 1, 1, 1])].map (toItem (Tryz.f16.body.getD .skip))) [(0, .pointer s), (4, .int .i64 last), (58, .bool t58)] w := by
  exact block_spec Tryz.func16 Tryz.mixed (stops_cons (fun σ w h => by
      obtain ⟨s_, e0, h⟩ := dP_elim h
      obtain ⟨last_, e1, h⟩ := dI_elim h
      obtain ⟨id0_, e2, h⟩ := dI_elim h
      obtain ⟨p_, e3, h⟩ := dI_elim h
      exact (sync_Sync_Check.L1_sound  s_ last_ id0_ p_ w h).weaken (Sub.cons (Sub.cons (Sub.cons (Sub.cons (Sub.nil _) e3) e2) e1) e0)) stops_nil) (Eq.mp (sync_Sync_Check.B1_eq s last t58 w   R (fun s_ last_ id0_ p_ w => sync_Sync_Check.L1 s_ last_ id0_ p_ w  R)) h)
def sync_Sync_Check.B0 (s : Option Addr) (w : World)   (R : ByteArray → World → Prop) : Prop :=
  Pn s fun a =>
  LdP a w fun x17 =>
  rlog_Log_Base.Call x17 w fun r18 w1 =>
  Pn s fun a_1 =>
  LdP a_1 w1 fun x22 =>
  rlog_Log_Last.Call x22 w1 fun r23 w2 =>
  Pn s fun a_2 =>
  LdI .i64 (a_2.add 9) w2 fun x27 =>
  Bm (x27 != r23) (
    R (ByteArray.mk #[116, 104, 101, 32, 99, 97, 99, 104, 101, 100, 32, 108, 97, 115, 116, 32, 105, 110, 100, 101, 120, 32, 105, 115, 32, 110, 111, 116, 32, 116, 104, 101, 32, 108, 111, 103, 39, 115]) w2) (
    Pn s fun a_3 =>
    LdP a_3 w2 fun x34 =>
    rlog_Log_TermAt.Call x34 r23 w2 fun r36_0 r36_1 w3 =>
    Pn s fun a_4 =>
    LdI .i64 (a_4.add 10) w3 fun x42 =>
    Bm (x42 != r36_0) (
      R (ByteArray.mk #[116, 104, 101, 32, 99, 97, 99, 104, 101, 100, 32, 108, 97, 115, 116, 32, 116, 101, 114, 109, 32, 105, 115, 32, 110, 111, 116, 32, 116, 104, 101, 32, 108, 111, 103, 39, 115]) w3) (
      Pn s fun a_5 =>
      LdI .i64 (a_5.add 2) w3 fun x48 =>
      Bm (decide (x48 < r18)) (
        sync_Sync_Check.B1 s r23 true w3  R) (
        Pn s fun a_6 =>
        LdI .i64 (a_6.add 2) w3 fun x55 =>
        sync_Sync_Check.B1 s r23 (decide (x55 > r23)) w3  R)))
theorem sync_Sync_Check.B0_eq (s : Option Addr) (w : World)   (R : ByteArray → World → Prop) (sB1 : Option Addr → Int → Bool → World → Prop) :
    (
  Pn s fun a =>
  LdP a w fun x17 =>
  rlog_Log_Base.Call x17 w fun r18 w1 =>
  Pn s fun a_1 =>
  LdP a_1 w1 fun x22 =>
  rlog_Log_Last.Call x22 w1 fun r23 w2 =>
  Pn s fun a_2 =>
  LdI .i64 (a_2.add 9) w2 fun x27 =>
  Bm (x27 != r23) (
    R (ByteArray.mk #[116, 104, 101, 32, 99, 97, 99, 104, 101, 100, 32, 108, 97, 115, 116, 32, 105, 110, 100, 101, 120, 32, 105, 115, 32, 110, 111, 116, 32, 116, 104, 101, 32, 108, 111, 103, 39, 115]) w2) (
    Pn s fun a_3 =>
    LdP a_3 w2 fun x34 =>
    rlog_Log_TermAt.Call x34 r23 w2 fun r36_0 r36_1 w3 =>
    Pn s fun a_4 =>
    LdI .i64 (a_4.add 10) w3 fun x42 =>
    Bm (x42 != r36_0) (
      R (ByteArray.mk #[116, 104, 101, 32, 99, 97, 99, 104, 101, 100, 32, 108, 97, 115, 116, 32, 116, 101, 114, 109, 32, 105, 115, 32, 110, 111, 116, 32, 116, 104, 101, 32, 108, 111, 103, 39, 115]) w3) (
      Pn s fun a_5 =>
      LdI .i64 (a_5.add 2) w3 fun x48 =>
      Bm (decide (x48 < r18)) (
        sB1 s r23 true w3) (
        Pn s fun a_6 =>
        LdI .i64 (a_6.add 2) w3 fun x55 =>
        sB1 s r23 (decide (x55 > r23)) w3)))) = kstep Tryz.prog 133 Tryz.f16.results.toList (Tryz.f16.body.getD .skip) (sync_Sync_Check.RV R) (kvc Tryz.prog 133 Tryz.f16.results.toList (Tryz.f16.body.getD .skip) (sync_Sync_Check.RV R) [([(0, [1, 1, 1, 1, 1, 1, 0, 1]), (0, [1, 1, 1, 1, 1, 1, 1])], fun σ w => dP (slotOf σ 0) fun s_ => dI .i64 (slotOf σ 4) fun last_ => dB (slotOf σ 58) fun t58_ => sB1 s_ last_ t58_ w)] 2000) [(0, [])] [(0, .pointer s)] w := by kernel_rfl
theorem sync_Sync_Check.B0_sound {R : ByteArray → World → Prop}  (s : Option Addr) (w : World) (h : sync_Sync_Check.B0 s w   R) :
    KW Tryz.prog 16 133 (sync_Sync_Check.RV R) ([(0, [])].map (toItem (Tryz.f16.body.getD .skip))) [(0, .pointer s)] w := by
  exact block_spec Tryz.func16 Tryz.mixed (stops_cons (fun σ w h => by
      obtain ⟨s_, e0, h⟩ := dP_elim h
      obtain ⟨last_, e1, h⟩ := dI_elim h
      obtain ⟨t58_, e2, h⟩ := dB_elim h
      exact (sync_Sync_Check.B1_sound  s_ last_ t58_ w h).weaken (Sub.cons (Sub.cons (Sub.cons (Sub.nil _) e2) e1) e0)) stops_nil) (Eq.mp (sync_Sync_Check.B0_eq s w   R (fun s_ last_ t58_ w => sync_Sync_Check.B1 s_ last_ t58_ w  R)) h)
theorem sync_Sync_Check.sound (s : Option Addr) (w : World) (R : ByteArray → World → Prop) (h : sync_Sync_Check.B0 s w R) : sync_Sync_Check.Call s w R := by
  have hc := calls_of_block (args := #[.pointer s]) Tryz.func16 (body := (Tryz.f16.body.getD .skip)) (by kernel_rfl) (by kernel_rfl) (args_slot _) (sync_Sync_Check.B0_sound s w h)
  exact hc.mono fun e w' he => by
    obtain ⟨v, rfl, hv⟩ := he
    exact sync_Sync_Check.RV_elim hv
def synclaw_Match.L1b (x m0 : Option Addr) (n j : Int) (w : World)  (N1 : Option Addr → Option Addr → Int → Int → World → Prop) (R : Int → World → Prop) : Prop :=
  Bm (decide (j ≤ n)) (
    syncm_Sync_After.Call m0 j w fun r17 w1 =>
    synclaw_Alike.Call x r17 w1 fun r20 w2 =>
    Bm r20 (
      R j w2) (
      N1 x m0 n (IntKind.i64.wrap (j + (1 : Int))) w2)) (
    R (-1 : Int) w)
theorem synclaw_Match.L1b_eq (x m0 : Option Addr) (n j : Int) (w : World)  (N1 : Option Addr → Option Addr → Int → Int → World → Prop) (R : Int → World → Prop)  :
    (
  Bm (decide (j ≤ n)) (
    syncm_Sync_After.Call m0 j w fun r17 w1 =>
    synclaw_Alike.Call x r17 w1 fun r20 w2 =>
    Bm r20 (
      R j w2) (
      N1 x m0 n (IntKind.i64.wrap (j + (1 : Int))) w2)) (
    R (-1 : Int) w)) = kstep Tryz.prog 22 Tryz.f17.results.toList (Tryz.f17.body.getD .skip) (synclaw_Match.RV R) (kvc Tryz.prog 22 Tryz.f17.results.toList (Tryz.f17.body.getD .skip) (synclaw_Match.RV R) [([(0, [1, 1, 0, 1, 0, 0]), (2, [1, 1, 0, 1, 0, 0]), (1, [0]), (0, [1, 1, 1])], fun σ w => dP (slotOf σ 0) fun x_ => dP (slotOf σ 1) fun m0_ => dI .i64 (slotOf σ 5) fun n_ => dI .i64 (slotOf σ 6) fun j_ => N1 x_ m0_ n_ j_ w)] 2000) [(0, [1, 1, 0, 1, 0, 0]), (2, [1, 1, 0, 1, 0, 0]), (1, [0]), (0, [1, 1, 1])] [(0, .pointer x), (1, .pointer m0), (5, .int .i64 n), (6, .int .i64 j)] w := by kernel_rfl
theorem synclaw_Match.L1b_sound {R : Int → World → Prop} {N1 : Option Addr → Option Addr → Int → Int → World → Prop} (hN1 : ∀ x m0 n j w, N1 x m0 n j w → KW Tryz.prog 17 22 (synclaw_Match.RV R) ([(0, [1, 1, 0, 1, 0, 0]), (2, [1, 1, 0, 1, 0, 0]), (1, [0]), (0, [1, 1, 1])].map (toItem (Tryz.f17.body.getD .skip))) [(0, .pointer x), (1, .pointer m0), (5, .int .i64 n), (6, .int .i64 j)] w) (x m0 : Option Addr) (n j : Int) (w : World) (h : synclaw_Match.L1b x m0 n j w  N1 R) :
    KW Tryz.prog 17 22 (synclaw_Match.RV R) ([(0, [1, 1, 0, 1, 0, 0]), (2, [1, 1, 0, 1, 0, 0]), (1, [0]), (0, [1, 1, 1])].map (toItem (Tryz.f17.body.getD .skip))) [(0, .pointer x), (1, .pointer m0), (5, .int .i64 n), (6, .int .i64 j)] w := by
  exact block_spec Tryz.func17 Tryz.mixed (stops_cons (fun σ w h => by
      obtain ⟨x_, e0, h⟩ := dP_elim h
      obtain ⟨m0_, e1, h⟩ := dP_elim h
      obtain ⟨n_, e2, h⟩ := dI_elim h
      obtain ⟨j_, e3, h⟩ := dI_elim h
      exact (hN1 x_ m0_ n_ j_ w h).weaken (Sub.cons (Sub.cons (Sub.cons (Sub.cons (Sub.nil _) e3) e2) e1) e0)) stops_nil) (Eq.mp (synclaw_Match.L1b_eq x m0 n j w  N1 R ) h)
def synclaw_Match.L1 (x m0 : Option Addr) (n j : Int) (w : World)  (R : Int → World → Prop) : Prop :=
  ∃ (I : Nat → Option Addr → Option Addr → Int → Int → World → Prop) (m : Nat), I m x m0 n j w ∧ ∀ m x m0 n j w, I m x m0 n j w → synclaw_Match.L1b x m0 n j w  (fun x' m0' n' j' w' => ∃ m', m' < m ∧ I m' x' m0' n' j' w') R
theorem synclaw_Match.L1_sound {R : Int → World → Prop}  (x m0 : Option Addr) (n j : Int) (w : World) (h : synclaw_Match.L1 x m0 n j w  R) :
    KW Tryz.prog 17 22 (synclaw_Match.RV R) ([(0, [1, 1, 0, 1, 0, 0]), (2, [1, 1, 0, 1, 0, 0]), (1, [0]), (0, [1, 1, 1])].map (toItem (Tryz.f17.body.getD .skip))) [(0, .pointer x), (1, .pointer m0), (5, .int .i64 n), (6, .int .i64 j)] w := by
  obtain ⟨I, m, hBase, hr⟩ := h
  refine KW.loop (fun m σ w => ∃ (x m0 : Option Addr) (n j : Int), σ = [(0, .pointer x), (1, .pointer m0), (5, .int .i64 n), (6, .int .i64 j)] ∧ I m x m0 n j w) ?_ m _ w ⟨x, m0, n, j, rfl, hBase⟩
  rintro m ih σ w ⟨x, m0, n, j, rfl, hI⟩
  exact synclaw_Match.L1b_sound  (N1 := fun x' m0' n' j' w' => ∃ m', m' < m ∧ I m' x' m0' n' j' w') (fun x' m0' n' j' w' hx => by obtain ⟨m', hlt, hI'⟩ := hx; exact ih m' hlt _ w' ⟨x', m0', n', j', rfl, hI'⟩) x m0 n j w (hr m x m0 n j w hI)
def synclaw_Match.B0 (x m0 : Option Addr) (w : World)   (R : Int → World → Prop) : Prop :=
  syncm_Sync_Steps.Call m0 w fun r9 w1 =>
  synclaw_Match.L1 x m0 r9 (0 : Int) w1  R
theorem synclaw_Match.B0_eq (x m0 : Option Addr) (w : World)   (R : Int → World → Prop) (sL1 : Option Addr → Option Addr → Int → Int → World → Prop) :
    (
  syncm_Sync_Steps.Call m0 w fun r9 w1 =>
  sL1 x m0 r9 (0 : Int) w1) = kstep Tryz.prog 22 Tryz.f17.results.toList (Tryz.f17.body.getD .skip) (synclaw_Match.RV R) (kvc Tryz.prog 22 Tryz.f17.results.toList (Tryz.f17.body.getD .skip) (synclaw_Match.RV R) [([(0, [1, 1, 0, 1, 0, 0]), (2, [1, 1, 0, 1, 0, 0]), (1, [0]), (0, [1, 1, 1])], fun σ w => dP (slotOf σ 0) fun x_ => dP (slotOf σ 1) fun m0_ => dI .i64 (slotOf σ 5) fun n_ => dI .i64 (slotOf σ 6) fun j_ => sL1 x_ m0_ n_ j_ w)] 2000) [(0, [])] [(0, .pointer x), (1, .pointer m0)] w := by kernel_rfl
theorem synclaw_Match.B0_sound {R : Int → World → Prop}  (x m0 : Option Addr) (w : World) (h : synclaw_Match.B0 x m0 w   R) :
    KW Tryz.prog 17 22 (synclaw_Match.RV R) ([(0, [])].map (toItem (Tryz.f17.body.getD .skip))) [(0, .pointer x), (1, .pointer m0)] w := by
  exact block_spec Tryz.func17 Tryz.mixed (stops_cons (fun σ w h => by
      obtain ⟨x_, e0, h⟩ := dP_elim h
      obtain ⟨m0_, e1, h⟩ := dP_elim h
      obtain ⟨n_, e2, h⟩ := dI_elim h
      obtain ⟨j_, e3, h⟩ := dI_elim h
      exact (synclaw_Match.L1_sound  x_ m0_ n_ j_ w h).weaken (Sub.cons (Sub.cons (Sub.cons (Sub.cons (Sub.nil _) e3) e2) e1) e0)) stops_nil) (Eq.mp (synclaw_Match.B0_eq x m0 w   R (fun x_ m0_ n_ j_ w => synclaw_Match.L1 x_ m0_ n_ j_ w  R)) h)
theorem synclaw_Match.sound (x m0 : Option Addr) (w : World) (R : Int → World → Prop) (h : synclaw_Match.B0 x m0 w R) : synclaw_Match.Call x m0 w R := by
  have hc := calls_of_block (args := #[.pointer x, .pointer m0]) Tryz.func17 (body := (Tryz.f17.body.getD .skip)) (by kernel_rfl) (by kernel_rfl) (args_slot _) (synclaw_Match.B0_sound x m0 w h)
  exact hc.mono fun e w' he => by
    obtain ⟨v, rfl, hv⟩ := he
    exact synclaw_Match.RV_elim hv
def syncm_Sync_Steps.B0 (s : Option Addr) (w : World)   (R : Int → World → Prop) : Prop :=
  Pn s fun a =>
  LdP a w fun x6 =>
  rlogm_Log_Steps.Call x6 w fun r7 w1 =>
  R r7 w1
theorem syncm_Sync_Steps.B0_eq (s : Option Addr) (w : World)   (R : Int → World → Prop)  :
    (
  Pn s fun a =>
  LdP a w fun x6 =>
  rlogm_Log_Steps.Call x6 w fun r7 w1 =>
  R r7 w1) = kstep Tryz.prog 8 Tryz.f18.results.toList (Tryz.f18.body.getD .skip) (syncm_Sync_Steps.RV R) (kvc Tryz.prog 8 Tryz.f18.results.toList (Tryz.f18.body.getD .skip) (syncm_Sync_Steps.RV R) [] 2000) [(0, [])] [(0, .pointer s)] w := by kernel_rfl
theorem syncm_Sync_Steps.B0_sound {R : Int → World → Prop}  (s : Option Addr) (w : World) (h : syncm_Sync_Steps.B0 s w   R) :
    KW Tryz.prog 18 8 (syncm_Sync_Steps.RV R) ([(0, [])].map (toItem (Tryz.f18.body.getD .skip))) [(0, .pointer s)] w := by
  exact block_spec Tryz.func18 Tryz.mixed stops_nil (Eq.mp (syncm_Sync_Steps.B0_eq s w   R ) h)
theorem syncm_Sync_Steps.sound (s : Option Addr) (w : World) (R : Int → World → Prop) (h : syncm_Sync_Steps.B0 s w R) : syncm_Sync_Steps.Call s w R := by
  have hc := calls_of_block (args := #[.pointer s]) Tryz.func18 (body := (Tryz.f18.body.getD .skip)) (by kernel_rfl) (by kernel_rfl) (args_slot _) (syncm_Sync_Steps.B0_sound s w h)
  exact hc.mono fun e w' he => by
    obtain ⟨v, rfl, hv⟩ := he
    exact syncm_Sync_Steps.RV_elim hv
def syncm_Sync_After.B0 (s : Option Addr) (k : Int) (w : World)   (R : Option Addr → World → Prop) : Prop :=
  Pn s fun a =>
  LdP a w fun x11 =>
  rlogm_Log_After.Call x11 k w fun r13 w1 =>
  Pn s fun a_1 =>
  LdP (a_1.add 1) w1 fun x17 =>
  electm_Elect_Id.Call x17 w1 fun r18 w2 =>
  electm_New.Call r18 w2 fun r20 w3 =>
  syncm_open.Call r13 r20 w3 fun r23 w4 =>
  R r23 w4
theorem syncm_Sync_After.B0_eq (s : Option Addr) (k : Int) (w : World)   (R : Option Addr → World → Prop)  :
    (
  Pn s fun a =>
  LdP a w fun x11 =>
  rlogm_Log_After.Call x11 k w fun r13 w1 =>
  Pn s fun a_1 =>
  LdP (a_1.add 1) w1 fun x17 =>
  electm_Elect_Id.Call x17 w1 fun r18 w2 =>
  electm_New.Call r18 w2 fun r20 w3 =>
  syncm_open.Call r13 r20 w3 fun r23 w4 =>
  R r23 w4) = kstep Tryz.prog 24 Tryz.f19.results.toList (Tryz.f19.body.getD .skip) (syncm_Sync_After.RV R) (kvc Tryz.prog 24 Tryz.f19.results.toList (Tryz.f19.body.getD .skip) (syncm_Sync_After.RV R) [] 2000) [(0, [])] [(0, .pointer s), (1, .int .i64 k)] w := by kernel_rfl
theorem syncm_Sync_After.B0_sound {R : Option Addr → World → Prop}  (s : Option Addr) (k : Int) (w : World) (h : syncm_Sync_After.B0 s k w   R) :
    KW Tryz.prog 19 24 (syncm_Sync_After.RV R) ([(0, [])].map (toItem (Tryz.f19.body.getD .skip))) [(0, .pointer s), (1, .int .i64 k)] w := by
  exact block_spec Tryz.func19 Tryz.mixed stops_nil (Eq.mp (syncm_Sync_After.B0_eq s k w   R ) h)
theorem syncm_Sync_After.sound (s : Option Addr) (k : Int) (w : World) (R : Option Addr → World → Prop) (h : syncm_Sync_After.B0 s k w R) : syncm_Sync_After.Call s k w R := by
  have hc := calls_of_block (args := #[.pointer s, .int .i64 k]) Tryz.func19 (body := (Tryz.f19.body.getD .skip)) (by kernel_rfl) (by kernel_rfl) (args_slot _) (syncm_Sync_After.B0_sound s k w h)
  exact hc.mono fun e w' he => by
    obtain ⟨v, rfl, hv⟩ := he
    exact syncm_Sync_After.RV_elim hv
def synclaw_Alike.L1b (x m0 v : Option Addr) (i : Int) (w : World)  (N1 : Option Addr → Option Addr → Option Addr → Int → World → Prop) (R : Bool → World → Prop) : Prop :=
  Pn v fun a =>
  LdI .i64 (a.add 12) w fun x22 =>
  Bm (decide (i ≤ (IntKind.i64.wrap (x22 + (1 : Int))))) (
    synclaw_SameAt.Call x m0 i w fun r30 w1 =>
    Bm (!r30) (
      R false w1) (
      synclaw_SameTermAt.Call x m0 i w1 fun r35 w2 =>
      Bm (!r35) (
        R false w2) (
        N1 x m0 v (IntKind.i64.wrap (i + (1 : Int))) w2))) (
    R true w)
theorem synclaw_Alike.L1b_eq (x m0 v : Option Addr) (i : Int) (w : World)  (N1 : Option Addr → Option Addr → Option Addr → Int → World → Prop) (R : Bool → World → Prop)  :
    (
  Pn v fun a =>
  LdI .i64 (a.add 12) w fun x22 =>
  Bm (decide (i ≤ (IntKind.i64.wrap (x22 + (1 : Int))))) (
    synclaw_SameAt.Call x m0 i w fun r30 w1 =>
    Bm (!r30) (
      R false w1) (
      synclaw_SameTermAt.Call x m0 i w1 fun r35 w2 =>
      Bm (!r35) (
        R false w2) (
        N1 x m0 v (IntKind.i64.wrap (i + (1 : Int))) w2))) (
    R true w)) = kstep Tryz.prog 37 Tryz.f20.results.toList (Tryz.f20.body.getD .skip) (synclaw_Alike.RV R) (kvc Tryz.prog 37 Tryz.f20.results.toList (Tryz.f20.body.getD .skip) (synclaw_Alike.RV R) [([(0, [1, 1, 1, 0, 1, 0, 0]), (2, [1, 1, 1, 0, 1, 0, 0]), (1, [0]), (0, [1, 1, 1, 1])], fun σ w => dP (slotOf σ 0) fun x_ => dP (slotOf σ 1) fun m0_ => dP (slotOf σ 5) fun v_ => dI .i64 (slotOf σ 6) fun i_ => N1 x_ m0_ v_ i_ w)] 2000) [(0, [1, 1, 1, 0, 1, 0, 0]), (2, [1, 1, 1, 0, 1, 0, 0]), (1, [0]), (0, [1, 1, 1, 1])] [(0, .pointer x), (1, .pointer m0), (5, .pointer v), (6, .int .i64 i)] w := by kernel_rfl
theorem synclaw_Alike.L1b_sound {R : Bool → World → Prop} {N1 : Option Addr → Option Addr → Option Addr → Int → World → Prop} (hN1 : ∀ x m0 v i w, N1 x m0 v i w → KW Tryz.prog 20 37 (synclaw_Alike.RV R) ([(0, [1, 1, 1, 0, 1, 0, 0]), (2, [1, 1, 1, 0, 1, 0, 0]), (1, [0]), (0, [1, 1, 1, 1])].map (toItem (Tryz.f20.body.getD .skip))) [(0, .pointer x), (1, .pointer m0), (5, .pointer v), (6, .int .i64 i)] w) (x m0 v : Option Addr) (i : Int) (w : World) (h : synclaw_Alike.L1b x m0 v i w  N1 R) :
    KW Tryz.prog 20 37 (synclaw_Alike.RV R) ([(0, [1, 1, 1, 0, 1, 0, 0]), (2, [1, 1, 1, 0, 1, 0, 0]), (1, [0]), (0, [1, 1, 1, 1])].map (toItem (Tryz.f20.body.getD .skip))) [(0, .pointer x), (1, .pointer m0), (5, .pointer v), (6, .int .i64 i)] w := by
  exact block_spec Tryz.func20 Tryz.mixed (stops_cons (fun σ w h => by
      obtain ⟨x_, e0, h⟩ := dP_elim h
      obtain ⟨m0_, e1, h⟩ := dP_elim h
      obtain ⟨v_, e2, h⟩ := dP_elim h
      obtain ⟨i_, e3, h⟩ := dI_elim h
      exact (hN1 x_ m0_ v_ i_ w h).weaken (Sub.cons (Sub.cons (Sub.cons (Sub.cons (Sub.nil _) e3) e2) e1) e0)) stops_nil) (Eq.mp (synclaw_Alike.L1b_eq x m0 v i w  N1 R ) h)
def synclaw_Alike.L1 (x m0 v : Option Addr) (i : Int) (w : World)  (R : Bool → World → Prop) : Prop :=
  ∃ (I : Nat → Option Addr → Option Addr → Option Addr → Int → World → Prop) (m : Nat), I m x m0 v i w ∧ ∀ m x m0 v i w, I m x m0 v i w → synclaw_Alike.L1b x m0 v i w  (fun x' m0' v' i' w' => ∃ m', m' < m ∧ I m' x' m0' v' i' w') R
theorem synclaw_Alike.L1_sound {R : Bool → World → Prop}  (x m0 v : Option Addr) (i : Int) (w : World) (h : synclaw_Alike.L1 x m0 v i w  R) :
    KW Tryz.prog 20 37 (synclaw_Alike.RV R) ([(0, [1, 1, 1, 0, 1, 0, 0]), (2, [1, 1, 1, 0, 1, 0, 0]), (1, [0]), (0, [1, 1, 1, 1])].map (toItem (Tryz.f20.body.getD .skip))) [(0, .pointer x), (1, .pointer m0), (5, .pointer v), (6, .int .i64 i)] w := by
  obtain ⟨I, m, hBase, hr⟩ := h
  refine KW.loop (fun m σ w => ∃ (x m0 v : Option Addr) (i : Int), σ = [(0, .pointer x), (1, .pointer m0), (5, .pointer v), (6, .int .i64 i)] ∧ I m x m0 v i w) ?_ m _ w ⟨x, m0, v, i, rfl, hBase⟩
  rintro m ih σ w ⟨x, m0, v, i, rfl, hI⟩
  exact synclaw_Alike.L1b_sound  (N1 := fun x' m0' v' i' w' => ∃ m', m' < m ∧ I m' x' m0' v' i' w') (fun x' m0' v' i' w' hx => by obtain ⟨m', hlt, hI'⟩ := hx; exact ih m' hlt _ w' ⟨x', m0', v', i', rfl, hI'⟩) x m0 v i w (hr m x m0 v i w hI)
def synclaw_Alike.B0 (x m0 : Option Addr) (w : World)   (R : Bool → World → Prop) : Prop :=
  synclaw_SameView.Call x m0 w fun r9 w1 =>
  Bm (!r9) (
    R false w1) (
    syncm_Sync_View.Call m0 w1 fun r12 w2 =>
    Pn r12 fun a =>
    LdI .i64 (a.add 10) w2 fun x16 =>
    synclaw_Alike.L1 x m0 r12 (IntKind.i64.wrap (x16 - (1 : Int))) w2  R)
theorem synclaw_Alike.B0_eq (x m0 : Option Addr) (w : World)   (R : Bool → World → Prop) (sL1 : Option Addr → Option Addr → Option Addr → Int → World → Prop) :
    (
  synclaw_SameView.Call x m0 w fun r9 w1 =>
  Bm (!r9) (
    R false w1) (
    syncm_Sync_View.Call m0 w1 fun r12 w2 =>
    Pn r12 fun a =>
    LdI .i64 (a.add 10) w2 fun x16 =>
    sL1 x m0 r12 (IntKind.i64.wrap (x16 - (1 : Int))) w2)) = kstep Tryz.prog 37 Tryz.f20.results.toList (Tryz.f20.body.getD .skip) (synclaw_Alike.RV R) (kvc Tryz.prog 37 Tryz.f20.results.toList (Tryz.f20.body.getD .skip) (synclaw_Alike.RV R) [([(0, [1, 1, 1, 0, 1, 0, 0]), (2, [1, 1, 1, 0, 1, 0, 0]), (1, [0]), (0, [1, 1, 1, 1])], fun σ w => dP (slotOf σ 0) fun x_ => dP (slotOf σ 1) fun m0_ => dP (slotOf σ 5) fun v_ => dI .i64 (slotOf σ 6) fun i_ => sL1 x_ m0_ v_ i_ w)] 2000) [(0, [])] [(0, .pointer x), (1, .pointer m0)] w := by kernel_rfl
theorem synclaw_Alike.B0_sound {R : Bool → World → Prop}  (x m0 : Option Addr) (w : World) (h : synclaw_Alike.B0 x m0 w   R) :
    KW Tryz.prog 20 37 (synclaw_Alike.RV R) ([(0, [])].map (toItem (Tryz.f20.body.getD .skip))) [(0, .pointer x), (1, .pointer m0)] w := by
  exact block_spec Tryz.func20 Tryz.mixed (stops_cons (fun σ w h => by
      obtain ⟨x_, e0, h⟩ := dP_elim h
      obtain ⟨m0_, e1, h⟩ := dP_elim h
      obtain ⟨v_, e2, h⟩ := dP_elim h
      obtain ⟨i_, e3, h⟩ := dI_elim h
      exact (synclaw_Alike.L1_sound  x_ m0_ v_ i_ w h).weaken (Sub.cons (Sub.cons (Sub.cons (Sub.cons (Sub.nil _) e3) e2) e1) e0)) stops_nil) (Eq.mp (synclaw_Alike.B0_eq x m0 w   R (fun x_ m0_ v_ i_ w => synclaw_Alike.L1 x_ m0_ v_ i_ w  R)) h)
theorem synclaw_Alike.sound (x m0 : Option Addr) (w : World) (R : Bool → World → Prop) (h : synclaw_Alike.B0 x m0 w R) : synclaw_Alike.Call x m0 w R := by
  have hc := calls_of_block (args := #[.pointer x, .pointer m0]) Tryz.func20 (body := (Tryz.f20.body.getD .skip)) (by kernel_rfl) (by kernel_rfl) (args_slot _) (synclaw_Alike.B0_sound x m0 w h)
  exact hc.mono fun e w' he => by
    obtain ⟨v, rfl, hv⟩ := he
    exact synclaw_Alike.RV_elim hv
def synclaw_Mark.B0 (b_0 b_1 : Option Addr) (w : World)   (R : World → Prop) : Prop :=
  New (.cells #[.pointer b_0, .pointer b_1] 30) w fun b_ w1 =>
  LdP ⟨b_, 0, none⟩ w1 fun x3 =>
  diskm_Disk_Mark.Call x3 w1 fun w2 =>
  R  w2
theorem synclaw_Mark.B0_eq (b_0 b_1 : Option Addr) (w : World)   (R : World → Prop)  :
    (
  New (.cells #[.pointer b_0, .pointer b_1] 30) w fun b_ w1 =>
  LdP ⟨b_, 0, none⟩ w1 fun x3 =>
  diskm_Disk_Mark.Call x3 w1 fun w2 =>
  R  w2) = kstep Tryz.prog 5 Tryz.f21.results.toList (Tryz.f21.body.getD .skip) (synclaw_Mark.RV R) (kvc Tryz.prog 5 Tryz.f21.results.toList (Tryz.f21.body.getD .skip) (synclaw_Mark.RV R) [] 2000) [(0, [])] [(0, .agg #[.pointer b_0, .pointer b_1])] w := by kernel_rfl
theorem synclaw_Mark.B0_sound {R : World → Prop}  (b_0 b_1 : Option Addr) (w : World) (h : synclaw_Mark.B0 b_0 b_1 w   R) :
    KW Tryz.prog 21 5 (synclaw_Mark.RV R) ([(0, [])].map (toItem (Tryz.f21.body.getD .skip))) [(0, .agg #[.pointer b_0, .pointer b_1])] w := by
  exact block_spec Tryz.func21 Tryz.mixed stops_nil (Eq.mp (synclaw_Mark.B0_eq b_0 b_1 w   R ) h)
theorem synclaw_Mark.sound (b_0 b_1 : Option Addr) (w : World) (R : World → Prop) (h : synclaw_Mark.B0 b_0 b_1 w R) : synclaw_Mark.Call b_0 b_1 w R := by
  have hc := calls_of_block (args := #[.agg #[.pointer b_0, .pointer b_1]]) Tryz.func21 (body := (Tryz.f21.body.getD .skip)) (by kernel_rfl) (by kernel_rfl) (args_slot _) (synclaw_Mark.B0_sound b_0 b_1 w h)
  exact hc.mono fun e w' he => by
    obtain ⟨v, rfl, hv⟩ := he
    exact synclaw_Mark.RV_elim hv
def syncm_Sync_Mark.B0 (s : Option Addr) (w : World)   (R : World → Prop) : Prop :=
  Pn s fun a =>
  LdP a w fun x5 =>
  rlogm_Log_Mark.Call x5 w fun w1 =>
  R  w1
theorem syncm_Sync_Mark.B0_eq (s : Option Addr) (w : World)   (R : World → Prop)  :
    (
  Pn s fun a =>
  LdP a w fun x5 =>
  rlogm_Log_Mark.Call x5 w fun w1 =>
  R  w1) = kstep Tryz.prog 7 Tryz.f22.results.toList (Tryz.f22.body.getD .skip) (syncm_Sync_Mark.RV R) (kvc Tryz.prog 7 Tryz.f22.results.toList (Tryz.f22.body.getD .skip) (syncm_Sync_Mark.RV R) [] 2000) [(0, [])] [(0, .pointer s)] w := by kernel_rfl
theorem syncm_Sync_Mark.B0_sound {R : World → Prop}  (s : Option Addr) (w : World) (h : syncm_Sync_Mark.B0 s w   R) :
    KW Tryz.prog 22 7 (syncm_Sync_Mark.RV R) ([(0, [])].map (toItem (Tryz.f22.body.getD .skip))) [(0, .pointer s)] w := by
  exact block_spec Tryz.func22 Tryz.mixed stops_nil (Eq.mp (syncm_Sync_Mark.B0_eq s w   R ) h)
theorem syncm_Sync_Mark.sound (s : Option Addr) (w : World) (R : World → Prop) (h : syncm_Sync_Mark.B0 s w R) : syncm_Sync_Mark.Call s w R := by
  have hc := calls_of_block (args := #[.pointer s]) Tryz.func22 (body := (Tryz.f22.body.getD .skip)) (by kernel_rfl) (by kernel_rfl) (args_slot _) (syncm_Sync_Mark.B0_sound s w h)
  exact hc.mono fun e w' he => by
    obtain ⟨v, rfl, hv⟩ := he
    exact syncm_Sync_Mark.RV_elim hv
def synclaw_SameTick.B0 (x m0 : Option Addr) (w : World)   (R : Option Addr → Nat → Nat → Option Addr → Nat → Nat → Bool → World → Prop) : Prop :=
  New (.cells #[.slice none 0 0, .slice none 0 0] 43) w fun b4 w1 =>
  sync_Sync_Tick.Call x w1 fun r10_b r10_l r10_c w2 =>
  syncm_Sync_Tick.Call m0 w2 fun r12_b r12_l r12_c w3 =>
  synclaw_Apart.Call r10_b r10_l r10_c w3 fun r14 w4 =>
  Bm (!r14) (
    Sts [.slice r10_b r10_l r10_c, .slice r12_b r12_l r12_c] ⟨b4, 0, none⟩ 0 w4 fun w5 =>
    LdL ⟨b4, 0, none⟩ w5 fun r_0_b r_0_l r_0_c =>
    LdL ⟨b4, 1, none⟩ w5 fun r_1_b r_1_l r_1_c =>
    R r_0_b r_0_l r_0_c r_1_b r_1_l r_1_c false w5) (
    synclaw_SameMsgs.Call r10_b r10_l r10_c r12_b r12_l r12_c w4 fun r21 w6 =>
    Sts [.slice r10_b r10_l r10_c, .slice r12_b r12_l r12_c] ⟨b4, 0, none⟩ 0 w6 fun w7 =>
    LdL ⟨b4, 0, none⟩ w7 fun r_0_b_1 r_0_l_1 r_0_c_1 =>
    LdL ⟨b4, 1, none⟩ w7 fun r_1_b_1 r_1_l_1 r_1_c_1 =>
    R r_0_b_1 r_0_l_1 r_0_c_1 r_1_b_1 r_1_l_1 r_1_c_1 r21 w7)
theorem synclaw_SameTick.B0_eq (x m0 : Option Addr) (w : World)   (R : Option Addr → Nat → Nat → Option Addr → Nat → Nat → Bool → World → Prop)  :
    (
  New (.cells #[.slice none 0 0, .slice none 0 0] 43) w fun b4 w1 =>
  sync_Sync_Tick.Call x w1 fun r10_b r10_l r10_c w2 =>
  syncm_Sync_Tick.Call m0 w2 fun r12_b r12_l r12_c w3 =>
  synclaw_Apart.Call r10_b r10_l r10_c w3 fun r14 w4 =>
  Bm (!r14) (
    Sts [.slice r10_b r10_l r10_c, .slice r12_b r12_l r12_c] ⟨b4, 0, none⟩ 0 w4 fun w5 =>
    LdL ⟨b4, 0, none⟩ w5 fun r_0_b r_0_l r_0_c =>
    LdL ⟨b4, 1, none⟩ w5 fun r_1_b r_1_l r_1_c =>
    R r_0_b r_0_l r_0_c r_1_b r_1_l r_1_c false w5) (
    synclaw_SameMsgs.Call r10_b r10_l r10_c r12_b r12_l r12_c w4 fun r21 w6 =>
    Sts [.slice r10_b r10_l r10_c, .slice r12_b r12_l r12_c] ⟨b4, 0, none⟩ 0 w6 fun w7 =>
    LdL ⟨b4, 0, none⟩ w7 fun r_0_b_1 r_0_l_1 r_0_c_1 =>
    LdL ⟨b4, 1, none⟩ w7 fun r_1_b_1 r_1_l_1 r_1_c_1 =>
    R r_0_b_1 r_0_l_1 r_0_c_1 r_1_b_1 r_1_l_1 r_1_c_1 r21 w7)) = kstep Tryz.prog 26 Tryz.f23.results.toList (Tryz.f23.body.getD .skip) (synclaw_SameTick.RV R) (kvc Tryz.prog 26 Tryz.f23.results.toList (Tryz.f23.body.getD .skip) (synclaw_SameTick.RV R) [] 2000) [(0, [])] [(0, .pointer x), (1, .pointer m0)] w := by kernel_rfl
theorem synclaw_SameTick.B0_sound {R : Option Addr → Nat → Nat → Option Addr → Nat → Nat → Bool → World → Prop}  (x m0 : Option Addr) (w : World) (h : synclaw_SameTick.B0 x m0 w   R) :
    KW Tryz.prog 23 26 (synclaw_SameTick.RV R) ([(0, [])].map (toItem (Tryz.f23.body.getD .skip))) [(0, .pointer x), (1, .pointer m0)] w := by
  exact block_spec Tryz.func23 Tryz.mixed stops_nil (Eq.mp (synclaw_SameTick.B0_eq x m0 w   R ) h)
theorem synclaw_SameTick.sound (x m0 : Option Addr) (w : World) (R : Option Addr → Nat → Nat → Option Addr → Nat → Nat → Bool → World → Prop) (h : synclaw_SameTick.B0 x m0 w R) : synclaw_SameTick.Call x m0 w R := by
  have hc := calls_of_block (args := #[.pointer x, .pointer m0]) Tryz.func23 (body := (Tryz.f23.body.getD .skip)) (by kernel_rfl) (by kernel_rfl) (args_slot _) (synclaw_SameTick.B0_sound x m0 w h)
  exact hc.mono fun e w' he => by
    obtain ⟨v, rfl, hv⟩ := he
    exact synclaw_SameTick.RV_elim hv
def synclaw_SameStep.B0 (x m0 : Option Addr) (reg_0 reg_1 reg_2 reg_3 reg_4 reg_5 reg_6 : Int) (reg_7 : Bool) (reg_8_b : Option Addr) (reg_8_l reg_8_c : Nat) (reg_9 : ByteArray) (w : World)   (R : Option Addr → Nat → Nat → Option Addr → Nat → Nat → Bool → World → Prop) : Prop :=
  New (.cells #[.int .i64 reg_0, .int .i64 reg_1, .int .i64 reg_2, .int .i64 reg_3, .int .i64 reg_4, .int .i64 reg_5, .int .i64 reg_6, .bool reg_7, .slice reg_8_b reg_8_l reg_8_c, .string reg_9] 40) w fun reg_ w1 =>
  New (.cells #[.slice none 0 0, .slice none 0 0] 43) w1 fun b6 w2 =>
  LdI .i64 ⟨reg_, 0, none⟩ w2 fun x13_0 =>
  LdI .i64 ⟨reg_, 1, none⟩ w2 fun x13_1 =>
  LdI .i64 ⟨reg_, 2, none⟩ w2 fun x13_2 =>
  LdI .i64 ⟨reg_, 3, none⟩ w2 fun x13_3 =>
  LdI .i64 ⟨reg_, 4, none⟩ w2 fun x13_4 =>
  LdI .i64 ⟨reg_, 5, none⟩ w2 fun x13_5 =>
  LdI .i64 ⟨reg_, 6, none⟩ w2 fun x13_6 =>
  LdB ⟨reg_, 7, none⟩ w2 fun x13_7 =>
  LdL ⟨reg_, 8, none⟩ w2 fun x13_8_b x13_8_l x13_8_c =>
  LdS ⟨reg_, 9, none⟩ w2 fun x13_9 =>
  synclaw_CopyMsg.Call x13_0 x13_1 x13_2 x13_3 x13_4 x13_5 x13_6 x13_7 x13_8_b x13_8_l x13_8_c x13_9 w2 fun r14_0 r14_1 r14_2 r14_3 r14_4 r14_5 r14_6 r14_7 r14_8_b r14_8_l r14_8_c r14_9 w3 =>
  New (.cells #[.int .i64 (0 : Int), .int .i64 (0 : Int), .int .i64 (0 : Int), .int .i64 (0 : Int), .int .i64 (0 : Int), .int .i64 (0 : Int), .int .i64 (0 : Int), .bool false, .slice none 0 0, .string (ByteArray.mk #[])] 40) w3 fun mine_ w4 =>
  Sts [.int .i64 r14_0, .int .i64 r14_1, .int .i64 r14_2, .int .i64 r14_3, .int .i64 r14_4, .int .i64 r14_5, .int .i64 r14_6, .bool r14_7, .slice r14_8_b r14_8_l r14_8_c, .string r14_9] ⟨mine_, 0, none⟩ 0 w4 fun w5 =>
  LdI .i64 ⟨reg_, 0, none⟩ w5 fun x15_0 =>
  LdI .i64 ⟨reg_, 1, none⟩ w5 fun x15_1 =>
  LdI .i64 ⟨reg_, 2, none⟩ w5 fun x15_2 =>
  LdI .i64 ⟨reg_, 3, none⟩ w5 fun x15_3 =>
  LdI .i64 ⟨reg_, 4, none⟩ w5 fun x15_4 =>
  LdI .i64 ⟨reg_, 5, none⟩ w5 fun x15_5 =>
  LdI .i64 ⟨reg_, 6, none⟩ w5 fun x15_6 =>
  LdB ⟨reg_, 7, none⟩ w5 fun x15_7 =>
  LdL ⟨reg_, 8, none⟩ w5 fun x15_8_b x15_8_l x15_8_c =>
  LdS ⟨reg_, 9, none⟩ w5 fun x15_9 =>
  synclaw_CopyMsg.Call x15_0 x15_1 x15_2 x15_3 x15_4 x15_5 x15_6 x15_7 x15_8_b x15_8_l x15_8_c x15_9 w5 fun r16_0 r16_1 r16_2 r16_3 r16_4 r16_5 r16_6 r16_7 r16_8_b r16_8_l r16_8_c r16_9 w6 =>
  New (.cells #[.int .i64 (0 : Int), .int .i64 (0 : Int), .int .i64 (0 : Int), .int .i64 (0 : Int), .int .i64 (0 : Int), .int .i64 (0 : Int), .int .i64 (0 : Int), .bool false, .slice none 0 0, .string (ByteArray.mk #[])] 40) w6 fun other_ w7 =>
  Sts [.int .i64 r16_0, .int .i64 r16_1, .int .i64 r16_2, .int .i64 r16_3, .int .i64 r16_4, .int .i64 r16_5, .int .i64 r16_6, .bool r16_7, .slice r16_8_b r16_8_l r16_8_c, .string r16_9] ⟨other_, 0, none⟩ 0 w7 fun w8 =>
  LdI .i64 ⟨mine_, 0, none⟩ w8 fun x18_0 =>
  LdI .i64 ⟨mine_, 1, none⟩ w8 fun x18_1 =>
  LdI .i64 ⟨mine_, 2, none⟩ w8 fun x18_2 =>
  LdI .i64 ⟨mine_, 3, none⟩ w8 fun x18_3 =>
  LdI .i64 ⟨mine_, 4, none⟩ w8 fun x18_4 =>
  LdI .i64 ⟨mine_, 5, none⟩ w8 fun x18_5 =>
  LdI .i64 ⟨mine_, 6, none⟩ w8 fun x18_6 =>
  LdB ⟨mine_, 7, none⟩ w8 fun x18_7 =>
  LdL ⟨mine_, 8, none⟩ w8 fun x18_8_b x18_8_l x18_8_c =>
  LdS ⟨mine_, 9, none⟩ w8 fun x18_9 =>
  sync_Sync_Step.Call x x18_0 x18_1 x18_2 x18_3 x18_4 x18_5 x18_6 x18_7 x18_8_b x18_8_l x18_8_c x18_9 w8 fun r19_b r19_l r19_c w9 =>
  LdI .i64 ⟨other_, 0, none⟩ w9 fun x21_0 =>
  LdI .i64 ⟨other_, 1, none⟩ w9 fun x21_1 =>
  LdI .i64 ⟨other_, 2, none⟩ w9 fun x21_2 =>
  LdI .i64 ⟨other_, 3, none⟩ w9 fun x21_3 =>
  LdI .i64 ⟨other_, 4, none⟩ w9 fun x21_4 =>
  LdI .i64 ⟨other_, 5, none⟩ w9 fun x21_5 =>
  LdI .i64 ⟨other_, 6, none⟩ w9 fun x21_6 =>
  LdB ⟨other_, 7, none⟩ w9 fun x21_7 =>
  LdL ⟨other_, 8, none⟩ w9 fun x21_8_b x21_8_l x21_8_c =>
  LdS ⟨other_, 9, none⟩ w9 fun x21_9 =>
  syncm_Sync_Step.Call m0 x21_0 x21_1 x21_2 x21_3 x21_4 x21_5 x21_6 x21_7 x21_8_b x21_8_l x21_8_c x21_9 w9 fun r22_b r22_l r22_c w10 =>
  LdI .i64 ⟨mine_, 0, none⟩ w10 fun x23_0 =>
  LdI .i64 ⟨mine_, 1, none⟩ w10 fun x23_1 =>
  LdI .i64 ⟨mine_, 2, none⟩ w10 fun x23_2 =>
  LdI .i64 ⟨mine_, 3, none⟩ w10 fun x23_3 =>
  LdI .i64 ⟨mine_, 4, none⟩ w10 fun x23_4 =>
  LdI .i64 ⟨mine_, 5, none⟩ w10 fun x23_5 =>
  LdI .i64 ⟨mine_, 6, none⟩ w10 fun x23_6 =>
  LdB ⟨mine_, 7, none⟩ w10 fun x23_7 =>
  LdL ⟨mine_, 8, none⟩ w10 fun x23_8_b x23_8_l x23_8_c =>
  LdS ⟨mine_, 9, none⟩ w10 fun x23_9 =>
  LdI .i64 ⟨reg_, 0, none⟩ w10 fun x24_0 =>
  LdI .i64 ⟨reg_, 1, none⟩ w10 fun x24_1 =>
  LdI .i64 ⟨reg_, 2, none⟩ w10 fun x24_2 =>
  LdI .i64 ⟨reg_, 3, none⟩ w10 fun x24_3 =>
  LdI .i64 ⟨reg_, 4, none⟩ w10 fun x24_4 =>
  LdI .i64 ⟨reg_, 5, none⟩ w10 fun x24_5 =>
  LdI .i64 ⟨reg_, 6, none⟩ w10 fun x24_6 =>
  LdB ⟨reg_, 7, none⟩ w10 fun x24_7 =>
  LdL ⟨reg_, 8, none⟩ w10 fun x24_8_b x24_8_l x24_8_c =>
  LdS ⟨reg_, 9, none⟩ w10 fun x24_9 =>
  synclaw_SameMsg.Call x23_0 x23_1 x23_2 x23_3 x23_4 x23_5 x23_6 x23_7 x23_8_b x23_8_l x23_8_c x23_9 x24_0 x24_1 x24_2 x24_3 x24_4 x24_5 x24_6 x24_7 x24_8_b x24_8_l x24_8_c x24_9 w10 fun r25 w11 =>
  Bm (!r25) (
    Sts [.slice r19_b r19_l r19_c, .slice r22_b r22_l r22_c] ⟨b6, 0, none⟩ 0 w11 fun w12 =>
    LdL ⟨b6, 0, none⟩ w12 fun r_0_b r_0_l r_0_c =>
    LdL ⟨b6, 1, none⟩ w12 fun r_1_b r_1_l r_1_c =>
    R r_0_b r_0_l r_0_c r_1_b r_1_l r_1_c false w12) (
    synclaw_Apart.Call r19_b r19_l r19_c w11 fun r31 w13 =>
    Bm (!r31) (
      Sts [.slice r19_b r19_l r19_c, .slice r22_b r22_l r22_c] ⟨b6, 0, none⟩ 0 w13 fun w14 =>
      LdL ⟨b6, 0, none⟩ w14 fun r_0_b_1 r_0_l_1 r_0_c_1 =>
      LdL ⟨b6, 1, none⟩ w14 fun r_1_b_1 r_1_l_1 r_1_c_1 =>
      R r_0_b_1 r_0_l_1 r_0_c_1 r_1_b_1 r_1_l_1 r_1_c_1 false w14) (
      synclaw_SameMsgs.Call r19_b r19_l r19_c r22_b r22_l r22_c w13 fun r38 w15 =>
      Sts [.slice r19_b r19_l r19_c, .slice r22_b r22_l r22_c] ⟨b6, 0, none⟩ 0 w15 fun w16 =>
      LdL ⟨b6, 0, none⟩ w16 fun r_0_b_2 r_0_l_2 r_0_c_2 =>
      LdL ⟨b6, 1, none⟩ w16 fun r_1_b_2 r_1_l_2 r_1_c_2 =>
      R r_0_b_2 r_0_l_2 r_0_c_2 r_1_b_2 r_1_l_2 r_1_c_2 r38 w16))
theorem synclaw_SameStep.B0_eq (x m0 : Option Addr) (reg_0 reg_1 reg_2 reg_3 reg_4 reg_5 reg_6 : Int) (reg_7 : Bool) (reg_8_b : Option Addr) (reg_8_l reg_8_c : Nat) (reg_9 : ByteArray) (w : World)   (R : Option Addr → Nat → Nat → Option Addr → Nat → Nat → Bool → World → Prop)  :
    (
  New (.cells #[.int .i64 reg_0, .int .i64 reg_1, .int .i64 reg_2, .int .i64 reg_3, .int .i64 reg_4, .int .i64 reg_5, .int .i64 reg_6, .bool reg_7, .slice reg_8_b reg_8_l reg_8_c, .string reg_9] 40) w fun reg_ w1 =>
  New (.cells #[.slice none 0 0, .slice none 0 0] 43) w1 fun b6 w2 =>
  LdI .i64 ⟨reg_, 0, none⟩ w2 fun x13_0 =>
  LdI .i64 ⟨reg_, 1, none⟩ w2 fun x13_1 =>
  LdI .i64 ⟨reg_, 2, none⟩ w2 fun x13_2 =>
  LdI .i64 ⟨reg_, 3, none⟩ w2 fun x13_3 =>
  LdI .i64 ⟨reg_, 4, none⟩ w2 fun x13_4 =>
  LdI .i64 ⟨reg_, 5, none⟩ w2 fun x13_5 =>
  LdI .i64 ⟨reg_, 6, none⟩ w2 fun x13_6 =>
  LdB ⟨reg_, 7, none⟩ w2 fun x13_7 =>
  LdL ⟨reg_, 8, none⟩ w2 fun x13_8_b x13_8_l x13_8_c =>
  LdS ⟨reg_, 9, none⟩ w2 fun x13_9 =>
  synclaw_CopyMsg.Call x13_0 x13_1 x13_2 x13_3 x13_4 x13_5 x13_6 x13_7 x13_8_b x13_8_l x13_8_c x13_9 w2 fun r14_0 r14_1 r14_2 r14_3 r14_4 r14_5 r14_6 r14_7 r14_8_b r14_8_l r14_8_c r14_9 w3 =>
  New (.cells #[.int .i64 (0 : Int), .int .i64 (0 : Int), .int .i64 (0 : Int), .int .i64 (0 : Int), .int .i64 (0 : Int), .int .i64 (0 : Int), .int .i64 (0 : Int), .bool false, .slice none 0 0, .string (ByteArray.mk #[])] 40) w3 fun mine_ w4 =>
  Sts [.int .i64 r14_0, .int .i64 r14_1, .int .i64 r14_2, .int .i64 r14_3, .int .i64 r14_4, .int .i64 r14_5, .int .i64 r14_6, .bool r14_7, .slice r14_8_b r14_8_l r14_8_c, .string r14_9] ⟨mine_, 0, none⟩ 0 w4 fun w5 =>
  LdI .i64 ⟨reg_, 0, none⟩ w5 fun x15_0 =>
  LdI .i64 ⟨reg_, 1, none⟩ w5 fun x15_1 =>
  LdI .i64 ⟨reg_, 2, none⟩ w5 fun x15_2 =>
  LdI .i64 ⟨reg_, 3, none⟩ w5 fun x15_3 =>
  LdI .i64 ⟨reg_, 4, none⟩ w5 fun x15_4 =>
  LdI .i64 ⟨reg_, 5, none⟩ w5 fun x15_5 =>
  LdI .i64 ⟨reg_, 6, none⟩ w5 fun x15_6 =>
  LdB ⟨reg_, 7, none⟩ w5 fun x15_7 =>
  LdL ⟨reg_, 8, none⟩ w5 fun x15_8_b x15_8_l x15_8_c =>
  LdS ⟨reg_, 9, none⟩ w5 fun x15_9 =>
  synclaw_CopyMsg.Call x15_0 x15_1 x15_2 x15_3 x15_4 x15_5 x15_6 x15_7 x15_8_b x15_8_l x15_8_c x15_9 w5 fun r16_0 r16_1 r16_2 r16_3 r16_4 r16_5 r16_6 r16_7 r16_8_b r16_8_l r16_8_c r16_9 w6 =>
  New (.cells #[.int .i64 (0 : Int), .int .i64 (0 : Int), .int .i64 (0 : Int), .int .i64 (0 : Int), .int .i64 (0 : Int), .int .i64 (0 : Int), .int .i64 (0 : Int), .bool false, .slice none 0 0, .string (ByteArray.mk #[])] 40) w6 fun other_ w7 =>
  Sts [.int .i64 r16_0, .int .i64 r16_1, .int .i64 r16_2, .int .i64 r16_3, .int .i64 r16_4, .int .i64 r16_5, .int .i64 r16_6, .bool r16_7, .slice r16_8_b r16_8_l r16_8_c, .string r16_9] ⟨other_, 0, none⟩ 0 w7 fun w8 =>
  LdI .i64 ⟨mine_, 0, none⟩ w8 fun x18_0 =>
  LdI .i64 ⟨mine_, 1, none⟩ w8 fun x18_1 =>
  LdI .i64 ⟨mine_, 2, none⟩ w8 fun x18_2 =>
  LdI .i64 ⟨mine_, 3, none⟩ w8 fun x18_3 =>
  LdI .i64 ⟨mine_, 4, none⟩ w8 fun x18_4 =>
  LdI .i64 ⟨mine_, 5, none⟩ w8 fun x18_5 =>
  LdI .i64 ⟨mine_, 6, none⟩ w8 fun x18_6 =>
  LdB ⟨mine_, 7, none⟩ w8 fun x18_7 =>
  LdL ⟨mine_, 8, none⟩ w8 fun x18_8_b x18_8_l x18_8_c =>
  LdS ⟨mine_, 9, none⟩ w8 fun x18_9 =>
  sync_Sync_Step.Call x x18_0 x18_1 x18_2 x18_3 x18_4 x18_5 x18_6 x18_7 x18_8_b x18_8_l x18_8_c x18_9 w8 fun r19_b r19_l r19_c w9 =>
  LdI .i64 ⟨other_, 0, none⟩ w9 fun x21_0 =>
  LdI .i64 ⟨other_, 1, none⟩ w9 fun x21_1 =>
  LdI .i64 ⟨other_, 2, none⟩ w9 fun x21_2 =>
  LdI .i64 ⟨other_, 3, none⟩ w9 fun x21_3 =>
  LdI .i64 ⟨other_, 4, none⟩ w9 fun x21_4 =>
  LdI .i64 ⟨other_, 5, none⟩ w9 fun x21_5 =>
  LdI .i64 ⟨other_, 6, none⟩ w9 fun x21_6 =>
  LdB ⟨other_, 7, none⟩ w9 fun x21_7 =>
  LdL ⟨other_, 8, none⟩ w9 fun x21_8_b x21_8_l x21_8_c =>
  LdS ⟨other_, 9, none⟩ w9 fun x21_9 =>
  syncm_Sync_Step.Call m0 x21_0 x21_1 x21_2 x21_3 x21_4 x21_5 x21_6 x21_7 x21_8_b x21_8_l x21_8_c x21_9 w9 fun r22_b r22_l r22_c w10 =>
  LdI .i64 ⟨mine_, 0, none⟩ w10 fun x23_0 =>
  LdI .i64 ⟨mine_, 1, none⟩ w10 fun x23_1 =>
  LdI .i64 ⟨mine_, 2, none⟩ w10 fun x23_2 =>
  LdI .i64 ⟨mine_, 3, none⟩ w10 fun x23_3 =>
  LdI .i64 ⟨mine_, 4, none⟩ w10 fun x23_4 =>
  LdI .i64 ⟨mine_, 5, none⟩ w10 fun x23_5 =>
  LdI .i64 ⟨mine_, 6, none⟩ w10 fun x23_6 =>
  LdB ⟨mine_, 7, none⟩ w10 fun x23_7 =>
  LdL ⟨mine_, 8, none⟩ w10 fun x23_8_b x23_8_l x23_8_c =>
  LdS ⟨mine_, 9, none⟩ w10 fun x23_9 =>
  LdI .i64 ⟨reg_, 0, none⟩ w10 fun x24_0 =>
  LdI .i64 ⟨reg_, 1, none⟩ w10 fun x24_1 =>
  LdI .i64 ⟨reg_, 2, none⟩ w10 fun x24_2 =>
  LdI .i64 ⟨reg_, 3, none⟩ w10 fun x24_3 =>
  LdI .i64 ⟨reg_, 4, none⟩ w10 fun x24_4 =>
  LdI .i64 ⟨reg_, 5, none⟩ w10 fun x24_5 =>
  LdI .i64 ⟨reg_, 6, none⟩ w10 fun x24_6 =>
  LdB ⟨reg_, 7, none⟩ w10 fun x24_7 =>
  LdL ⟨reg_, 8, none⟩ w10 fun x24_8_b x24_8_l x24_8_c =>
  LdS ⟨reg_, 9, none⟩ w10 fun x24_9 =>
  synclaw_SameMsg.Call x23_0 x23_1 x23_2 x23_3 x23_4 x23_5 x23_6 x23_7 x23_8_b x23_8_l x23_8_c x23_9 x24_0 x24_1 x24_2 x24_3 x24_4 x24_5 x24_6 x24_7 x24_8_b x24_8_l x24_8_c x24_9 w10 fun r25 w11 =>
  Bm (!r25) (
    Sts [.slice r19_b r19_l r19_c, .slice r22_b r22_l r22_c] ⟨b6, 0, none⟩ 0 w11 fun w12 =>
    LdL ⟨b6, 0, none⟩ w12 fun r_0_b r_0_l r_0_c =>
    LdL ⟨b6, 1, none⟩ w12 fun r_1_b r_1_l r_1_c =>
    R r_0_b r_0_l r_0_c r_1_b r_1_l r_1_c false w12) (
    synclaw_Apart.Call r19_b r19_l r19_c w11 fun r31 w13 =>
    Bm (!r31) (
      Sts [.slice r19_b r19_l r19_c, .slice r22_b r22_l r22_c] ⟨b6, 0, none⟩ 0 w13 fun w14 =>
      LdL ⟨b6, 0, none⟩ w14 fun r_0_b_1 r_0_l_1 r_0_c_1 =>
      LdL ⟨b6, 1, none⟩ w14 fun r_1_b_1 r_1_l_1 r_1_c_1 =>
      R r_0_b_1 r_0_l_1 r_0_c_1 r_1_b_1 r_1_l_1 r_1_c_1 false w14) (
      synclaw_SameMsgs.Call r19_b r19_l r19_c r22_b r22_l r22_c w13 fun r38 w15 =>
      Sts [.slice r19_b r19_l r19_c, .slice r22_b r22_l r22_c] ⟨b6, 0, none⟩ 0 w15 fun w16 =>
      LdL ⟨b6, 0, none⟩ w16 fun r_0_b_2 r_0_l_2 r_0_c_2 =>
      LdL ⟨b6, 1, none⟩ w16 fun r_1_b_2 r_1_l_2 r_1_c_2 =>
      R r_0_b_2 r_0_l_2 r_0_c_2 r_1_b_2 r_1_l_2 r_1_c_2 r38 w16))) = kstep Tryz.prog 43 Tryz.f24.results.toList (Tryz.f24.body.getD .skip) (synclaw_SameStep.RV R) (kvc Tryz.prog 43 Tryz.f24.results.toList (Tryz.f24.body.getD .skip) (synclaw_SameStep.RV R) [] 2000) [(0, [])] [(0, .pointer x), (1, .pointer m0), (2, .agg #[.int .i64 reg_0, .int .i64 reg_1, .int .i64 reg_2, .int .i64 reg_3, .int .i64 reg_4, .int .i64 reg_5, .int .i64 reg_6, .bool reg_7, .slice reg_8_b reg_8_l reg_8_c, .string reg_9])] w := by kernel_rfl
theorem synclaw_SameStep.B0_sound {R : Option Addr → Nat → Nat → Option Addr → Nat → Nat → Bool → World → Prop}  (x m0 : Option Addr) (reg_0 reg_1 reg_2 reg_3 reg_4 reg_5 reg_6 : Int) (reg_7 : Bool) (reg_8_b : Option Addr) (reg_8_l reg_8_c : Nat) (reg_9 : ByteArray) (w : World) (h : synclaw_SameStep.B0 x m0 reg_0 reg_1 reg_2 reg_3 reg_4 reg_5 reg_6 reg_7 reg_8_b reg_8_l reg_8_c reg_9 w   R) :
    KW Tryz.prog 24 43 (synclaw_SameStep.RV R) ([(0, [])].map (toItem (Tryz.f24.body.getD .skip))) [(0, .pointer x), (1, .pointer m0), (2, .agg #[.int .i64 reg_0, .int .i64 reg_1, .int .i64 reg_2, .int .i64 reg_3, .int .i64 reg_4, .int .i64 reg_5, .int .i64 reg_6, .bool reg_7, .slice reg_8_b reg_8_l reg_8_c, .string reg_9])] w := by
  exact block_spec Tryz.func24 Tryz.mixed stops_nil (Eq.mp (synclaw_SameStep.B0_eq x m0 reg_0 reg_1 reg_2 reg_3 reg_4 reg_5 reg_6 reg_7 reg_8_b reg_8_l reg_8_c reg_9 w   R ) h)
theorem synclaw_SameStep.sound (x m0 : Option Addr) (reg_0 reg_1 reg_2 reg_3 reg_4 reg_5 reg_6 : Int) (reg_7 : Bool) (reg_8_b : Option Addr) (reg_8_l reg_8_c : Nat) (reg_9 : ByteArray) (w : World) (R : Option Addr → Nat → Nat → Option Addr → Nat → Nat → Bool → World → Prop) (h : synclaw_SameStep.B0 x m0 reg_0 reg_1 reg_2 reg_3 reg_4 reg_5 reg_6 reg_7 reg_8_b reg_8_l reg_8_c reg_9 w R) : synclaw_SameStep.Call x m0 reg_0 reg_1 reg_2 reg_3 reg_4 reg_5 reg_6 reg_7 reg_8_b reg_8_l reg_8_c reg_9 w R := by
  have hc := calls_of_block (args := #[.pointer x, .pointer m0, .agg #[.int .i64 reg_0, .int .i64 reg_1, .int .i64 reg_2, .int .i64 reg_3, .int .i64 reg_4, .int .i64 reg_5, .int .i64 reg_6, .bool reg_7, .slice reg_8_b reg_8_l reg_8_c, .string reg_9]]) Tryz.func24 (body := (Tryz.f24.body.getD .skip)) (by kernel_rfl) (by kernel_rfl) (args_slot _) (synclaw_SameStep.B0_sound x m0 reg_0 reg_1 reg_2 reg_3 reg_4 reg_5 reg_6 reg_7 reg_8_b reg_8_l reg_8_c reg_9 w h)
  exact hc.mono fun e w' he => by
    obtain ⟨v, rfl, hv⟩ := he
    exact synclaw_SameStep.RV_elim hv
end Go.Proofs.Qxb6500433aGreat
