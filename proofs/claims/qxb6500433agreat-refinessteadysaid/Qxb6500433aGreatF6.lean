import Derived.Test.Qxb6500433aGreatSig
set_option maxRecDepth 100000
set_option linter.unusedVariables false
open Go.Vc
namespace Go.Proofs.Qxb6500433aGreat
def synclaw_SameMsg.B3 (a b : Nat) (t61 : Bool) (w : World)   (R : Bool → World → Prop) : Prop :=
  Bm t61 (
    R false w) (
    LdL ⟨a, 8, none⟩ w fun x63_b x63_l x63_c =>
    LdL ⟨b, 8, none⟩ w fun x65_b x65_l x65_c =>
    synclaw_SameEnts.Call x63_b x63_l x63_c x65_b x65_l x65_c w fun r66 w1 =>
    R r66 w1)
theorem synclaw_SameMsg.B3_eq (a b : Nat) (t61 : Bool) (w : World)   (R : Bool → World → Prop)  :
    (
  Bm t61 (
    R false w) (
    LdL ⟨a, 8, none⟩ w fun x63_b x63_l x63_c =>
    LdL ⟨b, 8, none⟩ w fun x65_b x65_l x65_c =>
    synclaw_SameEnts.Call x63_b x63_l x63_c x65_b x65_l x65_c w fun r66 w1 =>
    R r66 w1)) = kstep Tryz.prog 67 Tryz.f67.results.toList (Tryz.f67.body.getD .skip) (synclaw_SameMsg.RV R) (kvc Tryz.prog 67 Tryz.f67.results.toList (Tryz.f67.body.getD .skip) (synclaw_SameMsg.RV R) [] 2000) [(0, [1, 1, 1, 0, 1]), (0, [1, 1, 1, 1])] [(2, .pointer (some ⟨a, 0, none⟩)), (3, .pointer (some ⟨b, 0, none⟩)), (61, .bool t61)] w := by kernel_rfl
theorem synclaw_SameMsg.B3_sound {R : Bool → World → Prop}  (a b : Nat) (t61 : Bool) (w : World) (h : synclaw_SameMsg.B3 a b t61 w   R) :
    KW Tryz.prog 67 67 (synclaw_SameMsg.RV R) ([(0, [1, 1, 1, 0, 1]), (0, [1, 1, 1, 1])].map (toItem (Tryz.f67.body.getD .skip))) [(2, .pointer (some ⟨a, 0, none⟩)), (3, .pointer (some ⟨b, 0, none⟩)), (61, .bool t61)] w := by
  exact block_spec Tryz.func67 Tryz.mixed stops_nil (Eq.mp (synclaw_SameMsg.B3_eq a b t61 w   R ) h)
def synclaw_SameMsg.B2 (a b : Nat) (t49 : Bool) (w : World)   (R : Bool → World → Prop) : Prop :=
  Bm t49 (
    R false w) (
    LdB ⟨a, 7, none⟩ w fun x51 =>
    LdB ⟨b, 7, none⟩ w fun x53 =>
    Bm (!(x51 == x53)) (
      synclaw_SameMsg.B3 a b true w  R) (
      LdS ⟨a, 9, none⟩ w fun x57 =>
      LdS ⟨b, 9, none⟩ w fun x59 =>
      synclaw_SameMsg.B3 a b (!(x57.toList == x59.toList)) w  R))
theorem synclaw_SameMsg.B2_eq (a b : Nat) (t49 : Bool) (w : World)   (R : Bool → World → Prop) (sB3 : Nat → Nat → Bool → World → Prop) :
    (
  Bm t49 (
    R false w) (
    LdB ⟨a, 7, none⟩ w fun x51 =>
    LdB ⟨b, 7, none⟩ w fun x53 =>
    Bm (!(x51 == x53)) (
      sB3 a b true w) (
      LdS ⟨a, 9, none⟩ w fun x57 =>
      LdS ⟨b, 9, none⟩ w fun x59 =>
      sB3 a b (!(x57.toList == x59.toList)) w))) = kstep Tryz.prog 67 Tryz.f67.results.toList (Tryz.f67.body.getD .skip) (synclaw_SameMsg.RV R) (kvc Tryz.prog 67 Tryz.f67.results.toList (Tryz.f67.body.getD .skip) (synclaw_SameMsg.RV R) [([(0, [1, 1, 1, 0, 1]), (0, [1, 1, 1, 1])], fun σ w => dK (slotOf σ 2) fun a_ => dK (slotOf σ 3) fun b_ => dB (slotOf σ 61) fun t61_ => sB3 a_ b_ t61_ w)] 2000) [(0, [1, 1, 0, 1]), (0, [1, 1, 1])] [(2, .pointer (some ⟨a, 0, none⟩)), (3, .pointer (some ⟨b, 0, none⟩)), (49, .bool t49)] w := by kernel_rfl
theorem synclaw_SameMsg.B2_sound {R : Bool → World → Prop}  (a b : Nat) (t49 : Bool) (w : World) (h : synclaw_SameMsg.B2 a b t49 w   R) :
    KW Tryz.prog 67 67 (synclaw_SameMsg.RV R) ([(0, [1, 1, 0, 1]), (0, [1, 1, 1])].map (toItem (Tryz.f67.body.getD .skip))) [(2, .pointer (some ⟨a, 0, none⟩)), (3, .pointer (some ⟨b, 0, none⟩)), (49, .bool t49)] w := by
  exact block_spec Tryz.func67 Tryz.mixed (stops_cons (fun σ w h => by
      obtain ⟨a_, e0, h⟩ := dK_elim h
      obtain ⟨b_, e1, h⟩ := dK_elim h
      obtain ⟨t61_, e2, h⟩ := dB_elim h
      exact (synclaw_SameMsg.B3_sound  a_ b_ t61_ w h).weaken (Sub.cons (Sub.cons (Sub.cons (Sub.nil _) e2) e1) e0)) stops_nil) (Eq.mp (synclaw_SameMsg.B2_eq a b t49 w   R (fun a_ b_ t61_ w => synclaw_SameMsg.B3 a_ b_ t61_ w  R)) h)
def synclaw_SameMsg.B1 (a b : Nat) (t30 : Bool) (w : World)   (R : Bool → World → Prop) : Prop :=
  Bm t30 (
    R false w) (
    LdI .i64 ⟨a, 4, none⟩ w fun x32 =>
    LdI .i64 ⟨b, 4, none⟩ w fun x34 =>
    Bm (x32 != x34) (
      synclaw_SameMsg.B2 a b true w  R) (
      LdI .i64 ⟨a, 5, none⟩ w fun x38 =>
      LdI .i64 ⟨b, 5, none⟩ w fun x40 =>
      Bm (x38 != x40) (
        synclaw_SameMsg.B2 a b true w  R) (
        LdI .i64 ⟨a, 6, none⟩ w fun x45 =>
        LdI .i64 ⟨b, 6, none⟩ w fun x47 =>
        synclaw_SameMsg.B2 a b (x45 != x47) w  R)))
theorem synclaw_SameMsg.B1_eq (a b : Nat) (t30 : Bool) (w : World)   (R : Bool → World → Prop) (sB2 : Nat → Nat → Bool → World → Prop) :
    (
  Bm t30 (
    R false w) (
    LdI .i64 ⟨a, 4, none⟩ w fun x32 =>
    LdI .i64 ⟨b, 4, none⟩ w fun x34 =>
    Bm (x32 != x34) (
      sB2 a b true w) (
      LdI .i64 ⟨a, 5, none⟩ w fun x38 =>
      LdI .i64 ⟨b, 5, none⟩ w fun x40 =>
      Bm (x38 != x40) (
        sB2 a b true w) (
        LdI .i64 ⟨a, 6, none⟩ w fun x45 =>
        LdI .i64 ⟨b, 6, none⟩ w fun x47 =>
        sB2 a b (x45 != x47) w)))) = kstep Tryz.prog 67 Tryz.f67.results.toList (Tryz.f67.body.getD .skip) (synclaw_SameMsg.RV R) (kvc Tryz.prog 67 Tryz.f67.results.toList (Tryz.f67.body.getD .skip) (synclaw_SameMsg.RV R) [([(0, [1, 1, 0, 1]), (0, [1, 1, 1])], fun σ w => dK (slotOf σ 2) fun a_ => dK (slotOf σ 3) fun b_ => dB (slotOf σ 49) fun t49_ => sB2 a_ b_ t49_ w)] 2000) [(0, [1, 0, 1]), (0, [1, 1])] [(2, .pointer (some ⟨a, 0, none⟩)), (3, .pointer (some ⟨b, 0, none⟩)), (30, .bool t30)] w := by kernel_rfl
theorem synclaw_SameMsg.B1_sound {R : Bool → World → Prop}  (a b : Nat) (t30 : Bool) (w : World) (h : synclaw_SameMsg.B1 a b t30 w   R) :
    KW Tryz.prog 67 67 (synclaw_SameMsg.RV R) ([(0, [1, 0, 1]), (0, [1, 1])].map (toItem (Tryz.f67.body.getD .skip))) [(2, .pointer (some ⟨a, 0, none⟩)), (3, .pointer (some ⟨b, 0, none⟩)), (30, .bool t30)] w := by
  exact block_spec Tryz.func67 Tryz.mixed (stops_cons (fun σ w h => by
      obtain ⟨a_, e0, h⟩ := dK_elim h
      obtain ⟨b_, e1, h⟩ := dK_elim h
      obtain ⟨t49_, e2, h⟩ := dB_elim h
      exact (synclaw_SameMsg.B2_sound  a_ b_ t49_ w h).weaken (Sub.cons (Sub.cons (Sub.cons (Sub.nil _) e2) e1) e0)) stops_nil) (Eq.mp (synclaw_SameMsg.B1_eq a b t30 w   R (fun a_ b_ t49_ w => synclaw_SameMsg.B2 a_ b_ t49_ w  R)) h)
def synclaw_SameMsg.B0 (a_0 a_1 a_2 a_3 a_4 a_5 a_6 : Int) (a_7 : Bool) (a_8_b : Option Addr) (a_8_l a_8_c : Nat) (a_9 : ByteArray) (b_0 b_1 b_2 b_3 b_4 b_5 b_6 : Int) (b_7 : Bool) (b_8_b : Option Addr) (b_8_l b_8_c : Nat) (b_9 : ByteArray) (w : World)   (R : Bool → World → Prop) : Prop :=
  New (.cells #[.int .i64 a_0, .int .i64 a_1, .int .i64 a_2, .int .i64 a_3, .int .i64 a_4, .int .i64 a_5, .int .i64 a_6, .bool a_7, .slice a_8_b a_8_l a_8_c, .string a_9] 40) w fun a_ w1 =>
  New (.cells #[.int .i64 b_0, .int .i64 b_1, .int .i64 b_2, .int .i64 b_3, .int .i64 b_4, .int .i64 b_5, .int .i64 b_6, .bool b_7, .slice b_8_b b_8_l b_8_c, .string b_9] 40) w1 fun b_ w2 =>
  LdI .i64 ⟨a_, 0, none⟩ w2 fun x6 =>
  LdI .i64 ⟨b_, 0, none⟩ w2 fun x8 =>
  Bm (x6 != x8) (
    synclaw_SameMsg.B1 a_ b_ true w2  R) (
    LdI .i64 ⟨a_, 1, none⟩ w2 fun x12 =>
    LdI .i64 ⟨b_, 1, none⟩ w2 fun x14 =>
    Bm (x12 != x14) (
      synclaw_SameMsg.B1 a_ b_ true w2  R) (
      LdI .i64 ⟨a_, 2, none⟩ w2 fun x19 =>
      LdI .i64 ⟨b_, 2, none⟩ w2 fun x21 =>
      Bm (x19 != x21) (
        synclaw_SameMsg.B1 a_ b_ true w2  R) (
        LdI .i64 ⟨a_, 3, none⟩ w2 fun x26 =>
        LdI .i64 ⟨b_, 3, none⟩ w2 fun x28 =>
        synclaw_SameMsg.B1 a_ b_ (x26 != x28) w2  R)))
theorem synclaw_SameMsg.B0_eq (a_0 a_1 a_2 a_3 a_4 a_5 a_6 : Int) (a_7 : Bool) (a_8_b : Option Addr) (a_8_l a_8_c : Nat) (a_9 : ByteArray) (b_0 b_1 b_2 b_3 b_4 b_5 b_6 : Int) (b_7 : Bool) (b_8_b : Option Addr) (b_8_l b_8_c : Nat) (b_9 : ByteArray) (w : World)   (R : Bool → World → Prop) (sB1 : Nat → Nat → Bool → World → Prop) :
    (
  New (.cells #[.int .i64 a_0, .int .i64 a_1, .int .i64 a_2, .int .i64 a_3, .int .i64 a_4, .int .i64 a_5, .int .i64 a_6, .bool a_7, .slice a_8_b a_8_l a_8_c, .string a_9] 40) w fun a_ w1 =>
  New (.cells #[.int .i64 b_0, .int .i64 b_1, .int .i64 b_2, .int .i64 b_3, .int .i64 b_4, .int .i64 b_5, .int .i64 b_6, .bool b_7, .slice b_8_b b_8_l b_8_c, .string b_9] 40) w1 fun b_ w2 =>
  LdI .i64 ⟨a_, 0, none⟩ w2 fun x6 =>
  LdI .i64 ⟨b_, 0, none⟩ w2 fun x8 =>
  Bm (x6 != x8) (
    sB1 a_ b_ true w2) (
    LdI .i64 ⟨a_, 1, none⟩ w2 fun x12 =>
    LdI .i64 ⟨b_, 1, none⟩ w2 fun x14 =>
    Bm (x12 != x14) (
      sB1 a_ b_ true w2) (
      LdI .i64 ⟨a_, 2, none⟩ w2 fun x19 =>
      LdI .i64 ⟨b_, 2, none⟩ w2 fun x21 =>
      Bm (x19 != x21) (
        sB1 a_ b_ true w2) (
        LdI .i64 ⟨a_, 3, none⟩ w2 fun x26 =>
        LdI .i64 ⟨b_, 3, none⟩ w2 fun x28 =>
        sB1 a_ b_ (x26 != x28) w2)))) = kstep Tryz.prog 67 Tryz.f67.results.toList (Tryz.f67.body.getD .skip) (synclaw_SameMsg.RV R) (kvc Tryz.prog 67 Tryz.f67.results.toList (Tryz.f67.body.getD .skip) (synclaw_SameMsg.RV R) [([(0, [1, 0, 1]), (0, [1, 1])], fun σ w => dK (slotOf σ 2) fun a_ => dK (slotOf σ 3) fun b_ => dB (slotOf σ 30) fun t30_ => sB1 a_ b_ t30_ w)] 2000) [(0, [])] [(0, .agg #[.int .i64 a_0, .int .i64 a_1, .int .i64 a_2, .int .i64 a_3, .int .i64 a_4, .int .i64 a_5, .int .i64 a_6, .bool a_7, .slice a_8_b a_8_l a_8_c, .string a_9]), (1, .agg #[.int .i64 b_0, .int .i64 b_1, .int .i64 b_2, .int .i64 b_3, .int .i64 b_4, .int .i64 b_5, .int .i64 b_6, .bool b_7, .slice b_8_b b_8_l b_8_c, .string b_9])] w := by kernel_rfl
theorem synclaw_SameMsg.B0_sound {R : Bool → World → Prop}  (a_0 a_1 a_2 a_3 a_4 a_5 a_6 : Int) (a_7 : Bool) (a_8_b : Option Addr) (a_8_l a_8_c : Nat) (a_9 : ByteArray) (b_0 b_1 b_2 b_3 b_4 b_5 b_6 : Int) (b_7 : Bool) (b_8_b : Option Addr) (b_8_l b_8_c : Nat) (b_9 : ByteArray) (w : World) (h : synclaw_SameMsg.B0 a_0 a_1 a_2 a_3 a_4 a_5 a_6 a_7 a_8_b a_8_l a_8_c a_9 b_0 b_1 b_2 b_3 b_4 b_5 b_6 b_7 b_8_b b_8_l b_8_c b_9 w   R) :
    KW Tryz.prog 67 67 (synclaw_SameMsg.RV R) ([(0, [])].map (toItem (Tryz.f67.body.getD .skip))) [(0, .agg #[.int .i64 a_0, .int .i64 a_1, .int .i64 a_2, .int .i64 a_3, .int .i64 a_4, .int .i64 a_5, .int .i64 a_6, .bool a_7, .slice a_8_b a_8_l a_8_c, .string a_9]), (1, .agg #[.int .i64 b_0, .int .i64 b_1, .int .i64 b_2, .int .i64 b_3, .int .i64 b_4, .int .i64 b_5, .int .i64 b_6, .bool b_7, .slice b_8_b b_8_l b_8_c, .string b_9])] w := by
  exact block_spec Tryz.func67 Tryz.mixed (stops_cons (fun σ w h => by
      obtain ⟨a_, e0, h⟩ := dK_elim h
      obtain ⟨b_, e1, h⟩ := dK_elim h
      obtain ⟨t30_, e2, h⟩ := dB_elim h
      exact (synclaw_SameMsg.B1_sound  a_ b_ t30_ w h).weaken (Sub.cons (Sub.cons (Sub.cons (Sub.nil _) e2) e1) e0)) stops_nil) (Eq.mp (synclaw_SameMsg.B0_eq a_0 a_1 a_2 a_3 a_4 a_5 a_6 a_7 a_8_b a_8_l a_8_c a_9 b_0 b_1 b_2 b_3 b_4 b_5 b_6 b_7 b_8_b b_8_l b_8_c b_9 w   R (fun a_ b_ t30_ w => synclaw_SameMsg.B1 a_ b_ t30_ w  R)) h)
theorem synclaw_SameMsg.sound (a_0 a_1 a_2 a_3 a_4 a_5 a_6 : Int) (a_7 : Bool) (a_8_b : Option Addr) (a_8_l a_8_c : Nat) (a_9 : ByteArray) (b_0 b_1 b_2 b_3 b_4 b_5 b_6 : Int) (b_7 : Bool) (b_8_b : Option Addr) (b_8_l b_8_c : Nat) (b_9 : ByteArray) (w : World) (R : Bool → World → Prop) (h : synclaw_SameMsg.B0 a_0 a_1 a_2 a_3 a_4 a_5 a_6 a_7 a_8_b a_8_l a_8_c a_9 b_0 b_1 b_2 b_3 b_4 b_5 b_6 b_7 b_8_b b_8_l b_8_c b_9 w R) : synclaw_SameMsg.Call a_0 a_1 a_2 a_3 a_4 a_5 a_6 a_7 a_8_b a_8_l a_8_c a_9 b_0 b_1 b_2 b_3 b_4 b_5 b_6 b_7 b_8_b b_8_l b_8_c b_9 w R := by
  have hc := calls_of_block (args := #[.agg #[.int .i64 a_0, .int .i64 a_1, .int .i64 a_2, .int .i64 a_3, .int .i64 a_4, .int .i64 a_5, .int .i64 a_6, .bool a_7, .slice a_8_b a_8_l a_8_c, .string a_9], .agg #[.int .i64 b_0, .int .i64 b_1, .int .i64 b_2, .int .i64 b_3, .int .i64 b_4, .int .i64 b_5, .int .i64 b_6, .bool b_7, .slice b_8_b b_8_l b_8_c, .string b_9]]) Tryz.func67 (body := (Tryz.f67.body.getD .skip)) (by kernel_rfl) (by kernel_rfl) (args_slot _) (synclaw_SameMsg.B0_sound a_0 a_1 a_2 a_3 a_4 a_5 a_6 a_7 a_8_b a_8_l a_8_c a_9 b_0 b_1 b_2 b_3 b_4 b_5 b_6 b_7 b_8_b b_8_l b_8_c b_9 w h)
  exact hc.mono fun e w' he => by
    obtain ⟨v, rfl, hv⟩ := he
    exact synclaw_SameMsg.RV_elim hv
def synclaw_SamePropose.B0 (x m0 : Option Addr) (data : ByteArray) (w : World)   (R : Bool → World → Prop) : Prop :=
  sync_Sync_Propose.Call x data w fun r14_0 r14_1 w1 =>
  syncm_Sync_Propose.Call m0 data w1 fun r20_0 r20_1 w2 =>
  Bm (r14_0 == r20_0) (
    R (r14_1 == r20_1) w2) (
    R false w2)
theorem synclaw_SamePropose.B0_eq (x m0 : Option Addr) (data : ByteArray) (w : World)   (R : Bool → World → Prop)  :
    (
  sync_Sync_Propose.Call x data w fun r14_0 r14_1 w1 =>
  syncm_Sync_Propose.Call m0 data w1 fun r20_0 r20_1 w2 =>
  Bm (r14_0 == r20_0) (
    R (r14_1 == r20_1) w2) (
    R false w2)) = kstep Tryz.prog 31 Tryz.f68.results.toList (Tryz.f68.body.getD .skip) (synclaw_SamePropose.RV R) (kvc Tryz.prog 31 Tryz.f68.results.toList (Tryz.f68.body.getD .skip) (synclaw_SamePropose.RV R) [] 2000) [(0, [])] [(0, .pointer x), (1, .pointer m0), (2, .string data)] w := by kernel_rfl
theorem synclaw_SamePropose.B0_sound {R : Bool → World → Prop}  (x m0 : Option Addr) (data : ByteArray) (w : World) (h : synclaw_SamePropose.B0 x m0 data w   R) :
    KW Tryz.prog 68 31 (synclaw_SamePropose.RV R) ([(0, [])].map (toItem (Tryz.f68.body.getD .skip))) [(0, .pointer x), (1, .pointer m0), (2, .string data)] w := by
  exact block_spec Tryz.func68 Tryz.mixed stops_nil (Eq.mp (synclaw_SamePropose.B0_eq x m0 data w   R ) h)
theorem synclaw_SamePropose.sound (x m0 : Option Addr) (data : ByteArray) (w : World) (R : Bool → World → Prop) (h : synclaw_SamePropose.B0 x m0 data w R) : synclaw_SamePropose.Call x m0 data w R := by
  have hc := calls_of_block (args := #[.pointer x, .pointer m0, .string data]) Tryz.func68 (body := (Tryz.f68.body.getD .skip)) (by kernel_rfl) (by kernel_rfl) (args_slot _) (synclaw_SamePropose.B0_sound x m0 data w h)
  exact hc.mono fun e w' he => by
    obtain ⟨v, rfl, hv⟩ := he
    exact synclaw_SamePropose.RV_elim hv
def synclaw_SameCompact.B0 (x m0 : Option Addr) (upTo : Int) (snap : ByteArray) (w : World)   (R : Bool → World → Prop) : Prop :=
  sync_Sync_Compact.Call x upTo snap w fun r14 w1 =>
  syncm_Sync_Compact.Call m0 upTo snap w1 fun r18 w2 =>
  R (r14 == r18) w2
theorem synclaw_SameCompact.B0_eq (x m0 : Option Addr) (upTo : Int) (snap : ByteArray) (w : World)   (R : Bool → World → Prop)  :
    (
  sync_Sync_Compact.Call x upTo snap w fun r14 w1 =>
  syncm_Sync_Compact.Call m0 upTo snap w1 fun r18 w2 =>
  R (r14 == r18) w2) = kstep Tryz.prog 22 Tryz.f69.results.toList (Tryz.f69.body.getD .skip) (synclaw_SameCompact.RV R) (kvc Tryz.prog 22 Tryz.f69.results.toList (Tryz.f69.body.getD .skip) (synclaw_SameCompact.RV R) [] 2000) [(0, [])] [(0, .pointer x), (1, .pointer m0), (2, .int .i64 upTo), (3, .string snap)] w := by kernel_rfl
theorem synclaw_SameCompact.B0_sound {R : Bool → World → Prop}  (x m0 : Option Addr) (upTo : Int) (snap : ByteArray) (w : World) (h : synclaw_SameCompact.B0 x m0 upTo snap w   R) :
    KW Tryz.prog 69 22 (synclaw_SameCompact.RV R) ([(0, [])].map (toItem (Tryz.f69.body.getD .skip))) [(0, .pointer x), (1, .pointer m0), (2, .int .i64 upTo), (3, .string snap)] w := by
  exact block_spec Tryz.func69 Tryz.mixed stops_nil (Eq.mp (synclaw_SameCompact.B0_eq x m0 upTo snap w   R ) h)
theorem synclaw_SameCompact.sound (x m0 : Option Addr) (upTo : Int) (snap : ByteArray) (w : World) (R : Bool → World → Prop) (h : synclaw_SameCompact.B0 x m0 upTo snap w R) : synclaw_SameCompact.Call x m0 upTo snap w R := by
  have hc := calls_of_block (args := #[.pointer x, .pointer m0, .int .i64 upTo, .string snap]) Tryz.func69 (body := (Tryz.f69.body.getD .skip)) (by kernel_rfl) (by kernel_rfl) (args_slot _) (synclaw_SameCompact.B0_sound x m0 upTo snap w h)
  exact hc.mono fun e w' he => by
    obtain ⟨v, rfl, hv⟩ := he
    exact synclaw_SameCompact.RV_elim hv
def synclaw_StillStamped.L3b (k : Nat) (i j : Int) (w : World) (N2 : Nat → Int → World → Prop) (N3 : Nat → Int → Int → World → Prop) (R : Bool → World → Prop) : Prop :=
  LdL ⟨k, 1, none⟩ w fun x30_b x30_l x30_c =>
  Pn x30_b fun a =>
  (0 ≤ i ∧ i < ((x30_l : Nat) : Int)) ∧
  LdL (Addr.add a (i.toNat * 1)) w fun x33_b x33_l x33_c =>
  Bm (decide (j < ((x33_l : Nat) : Int))) (
    LdL ⟨k, 1, none⟩ w fun x39_b x39_l x39_c =>
    Pn x39_b fun a_1 =>
    (0 ≤ i ∧ i < ((x39_l : Nat) : Int)) ∧
    LdL (Addr.add a_1 (i.toNat * 1)) w fun x42_b x42_l x42_c =>
    Pn x42_b fun a_2 =>
    (0 ≤ j ∧ j < ((x42_l : Nat) : Int)) ∧
    LdI .i64 (Addr.add a_2 (j.toNat * 2)) w fun x45_0 =>
    LdS ((Addr.add a_2 (j.toNat * 2)).add 1) w fun x45_1 =>
    synclaw_SameEntry.Call x45_0 x45_1 (-7 : Int) (ByteArray.mk #[]) w fun r47 w1 =>
    Bm (!r47) (
      R false w1) (
      N3 k i (IntKind.i64.wrap (j + (1 : Int))) w1)) (
    N2 k (IntKind.i64.wrap (i + (1 : Int))) w)
theorem synclaw_StillStamped.L3b_eq (k : Nat) (i j : Int) (w : World) (N2 : Nat → Int → World → Prop) (N3 : Nat → Int → Int → World → Prop) (R : Bool → World → Prop)  :
    (
  LdL ⟨k, 1, none⟩ w fun x30_b x30_l x30_c =>
  Pn x30_b fun a =>
  (0 ≤ i ∧ i < ((x30_l : Nat) : Int)) ∧
  LdL (Addr.add a (i.toNat * 1)) w fun x33_b x33_l x33_c =>
  Bm (decide (j < ((x33_l : Nat) : Int))) (
    LdL ⟨k, 1, none⟩ w fun x39_b x39_l x39_c =>
    Pn x39_b fun a_1 =>
    (0 ≤ i ∧ i < ((x39_l : Nat) : Int)) ∧
    LdL (Addr.add a_1 (i.toNat * 1)) w fun x42_b x42_l x42_c =>
    Pn x42_b fun a_2 =>
    (0 ≤ j ∧ j < ((x42_l : Nat) : Int)) ∧
    LdI .i64 (Addr.add a_2 (j.toNat * 2)) w fun x45_0 =>
    LdS ((Addr.add a_2 (j.toNat * 2)).add 1) w fun x45_1 =>
    synclaw_SameEntry.Call x45_0 x45_1 (-7 : Int) (ByteArray.mk #[]) w fun r47 w1 =>
    Bm (!r47) (
      R false w1) (
      N3 k i (IntKind.i64.wrap (j + (1 : Int))) w1)) (
    N2 k (IntKind.i64.wrap (i + (1 : Int))) w)) = kstep Tryz.prog 49 Tryz.f70.results.toList (Tryz.f70.body.getD .skip) (synclaw_StillStamped.RV R) (kvc Tryz.prog 49 Tryz.f70.results.toList (Tryz.f70.body.getD .skip) (synclaw_StillStamped.RV R) [([(0, [1, 1, 0, 1, 0, 0, 1, 0, 0, 1, 0, 0]), (2, [1, 1, 0, 1, 0, 0, 1, 0, 0, 1, 0, 0]), (1, [4]), (1, [3]), (0, [1, 1, 0, 1, 0, 0, 1, 1]), (2, [1, 1, 0, 1, 0, 0]), (1, [2]), (0, [1, 1, 1])], fun σ w => dK (slotOf σ 1) fun k_ => dI .i64 (slotOf σ 4) fun i_ => dI .i64 (slotOf σ 5) fun j_ => N3 k_ i_ j_ w),
    ([(0, [1, 1, 0, 1, 0, 0]), (2, [1, 1, 0, 1, 0, 0]), (1, [2]), (0, [1, 1, 1])], fun σ w => dK (slotOf σ 1) fun k_ => dI .i64 (slotOf σ 4) fun i_ => N2 k_ i_ w)] 2000) [(0, [1, 1, 0, 1, 0, 0, 1, 0, 0, 1, 0, 0]), (2, [1, 1, 0, 1, 0, 0, 1, 0, 0, 1, 0, 0]), (1, [4]), (1, [3]), (0, [1, 1, 0, 1, 0, 0, 1, 1]), (2, [1, 1, 0, 1, 0, 0]), (1, [2]), (0, [1, 1, 1])] [(1, .pointer (some ⟨k, 0, none⟩)), (4, .int .i64 i), (5, .int .i64 j)] w := by kernel_rfl
theorem synclaw_StillStamped.L3b_sound {R : Bool → World → Prop} {N2 : Nat → Int → World → Prop} (hN2 : ∀ k i w, N2 k i w → KW Tryz.prog 70 49 (synclaw_StillStamped.RV R) ([(0, [1, 1, 0, 1, 0, 0]), (2, [1, 1, 0, 1, 0, 0]), (1, [2]), (0, [1, 1, 1])].map (toItem (Tryz.f70.body.getD .skip))) [(1, .pointer (some ⟨k, 0, none⟩)), (4, .int .i64 i)] w) {N3 : Nat → Int → Int → World → Prop} (hN3 : ∀ k i j w, N3 k i j w → KW Tryz.prog 70 49 (synclaw_StillStamped.RV R) ([(0, [1, 1, 0, 1, 0, 0, 1, 0, 0, 1, 0, 0]), (2, [1, 1, 0, 1, 0, 0, 1, 0, 0, 1, 0, 0]), (1, [4]), (1, [3]), (0, [1, 1, 0, 1, 0, 0, 1, 1]), (2, [1, 1, 0, 1, 0, 0]), (1, [2]), (0, [1, 1, 1])].map (toItem (Tryz.f70.body.getD .skip))) [(1, .pointer (some ⟨k, 0, none⟩)), (4, .int .i64 i), (5, .int .i64 j)] w) (k : Nat) (i j : Int) (w : World) (h : synclaw_StillStamped.L3b k i j w N2 N3 R) :
    KW Tryz.prog 70 49 (synclaw_StillStamped.RV R) ([(0, [1, 1, 0, 1, 0, 0, 1, 0, 0, 1, 0, 0]), (2, [1, 1, 0, 1, 0, 0, 1, 0, 0, 1, 0, 0]), (1, [4]), (1, [3]), (0, [1, 1, 0, 1, 0, 0, 1, 1]), (2, [1, 1, 0, 1, 0, 0]), (1, [2]), (0, [1, 1, 1])].map (toItem (Tryz.f70.body.getD .skip))) [(1, .pointer (some ⟨k, 0, none⟩)), (4, .int .i64 i), (5, .int .i64 j)] w := by
  exact block_spec Tryz.func70 Tryz.mixed (stops_cons (fun σ w h => by
      obtain ⟨k_, e0, h⟩ := dK_elim h
      obtain ⟨i_, e1, h⟩ := dI_elim h
      obtain ⟨j_, e2, h⟩ := dI_elim h
      exact (hN3 k_ i_ j_ w h).weaken (Sub.cons (Sub.cons (Sub.cons (Sub.nil _) e2) e1) e0)) (stops_cons (fun σ w h => by
      obtain ⟨k_, e0, h⟩ := dK_elim h
      obtain ⟨i_, e1, h⟩ := dI_elim h
      exact (hN2 k_ i_ w h).weaken (Sub.cons (Sub.cons (Sub.nil _) e1) e0)) stops_nil)) (Eq.mp (synclaw_StillStamped.L3b_eq k i j w N2 N3 R ) h)
def synclaw_StillStamped.L3 (k : Nat) (i j : Int) (w : World) (N2 : Nat → Int → World → Prop) (R : Bool → World → Prop) : Prop :=
  ∃ (I : Nat → Nat → Int → Int → World → Prop) (m : Nat), I m k i j w ∧ ∀ m k i j w, I m k i j w → synclaw_StillStamped.L3b k i j w N2 (fun k' i' j' w' => ∃ m', m' < m ∧ I m' k' i' j' w') R
theorem synclaw_StillStamped.L3_sound {R : Bool → World → Prop} {N2 : Nat → Int → World → Prop} (hN2 : ∀ k i w, N2 k i w → KW Tryz.prog 70 49 (synclaw_StillStamped.RV R) ([(0, [1, 1, 0, 1, 0, 0]), (2, [1, 1, 0, 1, 0, 0]), (1, [2]), (0, [1, 1, 1])].map (toItem (Tryz.f70.body.getD .skip))) [(1, .pointer (some ⟨k, 0, none⟩)), (4, .int .i64 i)] w) (k : Nat) (i j : Int) (w : World) (h : synclaw_StillStamped.L3 k i j w N2 R) :
    KW Tryz.prog 70 49 (synclaw_StillStamped.RV R) ([(0, [1, 1, 0, 1, 0, 0, 1, 0, 0, 1, 0, 0]), (2, [1, 1, 0, 1, 0, 0, 1, 0, 0, 1, 0, 0]), (1, [4]), (1, [3]), (0, [1, 1, 0, 1, 0, 0, 1, 1]), (2, [1, 1, 0, 1, 0, 0]), (1, [2]), (0, [1, 1, 1])].map (toItem (Tryz.f70.body.getD .skip))) [(1, .pointer (some ⟨k, 0, none⟩)), (4, .int .i64 i), (5, .int .i64 j)] w := by
  obtain ⟨I, m, hBase, hr⟩ := h
  refine KW.loop (fun m σ w => ∃ (k : Nat) (i j : Int), σ = [(1, .pointer (some ⟨k, 0, none⟩)), (4, .int .i64 i), (5, .int .i64 j)] ∧ I m k i j w) ?_ m _ w ⟨k, i, j, rfl, hBase⟩
  rintro m ih σ w ⟨k, i, j, rfl, hI⟩
  exact synclaw_StillStamped.L3b_sound hN2 (N3 := fun k' i' j' w' => ∃ m', m' < m ∧ I m' k' i' j' w') (fun k' i' j' w' hx => by obtain ⟨m', hlt, hI'⟩ := hx; exact ih m' hlt _ w' ⟨k', i', j', rfl, hI'⟩) k i j w (hr m k i j w hI)
def synclaw_StillStamped.L2b (k : Nat) (i : Int) (w : World)  (N2 : Nat → Int → World → Prop) (R : Bool → World → Prop) : Prop :=
  LdL ⟨k, 1, none⟩ w fun x23_b x23_l x23_c =>
  Bm (decide (i < ((x23_l : Nat) : Int))) (
    synclaw_StillStamped.L3 k i (0 : Int) w N2 R) (
    R true w)
theorem synclaw_StillStamped.L2b_eq (k : Nat) (i : Int) (w : World)  (N2 : Nat → Int → World → Prop) (R : Bool → World → Prop) (sL3 : Nat → Int → Int → World → Prop) :
    (
  LdL ⟨k, 1, none⟩ w fun x23_b x23_l x23_c =>
  Bm (decide (i < ((x23_l : Nat) : Int))) (
    sL3 k i (0 : Int) w) (
    R true w)) = kstep Tryz.prog 49 Tryz.f70.results.toList (Tryz.f70.body.getD .skip) (synclaw_StillStamped.RV R) (kvc Tryz.prog 49 Tryz.f70.results.toList (Tryz.f70.body.getD .skip) (synclaw_StillStamped.RV R) [([(0, [1, 1, 0, 1, 0, 0, 1, 0, 0, 1, 0, 0]), (2, [1, 1, 0, 1, 0, 0, 1, 0, 0, 1, 0, 0]), (1, [4]), (1, [3]), (0, [1, 1, 0, 1, 0, 0, 1, 1]), (2, [1, 1, 0, 1, 0, 0]), (1, [2]), (0, [1, 1, 1])], fun σ w => dK (slotOf σ 1) fun k_ => dI .i64 (slotOf σ 4) fun i_ => dI .i64 (slotOf σ 5) fun j_ => sL3 k_ i_ j_ w)] 2000) [(0, [1, 1, 0, 1, 0, 0]), (2, [1, 1, 0, 1, 0, 0]), (1, [2]), (0, [1, 1, 1])] [(1, .pointer (some ⟨k, 0, none⟩)), (4, .int .i64 i)] w := by kernel_rfl
theorem synclaw_StillStamped.L2b_sound {R : Bool → World → Prop} {N2 : Nat → Int → World → Prop} (hN2 : ∀ k i w, N2 k i w → KW Tryz.prog 70 49 (synclaw_StillStamped.RV R) ([(0, [1, 1, 0, 1, 0, 0]), (2, [1, 1, 0, 1, 0, 0]), (1, [2]), (0, [1, 1, 1])].map (toItem (Tryz.f70.body.getD .skip))) [(1, .pointer (some ⟨k, 0, none⟩)), (4, .int .i64 i)] w) (k : Nat) (i : Int) (w : World) (h : synclaw_StillStamped.L2b k i w  N2 R) :
    KW Tryz.prog 70 49 (synclaw_StillStamped.RV R) ([(0, [1, 1, 0, 1, 0, 0]), (2, [1, 1, 0, 1, 0, 0]), (1, [2]), (0, [1, 1, 1])].map (toItem (Tryz.f70.body.getD .skip))) [(1, .pointer (some ⟨k, 0, none⟩)), (4, .int .i64 i)] w := by
  exact block_spec Tryz.func70 Tryz.mixed (stops_cons (fun σ w h => by
      obtain ⟨k_, e0, h⟩ := dK_elim h
      obtain ⟨i_, e1, h⟩ := dI_elim h
      obtain ⟨j_, e2, h⟩ := dI_elim h
      exact (synclaw_StillStamped.L3_sound hN2 k_ i_ j_ w h).weaken (Sub.cons (Sub.cons (Sub.cons (Sub.nil _) e2) e1) e0)) stops_nil) (Eq.mp (synclaw_StillStamped.L2b_eq k i w  N2 R (fun k_ i_ j_ w => synclaw_StillStamped.L3 k_ i_ j_ w N2 R)) h)
def synclaw_StillStamped.L2 (k : Nat) (i : Int) (w : World)  (R : Bool → World → Prop) : Prop :=
  ∃ (I : Nat → Nat → Int → World → Prop) (m : Nat), I m k i w ∧ ∀ m k i w, I m k i w → synclaw_StillStamped.L2b k i w  (fun k' i' w' => ∃ m', m' < m ∧ I m' k' i' w') R
theorem synclaw_StillStamped.L2_sound {R : Bool → World → Prop}  (k : Nat) (i : Int) (w : World) (h : synclaw_StillStamped.L2 k i w  R) :
    KW Tryz.prog 70 49 (synclaw_StillStamped.RV R) ([(0, [1, 1, 0, 1, 0, 0]), (2, [1, 1, 0, 1, 0, 0]), (1, [2]), (0, [1, 1, 1])].map (toItem (Tryz.f70.body.getD .skip))) [(1, .pointer (some ⟨k, 0, none⟩)), (4, .int .i64 i)] w := by
  obtain ⟨I, m, hBase, hr⟩ := h
  refine KW.loop (fun m σ w => ∃ (k : Nat) (i : Int), σ = [(1, .pointer (some ⟨k, 0, none⟩)), (4, .int .i64 i)] ∧ I m k i w) ?_ m _ w ⟨k, i, rfl, hBase⟩
  rintro m ih σ w ⟨k, i, rfl, hI⟩
  exact synclaw_StillStamped.L2b_sound  (N2 := fun k' i' w' => ∃ m', m' < m ∧ I m' k' i' w') (fun k' i' w' hx => by obtain ⟨m', hlt, hI'⟩ := hx; exact ih m' hlt _ w' ⟨k', i', rfl, hI'⟩) k i w (hr m k i w hI)
def synclaw_StillStamped.L1b (k : Nat) (i : Int) (w : World)  (N1 : Nat → Int → World → Prop) (R : Bool → World → Prop) : Prop :=
  LdL ⟨k, 0, none⟩ w fun x8_b x8_l x8_c =>
  Bm (decide (i < ((x8_l : Nat) : Int))) (
    LdL ⟨k, 0, none⟩ w fun x14_b x14_l x14_c =>
    Pn x14_b fun a =>
    (0 ≤ i ∧ i < ((x14_l : Nat) : Int)) ∧
    LdI .i64 (Addr.add a (i.toNat * 10)) w fun x17_0 =>
    LdI .i64 ((Addr.add a (i.toNat * 10)).add 1) w fun x17_1 =>
    LdI .i64 ((Addr.add a (i.toNat * 10)).add 2) w fun x17_2 =>
    LdI .i64 ((Addr.add a (i.toNat * 10)).add 3) w fun x17_3 =>
    LdI .i64 ((Addr.add a (i.toNat * 10)).add 4) w fun x17_4 =>
    LdI .i64 ((Addr.add a (i.toNat * 10)).add 5) w fun x17_5 =>
    LdI .i64 ((Addr.add a (i.toNat * 10)).add 6) w fun x17_6 =>
    LdB ((Addr.add a (i.toNat * 10)).add 7) w fun x17_7 =>
    LdL ((Addr.add a (i.toNat * 10)).add 8) w fun x17_8_b x17_8_l x17_8_c =>
    LdS ((Addr.add a (i.toNat * 10)).add 9) w fun x17_9 =>
    synclaw_SameMsg.Call x17_0 x17_1 x17_2 x17_3 x17_4 x17_5 x17_6 x17_7 x17_8_b x17_8_l x17_8_c x17_9 (-7 : Int) (0 : Int) (0 : Int) (0 : Int) (0 : Int) (0 : Int) (0 : Int) false none 0 0 (ByteArray.mk #[]) w fun r19 w1 =>
    Bm (!r19) (
      R false w1) (
      N1 k (IntKind.i64.wrap (i + (1 : Int))) w1)) (
    synclaw_StillStamped.L2 k (0 : Int) w  R)
theorem synclaw_StillStamped.L1b_eq (k : Nat) (i : Int) (w : World)  (N1 : Nat → Int → World → Prop) (R : Bool → World → Prop) (sL2 : Nat → Int → World → Prop) :
    (
  LdL ⟨k, 0, none⟩ w fun x8_b x8_l x8_c =>
  Bm (decide (i < ((x8_l : Nat) : Int))) (
    LdL ⟨k, 0, none⟩ w fun x14_b x14_l x14_c =>
    Pn x14_b fun a =>
    (0 ≤ i ∧ i < ((x14_l : Nat) : Int)) ∧
    LdI .i64 (Addr.add a (i.toNat * 10)) w fun x17_0 =>
    LdI .i64 ((Addr.add a (i.toNat * 10)).add 1) w fun x17_1 =>
    LdI .i64 ((Addr.add a (i.toNat * 10)).add 2) w fun x17_2 =>
    LdI .i64 ((Addr.add a (i.toNat * 10)).add 3) w fun x17_3 =>
    LdI .i64 ((Addr.add a (i.toNat * 10)).add 4) w fun x17_4 =>
    LdI .i64 ((Addr.add a (i.toNat * 10)).add 5) w fun x17_5 =>
    LdI .i64 ((Addr.add a (i.toNat * 10)).add 6) w fun x17_6 =>
    LdB ((Addr.add a (i.toNat * 10)).add 7) w fun x17_7 =>
    LdL ((Addr.add a (i.toNat * 10)).add 8) w fun x17_8_b x17_8_l x17_8_c =>
    LdS ((Addr.add a (i.toNat * 10)).add 9) w fun x17_9 =>
    synclaw_SameMsg.Call x17_0 x17_1 x17_2 x17_3 x17_4 x17_5 x17_6 x17_7 x17_8_b x17_8_l x17_8_c x17_9 (-7 : Int) (0 : Int) (0 : Int) (0 : Int) (0 : Int) (0 : Int) (0 : Int) false none 0 0 (ByteArray.mk #[]) w fun r19 w1 =>
    Bm (!r19) (
      R false w1) (
      N1 k (IntKind.i64.wrap (i + (1 : Int))) w1)) (
    sL2 k (0 : Int) w)) = kstep Tryz.prog 49 Tryz.f70.results.toList (Tryz.f70.body.getD .skip) (synclaw_StillStamped.RV R) (kvc Tryz.prog 49 Tryz.f70.results.toList (Tryz.f70.body.getD .skip) (synclaw_StillStamped.RV R) [([(0, [1, 0, 1, 0, 0]), (2, [1, 0, 1, 0, 0]), (1, [0]), (0, [1, 1])], fun σ w => dK (slotOf σ 1) fun k_ => dI .i64 (slotOf σ 3) fun i_ => N1 k_ i_ w),
    ([(0, [1, 1, 0, 1, 0, 0]), (2, [1, 1, 0, 1, 0, 0]), (1, [2]), (0, [1, 1, 1])], fun σ w => dK (slotOf σ 1) fun k_ => dI .i64 (slotOf σ 4) fun i_ => sL2 k_ i_ w)] 2000) [(0, [1, 0, 1, 0, 0]), (2, [1, 0, 1, 0, 0]), (1, [0]), (0, [1, 1])] [(1, .pointer (some ⟨k, 0, none⟩)), (3, .int .i64 i)] w := by kernel_rfl
theorem synclaw_StillStamped.L1b_sound {R : Bool → World → Prop} {N1 : Nat → Int → World → Prop} (hN1 : ∀ k i w, N1 k i w → KW Tryz.prog 70 49 (synclaw_StillStamped.RV R) ([(0, [1, 0, 1, 0, 0]), (2, [1, 0, 1, 0, 0]), (1, [0]), (0, [1, 1])].map (toItem (Tryz.f70.body.getD .skip))) [(1, .pointer (some ⟨k, 0, none⟩)), (3, .int .i64 i)] w) (k : Nat) (i : Int) (w : World) (h : synclaw_StillStamped.L1b k i w  N1 R) :
    KW Tryz.prog 70 49 (synclaw_StillStamped.RV R) ([(0, [1, 0, 1, 0, 0]), (2, [1, 0, 1, 0, 0]), (1, [0]), (0, [1, 1])].map (toItem (Tryz.f70.body.getD .skip))) [(1, .pointer (some ⟨k, 0, none⟩)), (3, .int .i64 i)] w := by
  exact block_spec Tryz.func70 Tryz.mixed (stops_cons (fun σ w h => by
      obtain ⟨k_, e0, h⟩ := dK_elim h
      obtain ⟨i_, e1, h⟩ := dI_elim h
      exact (hN1 k_ i_ w h).weaken (Sub.cons (Sub.cons (Sub.nil _) e1) e0)) (stops_cons (fun σ w h => by
      obtain ⟨k_, e0, h⟩ := dK_elim h
      obtain ⟨i_, e1, h⟩ := dI_elim h
      exact (synclaw_StillStamped.L2_sound  k_ i_ w h).weaken (Sub.cons (Sub.cons (Sub.nil _) e1) e0)) stops_nil)) (Eq.mp (synclaw_StillStamped.L1b_eq k i w  N1 R (fun k_ i_ w => synclaw_StillStamped.L2 k_ i_ w  R)) h)
def synclaw_StillStamped.L1 (k : Nat) (i : Int) (w : World)  (R : Bool → World → Prop) : Prop :=
  ∃ (I : Nat → Nat → Int → World → Prop) (m : Nat), I m k i w ∧ ∀ m k i w, I m k i w → synclaw_StillStamped.L1b k i w  (fun k' i' w' => ∃ m', m' < m ∧ I m' k' i' w') R
theorem synclaw_StillStamped.L1_sound {R : Bool → World → Prop}  (k : Nat) (i : Int) (w : World) (h : synclaw_StillStamped.L1 k i w  R) :
    KW Tryz.prog 70 49 (synclaw_StillStamped.RV R) ([(0, [1, 0, 1, 0, 0]), (2, [1, 0, 1, 0, 0]), (1, [0]), (0, [1, 1])].map (toItem (Tryz.f70.body.getD .skip))) [(1, .pointer (some ⟨k, 0, none⟩)), (3, .int .i64 i)] w := by
  obtain ⟨I, m, hBase, hr⟩ := h
  refine KW.loop (fun m σ w => ∃ (k : Nat) (i : Int), σ = [(1, .pointer (some ⟨k, 0, none⟩)), (3, .int .i64 i)] ∧ I m k i w) ?_ m _ w ⟨k, i, rfl, hBase⟩
  rintro m ih σ w ⟨k, i, rfl, hI⟩
  exact synclaw_StillStamped.L1b_sound  (N1 := fun k' i' w' => ∃ m', m' < m ∧ I m' k' i' w') (fun k' i' w' hx => by obtain ⟨m', hlt, hI'⟩ := hx; exact ih m' hlt _ w' ⟨k', i', rfl, hI'⟩) k i w (hr m k i w hI)
def synclaw_StillStamped.B0 (k_0_b : Option Addr) (k_0_l k_0_c : Nat) (k_1_b : Option Addr) (k_1_l k_1_c : Nat) (w : World)   (R : Bool → World → Prop) : Prop :=
  New (.cells #[.slice k_0_b k_0_l k_0_c, .slice k_1_b k_1_l k_1_c] 64) w fun k_ w1 =>
  synclaw_StillStamped.L1 k_ (0 : Int) w1  R
theorem synclaw_StillStamped.B0_eq (k_0_b : Option Addr) (k_0_l k_0_c : Nat) (k_1_b : Option Addr) (k_1_l k_1_c : Nat) (w : World)   (R : Bool → World → Prop) (sL1 : Nat → Int → World → Prop) :
    (
  New (.cells #[.slice k_0_b k_0_l k_0_c, .slice k_1_b k_1_l k_1_c] 64) w fun k_ w1 =>
  sL1 k_ (0 : Int) w1) = kstep Tryz.prog 49 Tryz.f70.results.toList (Tryz.f70.body.getD .skip) (synclaw_StillStamped.RV R) (kvc Tryz.prog 49 Tryz.f70.results.toList (Tryz.f70.body.getD .skip) (synclaw_StillStamped.RV R) [([(0, [1, 0, 1, 0, 0]), (2, [1, 0, 1, 0, 0]), (1, [0]), (0, [1, 1])], fun σ w => dK (slotOf σ 1) fun k_ => dI .i64 (slotOf σ 3) fun i_ => sL1 k_ i_ w)] 2000) [(0, [])] [(0, .agg #[.slice k_0_b k_0_l k_0_c, .slice k_1_b k_1_l k_1_c])] w := by kernel_rfl
theorem synclaw_StillStamped.B0_sound {R : Bool → World → Prop}  (k_0_b : Option Addr) (k_0_l k_0_c : Nat) (k_1_b : Option Addr) (k_1_l k_1_c : Nat) (w : World) (h : synclaw_StillStamped.B0 k_0_b k_0_l k_0_c k_1_b k_1_l k_1_c w   R) :
    KW Tryz.prog 70 49 (synclaw_StillStamped.RV R) ([(0, [])].map (toItem (Tryz.f70.body.getD .skip))) [(0, .agg #[.slice k_0_b k_0_l k_0_c, .slice k_1_b k_1_l k_1_c])] w := by
  exact block_spec Tryz.func70 Tryz.mixed (stops_cons (fun σ w h => by
      obtain ⟨k_, e0, h⟩ := dK_elim h
      obtain ⟨i_, e1, h⟩ := dI_elim h
      exact (synclaw_StillStamped.L1_sound  k_ i_ w h).weaken (Sub.cons (Sub.cons (Sub.nil _) e1) e0)) stops_nil) (Eq.mp (synclaw_StillStamped.B0_eq k_0_b k_0_l k_0_c k_1_b k_1_l k_1_c w   R (fun k_ i_ w => synclaw_StillStamped.L1 k_ i_ w  R)) h)
theorem synclaw_StillStamped.sound (k_0_b : Option Addr) (k_0_l k_0_c : Nat) (k_1_b : Option Addr) (k_1_l k_1_c : Nat) (w : World) (R : Bool → World → Prop) (h : synclaw_StillStamped.B0 k_0_b k_0_l k_0_c k_1_b k_1_l k_1_c w R) : synclaw_StillStamped.Call k_0_b k_0_l k_0_c k_1_b k_1_l k_1_c w R := by
  have hc := calls_of_block (args := #[.agg #[.slice k_0_b k_0_l k_0_c, .slice k_1_b k_1_l k_1_c]]) Tryz.func70 (body := (Tryz.f70.body.getD .skip)) (by kernel_rfl) (by kernel_rfl) (args_slot _) (synclaw_StillStamped.B0_sound k_0_b k_0_l k_0_c k_1_b k_1_l k_1_c w h)
  exact hc.mono fun e w' he => by
    obtain ⟨v, rfl, hv⟩ := he
    exact synclaw_StillStamped.RV_elim hv
def diskm_blocks.B0 (a_b : Option Addr) (a_l a_c : Nat) (w : World)   (R : Option Addr → Nat → Nat → World → Prop) : Prop :=
  Make 9 (.string (ByteArray.mk #[])) 1 16 ((a_l : Nat) : Int) ((a_l : Nat) : Int) w fun b6 w1 =>
  Copy 1 (some ⟨b6, 0, none⟩) (((a_l : Nat) : Int).toNat) a_b a_l w1 fun n9 w2 =>
  R (some ⟨b6, 0, none⟩) (((a_l : Nat) : Int).toNat) (((a_l : Nat) : Int).toNat) w2
theorem diskm_blocks.B0_eq (a_b : Option Addr) (a_l a_c : Nat) (w : World)   (R : Option Addr → Nat → Nat → World → Prop)  :
    (
  Make 9 (.string (ByteArray.mk #[])) 1 16 ((a_l : Nat) : Int) ((a_l : Nat) : Int) w fun b6 w1 =>
  Copy 1 (some ⟨b6, 0, none⟩) (((a_l : Nat) : Int).toNat) a_b a_l w1 fun n9 w2 =>
  R (some ⟨b6, 0, none⟩) (((a_l : Nat) : Int).toNat) (((a_l : Nat) : Int).toNat) w2) = kstep Tryz.prog 11 Tryz.f71.results.toList (Tryz.f71.body.getD .skip) (diskm_blocks.RV R) (kvc Tryz.prog 11 Tryz.f71.results.toList (Tryz.f71.body.getD .skip) (diskm_blocks.RV R) [] 2000) [(0, [])] [(0, .slice a_b a_l a_c)] w := by kernel_rfl
theorem diskm_blocks.B0_sound {R : Option Addr → Nat → Nat → World → Prop}  (a_b : Option Addr) (a_l a_c : Nat) (w : World) (h : diskm_blocks.B0 a_b a_l a_c w   R) :
    KW Tryz.prog 71 11 (diskm_blocks.RV R) ([(0, [])].map (toItem (Tryz.f71.body.getD .skip))) [(0, .slice a_b a_l a_c)] w := by
  exact block_spec Tryz.func71 Tryz.mixed stops_nil (Eq.mp (diskm_blocks.B0_eq a_b a_l a_c w   R ) h)
theorem diskm_blocks.sound (a_b : Option Addr) (a_l a_c : Nat) (w : World) (R : Option Addr → Nat → Nat → World → Prop) (h : diskm_blocks.B0 a_b a_l a_c w R) : diskm_blocks.Call a_b a_l a_c w R := by
  have hc := calls_of_block (args := #[.slice a_b a_l a_c]) Tryz.func71 (body := (Tryz.f71.body.getD .skip)) (by kernel_rfl) (by kernel_rfl) (args_slot _) (diskm_blocks.B0_sound a_b a_l a_c w h)
  exact hc.mono fun e w' he => by
    obtain ⟨v, rfl, hv⟩ := he
    exact diskm_blocks.RV_elim hv
def store_Store_read.B0 (t : Option Addr) (b : Int) (w : World)   (R : ByteArray → World → Prop) : Prop :=
  Pn t fun a =>
  LdP a w fun x11 =>
  diskm_Disk_Read.Call x11 b w fun r13_0 r13_1 w1 =>
  R r13_0 w1
theorem store_Store_read.B0_eq (t : Option Addr) (b : Int) (w : World)   (R : ByteArray → World → Prop)  :
    (
  Pn t fun a =>
  LdP a w fun x11 =>
  diskm_Disk_Read.Call x11 b w fun r13_0 r13_1 w1 =>
  R r13_0 w1) = kstep Tryz.prog 17 Tryz.f72.results.toList (Tryz.f72.body.getD .skip) (store_Store_read.RV R) (kvc Tryz.prog 17 Tryz.f72.results.toList (Tryz.f72.body.getD .skip) (store_Store_read.RV R) [] 2000) [(0, [])] [(0, .pointer t), (1, .int .i64 b)] w := by kernel_rfl
theorem store_Store_read.B0_sound {R : ByteArray → World → Prop}  (t : Option Addr) (b : Int) (w : World) (h : store_Store_read.B0 t b w   R) :
    KW Tryz.prog 72 17 (store_Store_read.RV R) ([(0, [])].map (toItem (Tryz.f72.body.getD .skip))) [(0, .pointer t), (1, .int .i64 b)] w := by
  exact block_spec Tryz.func72 Tryz.mixed stops_nil (Eq.mp (store_Store_read.B0_eq t b w   R ) h)
theorem store_Store_read.sound (t : Option Addr) (b : Int) (w : World) (R : ByteArray → World → Prop) (h : store_Store_read.B0 t b w R) : store_Store_read.Call t b w R := by
  have hc := calls_of_block (args := #[.pointer t, .int .i64 b]) Tryz.func72 (body := (Tryz.f72.body.getD .skip)) (by kernel_rfl) (by kernel_rfl) (args_slot _) (store_Store_read.B0_sound t b w h)
  exact hc.mono fun e w' he => by
    obtain ⟨v, rfl, hv⟩ := he
    exact store_Store_read.RV_elim hv
def store_decMeta.B0 (b : ByteArray) (w : World)   (R : Bool → Int → Int → Int → World → Prop) : Prop :=
  New (.cells #[.bool false, .int .i64 (0 : Int), .int .i64 (0 : Int), .int .i64 (0 : Int)] 115) w fun b2 w1 =>
  store_whole.Call b w1 fun r6 w2 =>
  Bm (!r6) (
    Sts [.bool false, .int .i64 (0 : Int), .int .i64 (0 : Int), .int .i64 (0 : Int)] ⟨b2, 0, none⟩ 0 w2 fun w3 =>
    LdB ⟨b2, 0, none⟩ w3 fun r_0 =>
    LdI .i64 ⟨b2, 1, none⟩ w3 fun r_1 =>
    LdI .i64 ⟨b2, 2, none⟩ w3 fun r_2 =>
    LdI .i64 ⟨b2, 3, none⟩ w3 fun r_3 =>
    R r_0 r_1 r_2 r_3 w3) (
    store_get8.Call b (1 : Int) w2 fun r10 w4 =>
    store_get8.Call b (9 : Int) w4 fun r12 w5 =>
    (0 ≤ (32 : Int) ∧ (32 : Int) < ((b.size : Nat) : Int)) ∧
    Sts [.bool true, .int .i64 r10, .int .i64 r12, .int .i64 (IntKind.i64.wrap ((IntKind.i64.wrap (byteAt b (32 : Int))) - (1 : Int)))] ⟨b2, 0, none⟩ 0 w5 fun w6 =>
    LdB ⟨b2, 0, none⟩ w6 fun r_0_1 =>
    LdI .i64 ⟨b2, 1, none⟩ w6 fun r_1_1 =>
    LdI .i64 ⟨b2, 2, none⟩ w6 fun r_2_1 =>
    LdI .i64 ⟨b2, 3, none⟩ w6 fun r_3_1 =>
    R r_0_1 r_1_1 r_2_1 r_3_1 w6)
theorem store_decMeta.B0_eq (b : ByteArray) (w : World)   (R : Bool → Int → Int → Int → World → Prop)  :
    (
  New (.cells #[.bool false, .int .i64 (0 : Int), .int .i64 (0 : Int), .int .i64 (0 : Int)] 115) w fun b2 w1 =>
  store_whole.Call b w1 fun r6 w2 =>
  Bm (!r6) (
    Sts [.bool false, .int .i64 (0 : Int), .int .i64 (0 : Int), .int .i64 (0 : Int)] ⟨b2, 0, none⟩ 0 w2 fun w3 =>
    LdB ⟨b2, 0, none⟩ w3 fun r_0 =>
    LdI .i64 ⟨b2, 1, none⟩ w3 fun r_1 =>
    LdI .i64 ⟨b2, 2, none⟩ w3 fun r_2 =>
    LdI .i64 ⟨b2, 3, none⟩ w3 fun r_3 =>
    R r_0 r_1 r_2 r_3 w3) (
    store_get8.Call b (1 : Int) w2 fun r10 w4 =>
    store_get8.Call b (9 : Int) w4 fun r12 w5 =>
    (0 ≤ (32 : Int) ∧ (32 : Int) < ((b.size : Nat) : Int)) ∧
    Sts [.bool true, .int .i64 r10, .int .i64 r12, .int .i64 (IntKind.i64.wrap ((IntKind.i64.wrap (byteAt b (32 : Int))) - (1 : Int)))] ⟨b2, 0, none⟩ 0 w5 fun w6 =>
    LdB ⟨b2, 0, none⟩ w6 fun r_0_1 =>
    LdI .i64 ⟨b2, 1, none⟩ w6 fun r_1_1 =>
    LdI .i64 ⟨b2, 2, none⟩ w6 fun r_2_1 =>
    LdI .i64 ⟨b2, 3, none⟩ w6 fun r_3_1 =>
    R r_0_1 r_1_1 r_2_1 r_3_1 w6)) = kstep Tryz.prog 20 Tryz.f73.results.toList (Tryz.f73.body.getD .skip) (store_decMeta.RV R) (kvc Tryz.prog 20 Tryz.f73.results.toList (Tryz.f73.body.getD .skip) (store_decMeta.RV R) [] 2000) [(0, [])] [(0, .string b)] w := by kernel_rfl
theorem store_decMeta.B0_sound {R : Bool → Int → Int → Int → World → Prop}  (b : ByteArray) (w : World) (h : store_decMeta.B0 b w   R) :
    KW Tryz.prog 73 20 (store_decMeta.RV R) ([(0, [])].map (toItem (Tryz.f73.body.getD .skip))) [(0, .string b)] w := by
  exact block_spec Tryz.func73 Tryz.mixed stops_nil (Eq.mp (store_decMeta.B0_eq b w   R ) h)
theorem store_decMeta.sound (b : ByteArray) (w : World) (R : Bool → Int → Int → Int → World → Prop) (h : store_decMeta.B0 b w R) : store_decMeta.Call b w R := by
  have hc := calls_of_block (args := #[.string b]) Tryz.func73 (body := (Tryz.f73.body.getD .skip)) (by kernel_rfl) (by kernel_rfl) (args_slot _) (store_decMeta.B0_sound b w h)
  exact hc.mono fun e w' he => by
    obtain ⟨v, rfl, hv⟩ := he
    exact store_decMeta.RV_elim hv
def store_decHead.B1 (b : ByteArray) (t2 : Nat) (t19 : Bool) (w : World)   (R : Bool → Int → Int → Int → Int → Int → World → Prop) : Prop :=
  Bm t19 (
    Sts [.bool false, .int .i64 (0 : Int), .int .i64 (0 : Int), .int .i64 (0 : Int), .int .i64 (0 : Int), .int .i64 (0 : Int)] ⟨t2, 0, none⟩ 0 w fun w1 =>
    LdB ⟨t2, 0, none⟩ w1 fun r_0 =>
    LdI .i64 ⟨t2, 1, none⟩ w1 fun r_1 =>
    LdI .i64 ⟨t2, 2, none⟩ w1 fun r_2 =>
    LdI .i64 ⟨t2, 3, none⟩ w1 fun r_3 =>
    LdI .i64 ⟨t2, 4, none⟩ w1 fun r_4 =>
    LdI .i64 ⟨t2, 5, none⟩ w1 fun r_5 =>
    R r_0 r_1 r_2 r_3 r_4 r_5 w1) (
    store_get8.Call b (1 : Int) w fun r22 w2 =>
    store_get8.Call b (9 : Int) w2 fun r24 w3 =>
    store_get8.Call b (32 : Int) w3 fun r26 w4 =>
    (0 ≤ (40 : Int) ∧ (40 : Int) < ((b.size : Nat) : Int)) ∧
    (0 ≤ (41 : Int) ∧ (41 : Int) < ((b.size : Nat) : Int)) ∧
    Sts [.bool true, .int .i64 r22, .int .i64 r24, .int .i64 r26, .int .i64 (IntKind.i64.wrap (byteAt b (40 : Int))), .int .i64 (IntKind.i64.wrap (byteAt b (41 : Int)))] ⟨t2, 0, none⟩ 0 w4.drew fun w5 =>
    LdB ⟨t2, 0, none⟩ w5 fun r_0_1 =>
    LdI .i64 ⟨t2, 1, none⟩ w5 fun r_1_1 =>
    LdI .i64 ⟨t2, 2, none⟩ w5 fun r_2_1 =>
    LdI .i64 ⟨t2, 3, none⟩ w5 fun r_3_1 =>
    LdI .i64 ⟨t2, 4, none⟩ w5 fun r_4_1 =>
    LdI .i64 ⟨t2, 5, none⟩ w5 fun r_5_1 =>
    R r_0_1 r_1_1 r_2_1 r_3_1 r_4_1 r_5_1 w5)
theorem store_decHead.B1_eq (b : ByteArray) (t2 : Nat) (t19 : Bool) (w : World)   (R : Bool → Int → Int → Int → Int → Int → World → Prop)  :
    (
  Bm t19 (
    Sts [.bool false, .int .i64 (0 : Int), .int .i64 (0 : Int), .int .i64 (0 : Int), .int .i64 (0 : Int), .int .i64 (0 : Int)] ⟨t2, 0, none⟩ 0 w fun w1 =>
    LdB ⟨t2, 0, none⟩ w1 fun r_0 =>
    LdI .i64 ⟨t2, 1, none⟩ w1 fun r_1 =>
    LdI .i64 ⟨t2, 2, none⟩ w1 fun r_2 =>
    LdI .i64 ⟨t2, 3, none⟩ w1 fun r_3 =>
    LdI .i64 ⟨t2, 4, none⟩ w1 fun r_4 =>
    LdI .i64 ⟨t2, 5, none⟩ w1 fun r_5 =>
    R r_0 r_1 r_2 r_3 r_4 r_5 w1) (
    store_get8.Call b (1 : Int) w fun r22 w2 =>
    store_get8.Call b (9 : Int) w2 fun r24 w3 =>
    store_get8.Call b (32 : Int) w3 fun r26 w4 =>
    (0 ≤ (40 : Int) ∧ (40 : Int) < ((b.size : Nat) : Int)) ∧
    (0 ≤ (41 : Int) ∧ (41 : Int) < ((b.size : Nat) : Int)) ∧
    Sts [.bool true, .int .i64 r22, .int .i64 r24, .int .i64 r26, .int .i64 (IntKind.i64.wrap (byteAt b (40 : Int))), .int .i64 (IntKind.i64.wrap (byteAt b (41 : Int)))] ⟨t2, 0, none⟩ 0 w4.drew fun w5 =>
    LdB ⟨t2, 0, none⟩ w5 fun r_0_1 =>
    LdI .i64 ⟨t2, 1, none⟩ w5 fun r_1_1 =>
    LdI .i64 ⟨t2, 2, none⟩ w5 fun r_2_1 =>
    LdI .i64 ⟨t2, 3, none⟩ w5 fun r_3_1 =>
    LdI .i64 ⟨t2, 4, none⟩ w5 fun r_4_1 =>
    LdI .i64 ⟨t2, 5, none⟩ w5 fun r_5_1 =>
    R r_0_1 r_1_1 r_2_1 r_3_1 r_4_1 r_5_1 w5)) = kstep Tryz.prog 37 Tryz.f74.results.toList (Tryz.f74.body.getD .skip) (store_decHead.RV R) (kvc Tryz.prog 37 Tryz.f74.results.toList (Tryz.f74.body.getD .skip) (store_decHead.RV R) [] 2000) [(0, [1, 0, 1]), (0, [1, 1])] [(0, .string b), (2, .pointer (some ⟨t2, 0, none⟩)), (19, .bool t19)] w := by kernel_rfl
theorem store_decHead.B1_sound {R : Bool → Int → Int → Int → Int → Int → World → Prop}  (b : ByteArray) (t2 : Nat) (t19 : Bool) (w : World) (h : store_decHead.B1 b t2 t19 w   R) :
    KW Tryz.prog 74 37 (store_decHead.RV R) ([(0, [1, 0, 1]), (0, [1, 1])].map (toItem (Tryz.f74.body.getD .skip))) [(0, .string b), (2, .pointer (some ⟨t2, 0, none⟩)), (19, .bool t19)] w := by
  exact block_spec Tryz.func74 Tryz.mixed stops_nil (Eq.mp (store_decHead.B1_eq b t2 t19 w   R ) h)
def store_decHead.B0 (b : ByteArray) (w : World)   (R : Bool → Int → Int → Int → Int → Int → World → Prop) : Prop :=
  New (.cells #[.bool false, .int .i64 (0 : Int), .int .i64 (0 : Int), .int .i64 (0 : Int), .int .i64 (0 : Int), .int .i64 (0 : Int)] 117) w fun b2 w1 =>
  store_whole.Call b w1 fun r7 w2 =>
  Bm (!r7) (
    store_decHead.B1 b b2 true w2  R) (
    (0 ≤ (40 : Int) ∧ (40 : Int) < ((b.size : Nat) : Int)) ∧
    Bm (decide ((byteAt b (40 : Int)) > (1 : Int))) (
      store_decHead.B1 b b2 true w2  R) (
      (0 ≤ (41 : Int) ∧ (41 : Int) < ((b.size : Nat) : Int)) ∧
      store_decHead.B1 b b2 (decide ((IntKind.i64.wrap (byteAt b (41 : Int))) > (128 : Int))) w2  R))
theorem store_decHead.B0_eq (b : ByteArray) (w : World)   (R : Bool → Int → Int → Int → Int → Int → World → Prop) (sB1 : ByteArray → Nat → Bool → World → Prop) :
    (
  New (.cells #[.bool false, .int .i64 (0 : Int), .int .i64 (0 : Int), .int .i64 (0 : Int), .int .i64 (0 : Int), .int .i64 (0 : Int)] 117) w fun b2 w1 =>
  store_whole.Call b w1 fun r7 w2 =>
  Bm (!r7) (
    sB1 b b2 true w2) (
    (0 ≤ (40 : Int) ∧ (40 : Int) < ((b.size : Nat) : Int)) ∧
    Bm (decide ((byteAt b (40 : Int)) > (1 : Int))) (
      sB1 b b2 true w2) (
      (0 ≤ (41 : Int) ∧ (41 : Int) < ((b.size : Nat) : Int)) ∧
      sB1 b b2 (decide ((IntKind.i64.wrap (byteAt b (41 : Int))) > (128 : Int))) w2))) = kstep Tryz.prog 37 Tryz.f74.results.toList (Tryz.f74.body.getD .skip) (store_decHead.RV R) (kvc Tryz.prog 37 Tryz.f74.results.toList (Tryz.f74.body.getD .skip) (store_decHead.RV R) [([(0, [1, 0, 1]), (0, [1, 1])], fun σ w => dS (slotOf σ 0) fun b_ => dK (slotOf σ 2) fun t2_ => dB (slotOf σ 19) fun t19_ => sB1 b_ t2_ t19_ w)] 2000) [(0, [])] [(0, .string b)] w := by kernel_rfl
theorem store_decHead.B0_sound {R : Bool → Int → Int → Int → Int → Int → World → Prop}  (b : ByteArray) (w : World) (h : store_decHead.B0 b w   R) :
    KW Tryz.prog 74 37 (store_decHead.RV R) ([(0, [])].map (toItem (Tryz.f74.body.getD .skip))) [(0, .string b)] w := by
  exact block_spec Tryz.func74 Tryz.mixed (stops_cons (fun σ w h => by
      obtain ⟨b_, e0, h⟩ := dS_elim h
      obtain ⟨t2_, e1, h⟩ := dK_elim h
      obtain ⟨t19_, e2, h⟩ := dB_elim h
      exact (store_decHead.B1_sound  b_ t2_ t19_ w h).weaken (Sub.cons (Sub.cons (Sub.cons (Sub.nil _) e2) e1) e0)) stops_nil) (Eq.mp (store_decHead.B0_eq b w   R (fun b_ t2_ t19_ w => store_decHead.B1 b_ t2_ t19_ w  R)) h)
theorem store_decHead.sound (b : ByteArray) (w : World) (R : Bool → Int → Int → Int → Int → Int → World → Prop) (h : store_decHead.B0 b w R) : store_decHead.Call b w R := by
  have hc := calls_of_block (args := #[.string b]) Tryz.func74 (body := (Tryz.f74.body.getD .skip)) (by kernel_rfl) (by kernel_rfl) (args_slot _) (store_decHead.B0_sound b w h)
  exact hc.mono fun e w' he => by
    obtain ⟨v, rfl, hv⟩ := he
    exact store_decHead.RV_elim hv
def store_Store_area.B1 (t : Option Addr) (a n : Int) (out_b : Option Addr) (out_l out_c : Nat) (k : Int) (x : ByteArray) (i : Int) (t32 : Bool) (w : World) (N1 : Option Addr → Int → Int → Option Addr → Nat → Nat → Int → World → Prop) (N2 : Option Addr → Int → Int → Option Addr → Nat → Nat → Int → ByteArray → Int → World → Prop)  (R : ByteArray → World → Prop) : Prop :=
  Bm t32 (
    (0 ≤ i ∧ i < ((x.size : Nat) : Int)) ∧
    New (.cells #[.int .u8 (byteAt x i)] 5) w fun b39 w1 =>
    Append 5 (.int .u8 (0 : Int)) 1 1 out_b out_l out_c (some ⟨b39, 0, none⟩) 1 w1 fun b40 c40 w2 =>
    N2 t a n b40 (out_l + 1) c40 k x (IntKind.i64.wrap (i + (1 : Int))) w2) (
    N1 t a n out_b out_l out_c (IntKind.i64.wrap (k + (1 : Int))) w)
theorem store_Store_area.B1_eq (t : Option Addr) (a n : Int) (out_b : Option Addr) (out_l out_c : Nat) (k : Int) (x : ByteArray) (i : Int) (t32 : Bool) (w : World) (N1 : Option Addr → Int → Int → Option Addr → Nat → Nat → Int → World → Prop) (N2 : Option Addr → Int → Int → Option Addr → Nat → Nat → Int → ByteArray → Int → World → Prop)  (R : ByteArray → World → Prop)  :
    (
  Bm t32 (
    (0 ≤ i ∧ i < ((x.size : Nat) : Int)) ∧
    New (.cells #[.int .u8 (byteAt x i)] 5) w fun b39 w1 =>
    Append 5 (.int .u8 (0 : Int)) 1 1 out_b out_l out_c (some ⟨b39, 0, none⟩) 1 w1 fun b40 c40 w2 =>
    N2 t a n b40 (out_l + 1) c40 k x (IntKind.i64.wrap (i + (1 : Int))) w2) (
    N1 t a n out_b out_l out_c (IntKind.i64.wrap (k + (1 : Int))) w)) = kstep Tryz.prog 43 Tryz.f75.results.toList (Tryz.f75.body.getD .skip) (store_Store_area.RV R) (kvc Tryz.prog 43 Tryz.f75.results.toList (Tryz.f75.body.getD .skip) (store_Store_area.RV R) [([(0, [1, 1, 0, 1, 0, 0, 1, 0, 0, 1, 1, 0, 0]), (2, [1, 1, 0, 1, 0, 0, 1, 0, 0, 1, 1, 0, 0]), (1, [2]), (1, [1]), (0, [1, 1, 0, 1, 0, 0, 1, 1]), (2, [1, 1, 0, 1, 0, 0]), (1, [0]), (0, [1, 1, 1])], fun σ w => dP (slotOf σ 0) fun t_ => dI .i64 (slotOf σ 1) fun a_ => dI .i64 (slotOf σ 2) fun n_ => dL (slotOf σ 7) fun out_b_ out_l_ out_c_ => dI .i64 (slotOf σ 8) fun k_ => dS (slotOf σ 9) fun x_ => dI .i64 (slotOf σ 10) fun i_ => N2 t_ a_ n_ out_b_ out_l_ out_c_ k_ x_ i_ w),
    ([(0, [1, 1, 0, 1, 0, 0]), (2, [1, 1, 0, 1, 0, 0]), (1, [0]), (0, [1, 1, 1])], fun σ w => dP (slotOf σ 0) fun t_ => dI .i64 (slotOf σ 1) fun a_ => dI .i64 (slotOf σ 2) fun n_ => dL (slotOf σ 7) fun out_b_ out_l_ out_c_ => dI .i64 (slotOf σ 8) fun k_ => N1 t_ a_ n_ out_b_ out_l_ out_c_ k_ w)] 2000) [(0, [1, 1, 0, 1, 0, 0, 1, 0, 0, 1, 1, 0, 0, 0, 1]), (0, [1, 1, 0, 1, 0, 0, 1, 0, 0, 1, 1, 0, 0, 1]), (2, [1, 1, 0, 1, 0, 0, 1, 0, 0, 1, 1, 0, 0]), (1, [2]), (1, [1]), (0, [1, 1, 0, 1, 0, 0, 1, 1]), (2, [1, 1, 0, 1, 0, 0]), (1, [0]), (0, [1, 1, 1])] [(0, .pointer t), (1, .int .i64 a), (2, .int .i64 n), (7, .slice out_b out_l out_c), (8, .int .i64 k), (9, .string x), (10, .int .i64 i), (32, .bool t32)] w := by kernel_rfl
theorem store_Store_area.B1_sound {R : ByteArray → World → Prop} {N1 : Option Addr → Int → Int → Option Addr → Nat → Nat → Int → World → Prop} (hN1 : ∀ t a n out_b out_l out_c k w, N1 t a n out_b out_l out_c k w → KW Tryz.prog 75 43 (store_Store_area.RV R) ([(0, [1, 1, 0, 1, 0, 0]), (2, [1, 1, 0, 1, 0, 0]), (1, [0]), (0, [1, 1, 1])].map (toItem (Tryz.f75.body.getD .skip))) [(0, .pointer t), (1, .int .i64 a), (2, .int .i64 n), (7, .slice out_b out_l out_c), (8, .int .i64 k)] w) {N2 : Option Addr → Int → Int → Option Addr → Nat → Nat → Int → ByteArray → Int → World → Prop} (hN2 : ∀ t a n out_b out_l out_c k x i w, N2 t a n out_b out_l out_c k x i w → KW Tryz.prog 75 43 (store_Store_area.RV R) ([(0, [1, 1, 0, 1, 0, 0, 1, 0, 0, 1, 1, 0, 0]), (2, [1, 1, 0, 1, 0, 0, 1, 0, 0, 1, 1, 0, 0]), (1, [2]), (1, [1]), (0, [1, 1, 0, 1, 0, 0, 1, 1]), (2, [1, 1, 0, 1, 0, 0]), (1, [0]), (0, [1, 1, 1])].map (toItem (Tryz.f75.body.getD .skip))) [(0, .pointer t), (1, .int .i64 a), (2, .int .i64 n), (7, .slice out_b out_l out_c), (8, .int .i64 k), (9, .string x), (10, .int .i64 i)] w) (t : Option Addr) (a n : Int) (out_b : Option Addr) (out_l out_c : Nat) (k : Int) (x : ByteArray) (i : Int) (t32 : Bool) (w : World) (h : store_Store_area.B1 t a n out_b out_l out_c k x i t32 w N1 N2  R) :
    KW Tryz.prog 75 43 (store_Store_area.RV R) ([(0, [1, 1, 0, 1, 0, 0, 1, 0, 0, 1, 1, 0, 0, 0, 1]), (0, [1, 1, 0, 1, 0, 0, 1, 0, 0, 1, 1, 0, 0, 1]), (2, [1, 1, 0, 1, 0, 0, 1, 0, 0, 1, 1, 0, 0]), (1, [2]), (1, [1]), (0, [1, 1, 0, 1, 0, 0, 1, 1]), (2, [1, 1, 0, 1, 0, 0]), (1, [0]), (0, [1, 1, 1])].map (toItem (Tryz.f75.body.getD .skip))) [(0, .pointer t), (1, .int .i64 a), (2, .int .i64 n), (7, .slice out_b out_l out_c), (8, .int .i64 k), (9, .string x), (10, .int .i64 i), (32, .bool t32)] w := by
  exact block_spec Tryz.func75 Tryz.mixed (stops_cons (fun σ w h => by
      obtain ⟨t_, e0, h⟩ := dP_elim h
      obtain ⟨a_, e1, h⟩ := dI_elim h
      obtain ⟨n_, e2, h⟩ := dI_elim h
      obtain ⟨out_b_, out_l_, out_c_, e3, h⟩ := dL_elim h
      obtain ⟨k_, e4, h⟩ := dI_elim h
      obtain ⟨x_, e5, h⟩ := dS_elim h
      obtain ⟨i_, e6, h⟩ := dI_elim h
      exact (hN2 t_ a_ n_ out_b_ out_l_ out_c_ k_ x_ i_ w h).weaken (Sub.cons (Sub.cons (Sub.cons (Sub.cons (Sub.cons (Sub.cons (Sub.cons (Sub.nil _) e6) e5) e4) e3) e2) e1) e0)) (stops_cons (fun σ w h => by
      obtain ⟨t_, e0, h⟩ := dP_elim h
      obtain ⟨a_, e1, h⟩ := dI_elim h
      obtain ⟨n_, e2, h⟩ := dI_elim h
      obtain ⟨out_b_, out_l_, out_c_, e3, h⟩ := dL_elim h
      obtain ⟨k_, e4, h⟩ := dI_elim h
      exact (hN1 t_ a_ n_ out_b_ out_l_ out_c_ k_ w h).weaken (Sub.cons (Sub.cons (Sub.cons (Sub.cons (Sub.cons (Sub.nil _) e4) e3) e2) e1) e0)) stops_nil)) (Eq.mp (store_Store_area.B1_eq t a n out_b out_l out_c k x i t32 w N1 N2  R ) h)
def store_Store_area.L2b (t : Option Addr) (a n : Int) (out_b : Option Addr) (out_l out_c : Nat) (k : Int) (x : ByteArray) (i : Int) (w : World) (N1 : Option Addr → Int → Int → Option Addr → Nat → Nat → Int → World → Prop) (N2 : Option Addr → Int → Int → Option Addr → Nat → Nat → Int → ByteArray → Int → World → Prop) (R : ByteArray → World → Prop) : Prop :=
  Bm (decide (i < (64 : Int))) (
    store_Store_area.B1 t a n out_b out_l out_c k x i (decide ((IntKind.i64.wrap ((IntKind.i64.wrap (k * (64 : Int))) + i)) < n)) w N1 N2 R) (
    store_Store_area.B1 t a n out_b out_l out_c k x i false w N1 N2 R)
theorem store_Store_area.L2b_eq (t : Option Addr) (a n : Int) (out_b : Option Addr) (out_l out_c : Nat) (k : Int) (x : ByteArray) (i : Int) (w : World) (N1 : Option Addr → Int → Int → Option Addr → Nat → Nat → Int → World → Prop) (N2 : Option Addr → Int → Int → Option Addr → Nat → Nat → Int → ByteArray → Int → World → Prop) (R : ByteArray → World → Prop) (sB1 : Option Addr → Int → Int → Option Addr → Nat → Nat → Int → ByteArray → Int → Bool → World → Prop) :
    (
  Bm (decide (i < (64 : Int))) (
    sB1 t a n out_b out_l out_c k x i (decide ((IntKind.i64.wrap ((IntKind.i64.wrap (k * (64 : Int))) + i)) < n)) w) (
    sB1 t a n out_b out_l out_c k x i false w)) = kstep Tryz.prog 43 Tryz.f75.results.toList (Tryz.f75.body.getD .skip) (store_Store_area.RV R) (kvc Tryz.prog 43 Tryz.f75.results.toList (Tryz.f75.body.getD .skip) (store_Store_area.RV R) [([(0, [1, 1, 0, 1, 0, 0, 1, 0, 0, 1, 1, 0, 0, 0, 1]), (0, [1, 1, 0, 1, 0, 0, 1, 0, 0, 1, 1, 0, 0, 1]), (2, [1, 1, 0, 1, 0, 0, 1, 0, 0, 1, 1, 0, 0]), (1, [2]), (1, [1]), (0, [1, 1, 0, 1, 0, 0, 1, 1]), (2, [1, 1, 0, 1, 0, 0]), (1, [0]), (0, [1, 1, 1])], fun σ w => dP (slotOf σ 0) fun t_ => dI .i64 (slotOf σ 1) fun a_ => dI .i64 (slotOf σ 2) fun n_ => dL (slotOf σ 7) fun out_b_ out_l_ out_c_ => dI .i64 (slotOf σ 8) fun k_ => dS (slotOf σ 9) fun x_ => dI .i64 (slotOf σ 10) fun i_ => dB (slotOf σ 32) fun t32_ => sB1 t_ a_ n_ out_b_ out_l_ out_c_ k_ x_ i_ t32_ w)] 2000) [(0, [1, 1, 0, 1, 0, 0, 1, 0, 0, 1, 1, 0, 0]), (2, [1, 1, 0, 1, 0, 0, 1, 0, 0, 1, 1, 0, 0]), (1, [2]), (1, [1]), (0, [1, 1, 0, 1, 0, 0, 1, 1]), (2, [1, 1, 0, 1, 0, 0]), (1, [0]), (0, [1, 1, 1])] [(0, .pointer t), (1, .int .i64 a), (2, .int .i64 n), (7, .slice out_b out_l out_c), (8, .int .i64 k), (9, .string x), (10, .int .i64 i)] w := by kernel_rfl
theorem store_Store_area.L2b_sound {R : ByteArray → World → Prop} {N1 : Option Addr → Int → Int → Option Addr → Nat → Nat → Int → World → Prop} (hN1 : ∀ t a n out_b out_l out_c k w, N1 t a n out_b out_l out_c k w → KW Tryz.prog 75 43 (store_Store_area.RV R) ([(0, [1, 1, 0, 1, 0, 0]), (2, [1, 1, 0, 1, 0, 0]), (1, [0]), (0, [1, 1, 1])].map (toItem (Tryz.f75.body.getD .skip))) [(0, .pointer t), (1, .int .i64 a), (2, .int .i64 n), (7, .slice out_b out_l out_c), (8, .int .i64 k)] w) {N2 : Option Addr → Int → Int → Option Addr → Nat → Nat → Int → ByteArray → Int → World → Prop} (hN2 : ∀ t a n out_b out_l out_c k x i w, N2 t a n out_b out_l out_c k x i w → KW Tryz.prog 75 43 (store_Store_area.RV R) ([(0, [1, 1, 0, 1, 0, 0, 1, 0, 0, 1, 1, 0, 0]), (2, [1, 1, 0, 1, 0, 0, 1, 0, 0, 1, 1, 0, 0]), (1, [2]), (1, [1]), (0, [1, 1, 0, 1, 0, 0, 1, 1]), (2, [1, 1, 0, 1, 0, 0]), (1, [0]), (0, [1, 1, 1])].map (toItem (Tryz.f75.body.getD .skip))) [(0, .pointer t), (1, .int .i64 a), (2, .int .i64 n), (7, .slice out_b out_l out_c), (8, .int .i64 k), (9, .string x), (10, .int .i64 i)] w) (t : Option Addr) (a n : Int) (out_b : Option Addr) (out_l out_c : Nat) (k : Int) (x : ByteArray) (i : Int) (w : World) (h : store_Store_area.L2b t a n out_b out_l out_c k x i w N1 N2 R) :
    KW Tryz.prog 75 43 (store_Store_area.RV R) ([(0, [1, 1, 0, 1, 0, 0, 1, 0, 0, 1, 1, 0, 0]), (2, [1, 1, 0, 1, 0, 0, 1, 0, 0, 1, 1, 0, 0]), (1, [2]), (1, [1]), (0, [1, 1, 0, 1, 0, 0, 1, 1]), (2, [1, 1, 0, 1, 0, 0]), (1, [0]), (0, [1, 1, 1])].map (toItem (Tryz.f75.body.getD .skip))) [(0, .pointer t), (1, .int .i64 a), (2, .int .i64 n), (7, .slice out_b out_l out_c), (8, .int .i64 k), (9, .string x), (10, .int .i64 i)] w := by
  exact block_spec Tryz.func75 Tryz.mixed (stops_cons (fun σ w h => by
      obtain ⟨t_, e0, h⟩ := dP_elim h
      obtain ⟨a_, e1, h⟩ := dI_elim h
      obtain ⟨n_, e2, h⟩ := dI_elim h
      obtain ⟨out_b_, out_l_, out_c_, e3, h⟩ := dL_elim h
      obtain ⟨k_, e4, h⟩ := dI_elim h
      obtain ⟨x_, e5, h⟩ := dS_elim h
      obtain ⟨i_, e6, h⟩ := dI_elim h
      obtain ⟨t32_, e7, h⟩ := dB_elim h
      exact (store_Store_area.B1_sound hN1 hN2 t_ a_ n_ out_b_ out_l_ out_c_ k_ x_ i_ t32_ w h).weaken (Sub.cons (Sub.cons (Sub.cons (Sub.cons (Sub.cons (Sub.cons (Sub.cons (Sub.cons (Sub.nil _) e7) e6) e5) e4) e3) e2) e1) e0)) stops_nil) (Eq.mp (store_Store_area.L2b_eq t a n out_b out_l out_c k x i w N1 N2 R (fun t_ a_ n_ out_b_ out_l_ out_c_ k_ x_ i_ t32_ w => store_Store_area.B1 t_ a_ n_ out_b_ out_l_ out_c_ k_ x_ i_ t32_ w N1 N2 R)) h)
def store_Store_area.L2 (t : Option Addr) (a n : Int) (out_b : Option Addr) (out_l out_c : Nat) (k : Int) (x : ByteArray) (i : Int) (w : World) (N1 : Option Addr → Int → Int → Option Addr → Nat → Nat → Int → World → Prop) (R : ByteArray → World → Prop) : Prop :=
  ∃ (I : Nat → Option Addr → Int → Int → Option Addr → Nat → Nat → Int → ByteArray → Int → World → Prop) (m : Nat), I m t a n out_b out_l out_c k x i w ∧ ∀ m t a n out_b out_l out_c k x i w, I m t a n out_b out_l out_c k x i w → store_Store_area.L2b t a n out_b out_l out_c k x i w N1 (fun t' a' n' out_b' out_l' out_c' k' x' i' w' => ∃ m', m' < m ∧ I m' t' a' n' out_b' out_l' out_c' k' x' i' w') R
theorem store_Store_area.L2_sound {R : ByteArray → World → Prop} {N1 : Option Addr → Int → Int → Option Addr → Nat → Nat → Int → World → Prop} (hN1 : ∀ t a n out_b out_l out_c k w, N1 t a n out_b out_l out_c k w → KW Tryz.prog 75 43 (store_Store_area.RV R) ([(0, [1, 1, 0, 1, 0, 0]), (2, [1, 1, 0, 1, 0, 0]), (1, [0]), (0, [1, 1, 1])].map (toItem (Tryz.f75.body.getD .skip))) [(0, .pointer t), (1, .int .i64 a), (2, .int .i64 n), (7, .slice out_b out_l out_c), (8, .int .i64 k)] w) (t : Option Addr) (a n : Int) (out_b : Option Addr) (out_l out_c : Nat) (k : Int) (x : ByteArray) (i : Int) (w : World) (h : store_Store_area.L2 t a n out_b out_l out_c k x i w N1 R) :
    KW Tryz.prog 75 43 (store_Store_area.RV R) ([(0, [1, 1, 0, 1, 0, 0, 1, 0, 0, 1, 1, 0, 0]), (2, [1, 1, 0, 1, 0, 0, 1, 0, 0, 1, 1, 0, 0]), (1, [2]), (1, [1]), (0, [1, 1, 0, 1, 0, 0, 1, 1]), (2, [1, 1, 0, 1, 0, 0]), (1, [0]), (0, [1, 1, 1])].map (toItem (Tryz.f75.body.getD .skip))) [(0, .pointer t), (1, .int .i64 a), (2, .int .i64 n), (7, .slice out_b out_l out_c), (8, .int .i64 k), (9, .string x), (10, .int .i64 i)] w := by
  obtain ⟨I, m, hBase, hr⟩ := h
  refine KW.loop (fun m σ w => ∃ (t : Option Addr) (a n : Int) (out_b : Option Addr) (out_l out_c : Nat) (k : Int) (x : ByteArray) (i : Int), σ = [(0, .pointer t), (1, .int .i64 a), (2, .int .i64 n), (7, .slice out_b out_l out_c), (8, .int .i64 k), (9, .string x), (10, .int .i64 i)] ∧ I m t a n out_b out_l out_c k x i w) ?_ m _ w ⟨t, a, n, out_b, out_l, out_c, k, x, i, rfl, hBase⟩
  rintro m ih σ w ⟨t, a, n, out_b, out_l, out_c, k, x, i, rfl, hI⟩
  exact store_Store_area.L2b_sound hN1 (N2 := fun t' a' n' out_b' out_l' out_c' k' x' i' w' => ∃ m', m' < m ∧ I m' t' a' n' out_b' out_l' out_c' k' x' i' w') (fun t' a' n' out_b' out_l' out_c' k' x' i' w' hx => by obtain ⟨m', hlt, hI'⟩ := hx; exact ih m' hlt _ w' ⟨t', a', n', out_b', out_l', out_c', k', x', i', rfl, hI'⟩) t a n out_b out_l out_c k x i w (hr m t a n out_b out_l out_c k x i w hI)
def store_Store_area.L1b (t : Option Addr) (a n : Int) (out_b : Option Addr) (out_l out_c : Nat) (k : Int) (w : World)  (N1 : Option Addr → Int → Int → Option Addr → Nat → Nat → Int → World → Prop) (R : ByteArray → World → Prop) : Prop :=
  Bm (decide (k < (2 : Int))) (
    store_Store_read.Call t (IntKind.i64.wrap ((IntKind.i64.wrap ((4 : Int) + (IntKind.i64.wrap (a * (2 : Int))))) + k)) w fun r22 w1 =>
    store_Store_area.L2 t a n out_b out_l out_c k r22 (0 : Int) w1 N1 R) (
    ToStr out_b out_l w fun s42 =>
    R s42 w)
theorem store_Store_area.L1b_eq (t : Option Addr) (a n : Int) (out_b : Option Addr) (out_l out_c : Nat) (k : Int) (w : World)  (N1 : Option Addr → Int → Int → Option Addr → Nat → Nat → Int → World → Prop) (R : ByteArray → World → Prop) (sL2 : Option Addr → Int → Int → Option Addr → Nat → Nat → Int → ByteArray → Int → World → Prop) :
    (
  Bm (decide (k < (2 : Int))) (
    store_Store_read.Call t (IntKind.i64.wrap ((IntKind.i64.wrap ((4 : Int) + (IntKind.i64.wrap (a * (2 : Int))))) + k)) w fun r22 w1 =>
    sL2 t a n out_b out_l out_c k r22 (0 : Int) w1) (
    ToStr out_b out_l w fun s42 =>
    R s42 w)) = kstep Tryz.prog 43 Tryz.f75.results.toList (Tryz.f75.body.getD .skip) (store_Store_area.RV R) (kvc Tryz.prog 43 Tryz.f75.results.toList (Tryz.f75.body.getD .skip) (store_Store_area.RV R) [([(0, [1, 1, 0, 1, 0, 0, 1, 0, 0, 1, 1, 0, 0]), (2, [1, 1, 0, 1, 0, 0, 1, 0, 0, 1, 1, 0, 0]), (1, [2]), (1, [1]), (0, [1, 1, 0, 1, 0, 0, 1, 1]), (2, [1, 1, 0, 1, 0, 0]), (1, [0]), (0, [1, 1, 1])], fun σ w => dP (slotOf σ 0) fun t_ => dI .i64 (slotOf σ 1) fun a_ => dI .i64 (slotOf σ 2) fun n_ => dL (slotOf σ 7) fun out_b_ out_l_ out_c_ => dI .i64 (slotOf σ 8) fun k_ => dS (slotOf σ 9) fun x_ => dI .i64 (slotOf σ 10) fun i_ => sL2 t_ a_ n_ out_b_ out_l_ out_c_ k_ x_ i_ w)] 2000) [(0, [1, 1, 0, 1, 0, 0]), (2, [1, 1, 0, 1, 0, 0]), (1, [0]), (0, [1, 1, 1])] [(0, .pointer t), (1, .int .i64 a), (2, .int .i64 n), (7, .slice out_b out_l out_c), (8, .int .i64 k)] w := by kernel_rfl
theorem store_Store_area.L1b_sound {R : ByteArray → World → Prop} {N1 : Option Addr → Int → Int → Option Addr → Nat → Nat → Int → World → Prop} (hN1 : ∀ t a n out_b out_l out_c k w, N1 t a n out_b out_l out_c k w → KW Tryz.prog 75 43 (store_Store_area.RV R) ([(0, [1, 1, 0, 1, 0, 0]), (2, [1, 1, 0, 1, 0, 0]), (1, [0]), (0, [1, 1, 1])].map (toItem (Tryz.f75.body.getD .skip))) [(0, .pointer t), (1, .int .i64 a), (2, .int .i64 n), (7, .slice out_b out_l out_c), (8, .int .i64 k)] w) (t : Option Addr) (a n : Int) (out_b : Option Addr) (out_l out_c : Nat) (k : Int) (w : World) (h : store_Store_area.L1b t a n out_b out_l out_c k w  N1 R) :
    KW Tryz.prog 75 43 (store_Store_area.RV R) ([(0, [1, 1, 0, 1, 0, 0]), (2, [1, 1, 0, 1, 0, 0]), (1, [0]), (0, [1, 1, 1])].map (toItem (Tryz.f75.body.getD .skip))) [(0, .pointer t), (1, .int .i64 a), (2, .int .i64 n), (7, .slice out_b out_l out_c), (8, .int .i64 k)] w := by
  exact block_spec Tryz.func75 Tryz.mixed (stops_cons (fun σ w h => by
      obtain ⟨t_, e0, h⟩ := dP_elim h
      obtain ⟨a_, e1, h⟩ := dI_elim h
      obtain ⟨n_, e2, h⟩ := dI_elim h
      obtain ⟨out_b_, out_l_, out_c_, e3, h⟩ := dL_elim h
      obtain ⟨k_, e4, h⟩ := dI_elim h
      obtain ⟨x_, e5, h⟩ := dS_elim h
      obtain ⟨i_, e6, h⟩ := dI_elim h
      exact (store_Store_area.L2_sound hN1 t_ a_ n_ out_b_ out_l_ out_c_ k_ x_ i_ w h).weaken (Sub.cons (Sub.cons (Sub.cons (Sub.cons (Sub.cons (Sub.cons (Sub.cons (Sub.nil _) e6) e5) e4) e3) e2) e1) e0)) stops_nil) (Eq.mp (store_Store_area.L1b_eq t a n out_b out_l out_c k w  N1 R (fun t_ a_ n_ out_b_ out_l_ out_c_ k_ x_ i_ w => store_Store_area.L2 t_ a_ n_ out_b_ out_l_ out_c_ k_ x_ i_ w N1 R)) h)
def store_Store_area.L1 (t : Option Addr) (a n : Int) (out_b : Option Addr) (out_l out_c : Nat) (k : Int) (w : World)  (R : ByteArray → World → Prop) : Prop :=
  ∃ (I : Nat → Option Addr → Int → Int → Option Addr → Nat → Nat → Int → World → Prop) (m : Nat), I m t a n out_b out_l out_c k w ∧ ∀ m t a n out_b out_l out_c k w, I m t a n out_b out_l out_c k w → store_Store_area.L1b t a n out_b out_l out_c k w  (fun t' a' n' out_b' out_l' out_c' k' w' => ∃ m', m' < m ∧ I m' t' a' n' out_b' out_l' out_c' k' w') R
theorem store_Store_area.L1_sound {R : ByteArray → World → Prop}  (t : Option Addr) (a n : Int) (out_b : Option Addr) (out_l out_c : Nat) (k : Int) (w : World) (h : store_Store_area.L1 t a n out_b out_l out_c k w  R) :
    KW Tryz.prog 75 43 (store_Store_area.RV R) ([(0, [1, 1, 0, 1, 0, 0]), (2, [1, 1, 0, 1, 0, 0]), (1, [0]), (0, [1, 1, 1])].map (toItem (Tryz.f75.body.getD .skip))) [(0, .pointer t), (1, .int .i64 a), (2, .int .i64 n), (7, .slice out_b out_l out_c), (8, .int .i64 k)] w := by
  obtain ⟨I, m, hBase, hr⟩ := h
  refine KW.loop (fun m σ w => ∃ (t : Option Addr) (a n : Int) (out_b : Option Addr) (out_l out_c : Nat) (k : Int), σ = [(0, .pointer t), (1, .int .i64 a), (2, .int .i64 n), (7, .slice out_b out_l out_c), (8, .int .i64 k)] ∧ I m t a n out_b out_l out_c k w) ?_ m _ w ⟨t, a, n, out_b, out_l, out_c, k, rfl, hBase⟩
  rintro m ih σ w ⟨t, a, n, out_b, out_l, out_c, k, rfl, hI⟩
  exact store_Store_area.L1b_sound  (N1 := fun t' a' n' out_b' out_l' out_c' k' w' => ∃ m', m' < m ∧ I m' t' a' n' out_b' out_l' out_c' k' w') (fun t' a' n' out_b' out_l' out_c' k' w' hx => by obtain ⟨m', hlt, hI'⟩ := hx; exact ih m' hlt _ w' ⟨t', a', n', out_b', out_l', out_c', k', rfl, hI'⟩) t a n out_b out_l out_c k w (hr m t a n out_b out_l out_c k w hI)
def store_Store_area.B0 (t : Option Addr) (a n : Int) (w : World)   (R : ByteArray → World → Prop) : Prop :=
  Make 5 (.int .u8 (0 : Int)) 1 1 (0 : Int) (128 : Int) w fun b11 w1 =>
  store_Store_area.L1 t a n (some ⟨b11, 0, none⟩) 0 128 (0 : Int) w1  R
theorem store_Store_area.B0_eq (t : Option Addr) (a n : Int) (w : World)   (R : ByteArray → World → Prop) (sL1 : Option Addr → Int → Int → Option Addr → Nat → Nat → Int → World → Prop) :
    (
  Make 5 (.int .u8 (0 : Int)) 1 1 (0 : Int) (128 : Int) w fun b11 w1 =>
  sL1 t a n (some ⟨b11, 0, none⟩) 0 128 (0 : Int) w1) = kstep Tryz.prog 43 Tryz.f75.results.toList (Tryz.f75.body.getD .skip) (store_Store_area.RV R) (kvc Tryz.prog 43 Tryz.f75.results.toList (Tryz.f75.body.getD .skip) (store_Store_area.RV R) [([(0, [1, 1, 0, 1, 0, 0]), (2, [1, 1, 0, 1, 0, 0]), (1, [0]), (0, [1, 1, 1])], fun σ w => dP (slotOf σ 0) fun t_ => dI .i64 (slotOf σ 1) fun a_ => dI .i64 (slotOf σ 2) fun n_ => dL (slotOf σ 7) fun out_b_ out_l_ out_c_ => dI .i64 (slotOf σ 8) fun k_ => sL1 t_ a_ n_ out_b_ out_l_ out_c_ k_ w)] 2000) [(0, [])] [(0, .pointer t), (1, .int .i64 a), (2, .int .i64 n)] w := by kernel_rfl
theorem store_Store_area.B0_sound {R : ByteArray → World → Prop}  (t : Option Addr) (a n : Int) (w : World) (h : store_Store_area.B0 t a n w   R) :
    KW Tryz.prog 75 43 (store_Store_area.RV R) ([(0, [])].map (toItem (Tryz.f75.body.getD .skip))) [(0, .pointer t), (1, .int .i64 a), (2, .int .i64 n)] w := by
  exact block_spec Tryz.func75 Tryz.mixed (stops_cons (fun σ w h => by
      obtain ⟨t_, e0, h⟩ := dP_elim h
      obtain ⟨a_, e1, h⟩ := dI_elim h
      obtain ⟨n_, e2, h⟩ := dI_elim h
      obtain ⟨out_b_, out_l_, out_c_, e3, h⟩ := dL_elim h
      obtain ⟨k_, e4, h⟩ := dI_elim h
      exact (store_Store_area.L1_sound  t_ a_ n_ out_b_ out_l_ out_c_ k_ w h).weaken (Sub.cons (Sub.cons (Sub.cons (Sub.cons (Sub.cons (Sub.nil _) e4) e3) e2) e1) e0)) stops_nil) (Eq.mp (store_Store_area.B0_eq t a n w   R (fun t_ a_ n_ out_b_ out_l_ out_c_ k_ w => store_Store_area.L1 t_ a_ n_ out_b_ out_l_ out_c_ k_ w  R)) h)
theorem store_Store_area.sound (t : Option Addr) (a n : Int) (w : World) (R : ByteArray → World → Prop) (h : store_Store_area.B0 t a n w R) : store_Store_area.Call t a n w R := by
  have hc := calls_of_block (args := #[.pointer t, .int .i64 a, .int .i64 n]) Tryz.func75 (body := (Tryz.f75.body.getD .skip)) (by kernel_rfl) (by kernel_rfl) (args_slot _) (store_Store_area.B0_sound t a n w h)
  exact hc.mono fun e w' he => by
    obtain ⟨v, rfl, hv⟩ := he
    exact store_Store_area.RV_elim hv
end Go.Proofs.Qxb6500433aGreat
